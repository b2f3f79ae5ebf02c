/- This project's own logic, printed forms and lemmas, as far as this claim needs them (part 3). -/
import Derived.Test.YtgjmmgjbfkodiaaDoorQRegexGroups2
set_option linter.unusedVariables false
set_option maxRecDepth 100000
namespace Go.E
open Go.H
noncomputable section
/-! ### eyot/regex.from -/
namespace regex_from
noncomputable def fn : Func := Go.Proofs.Tryd.f46
noncomputable def body : Code := fn.body.getD .skip
def od : Nat → Ord := fun _ => .done
def tb : Nat → Tab := fun _ => (0, [], [])
def l1E (K : Option Addr → Nat → Nat → Nat → Nat → Option Addr → Nat → Nat → Option Addr → Nat → Nat → Int → Int → Mem → Prop) : Env → Mem → Prop := fun ρ m => UnS (ρ 2) fun x2a x2l x2c => UnPA (ρ 3) fun x3b x3o => UnS (ρ 7) fun x7a x7l x7c => UnS (ρ 46) fun x46a x46l x46c => UnI (ρ 47) .i64 fun x47 => UnI (ρ 48) .i64 fun x48 => K x2a x2l x2c x3b x3o x7a x7l x7c x46a x46l x46c x47 x48 m
def l1B  (K1 : Option Addr → Nat → Nat → Nat → Nat → Option Addr → Nat → Nat → Option Addr → Nat → Nat → Int → Int → Mem → Prop) (x2a : Option Addr) (x2l : Nat) (x2c : Nat) (x3b : Nat) (x3o : Nat) (x7a : Option Addr) (x7l : Nat) (x7c : Nat) (x46a : Option Addr) (x46l : Nat) (x46c : Nat) (x47 : Int) (x48 : Int) (R : Ending → Mem → Prop) (m : Mem) : Prop :=
 Br (decide (x48 < x47)) (
  IxS x46a x46l x48 1 fun x51b x51o =>
  LdV m x51b x51o fun v =>
  UnI v .u8 fun x52 =>
  IxS x2a x2l x48 1 fun x58b x58o =>
  LdV m x58b x58o fun v =>
  UnB v fun x59 =>
  Br x59 (
   LdV m x3b (x3o + 1) fun v =>
   UnI v .u64 fun x62_0 =>
   LdV m x3b ((x3o + 1) + 1) fun v =>
   UnI v .u64 fun x62_1 =>
   LdV m x3b ((x3o + 1) + 2) fun v =>
   UnI v .u64 fun x62_2 =>
   LdV m x3b ((x3o + 1) + 3) fun v =>
   UnI v .u64 fun x62_3 =>
   HC P class_Has.id #[.agg #[.int .u64 x62_0, .int .u64 x62_1, .int .u64 x62_2, .int .u64 x62_3], .int .u8 x52] m (Cont (fun v m1 =>
     UnB v fun x64 =>
     IxS x7a x7l (IntKind.i64.wrap (x48 + 1)) 1 fun x66b x66o =>
     St1 m1 x66b x66o (.bool x64) fun m2 =>
     K1 x2a x2l x2c x3b x3o x7a x7l x7c x46a x46l x46c x47 (IntKind.i64.wrap (x48 + 1)) m2) (panicR R))) (
   IxS x7a x7l (IntKind.i64.wrap (x48 + 1)) 1 fun x66b x66o =>
   St1 m x66b x66o (.bool false) fun m1 =>
   K1 x2a x2l x2c x3b x3o x7a x7l x7c x46a x46l x46c x47 (IntKind.i64.wrap (x48 + 1)) m1)) (
  R (.returned (.slice x7a x7l x7c)) m)
def l1  (x2a : Option Addr) (x2l : Nat) (x2c : Nat) (x3b : Nat) (x3o : Nat) (x7a : Option Addr) (x7l : Nat) (x7c : Nat) (x46a : Option Addr) (x46l : Nat) (x46c : Nat) (x47 : Int) (x48 : Int) (R : Ending → Mem → Prop) (m : Mem) : Prop :=
  ∃ (I : Nat → Option Addr → Nat → Nat → Nat → Nat → Option Addr → Nat → Nat → Option Addr → Nat → Nat → Int → Int → Mem → Prop) (N : Nat), I N x2a x2l x2c x3b x3o x7a x7l x7c x46a x46l x46c x47 x48 m ∧ ∀ N x2a x2l x2c x3b x3o x7a x7l x7c x46a x46l x46c x47 x48 m, I N x2a x2l x2c x3b x3o x7a x7l x7c x46a x46l x46c x47 x48 m → l1B  (fun x2a x2l x2c x3b x3o x7a x7l x7c x46a x46l x46c x47 x48 m => ∃ N1, N1 < N ∧ I N1 x2a x2l x2c x3b x3o x7a x7l x7c x46a x46l x46c x47 x48 m) x2a x2l x2c x3b x3o x7a x7l x7c x46a x46l x46c x47 x48 R m
noncomputable def l1A  (K1 : Option Addr → Nat → Nat → Nat → Nat → Option Addr → Nat → Nat → Option Addr → Nat → Nat → Int → Int → Mem → Prop) (R : Ending → Mem → Prop) : ACode := (.code (lP (bB (sR (cT (sR (bB (sR (sL (sR (sR (body))))))))))))
def l2E (K : Option Addr → Nat → Nat → Option Addr → Nat → Nat → Option Addr → Nat → Nat → Int → Int → Mem → Prop) : Env → Mem → Prop := fun ρ m => UnS (ρ 1) fun x1a x1l x1c => UnS (ρ 2) fun x2a x2l x2c => UnS (ρ 71) fun x71a x71l x71c => UnI (ρ 72) .i64 fun x72 => UnI (ρ 73) .i64 fun x73 => K x1a x1l x1c x2a x2l x2c x71a x71l x71c x72 x73 m
def l2B  (K2 : Option Addr → Nat → Nat → Option Addr → Nat → Nat → Option Addr → Nat → Nat → Int → Int → Mem → Prop) (x1a : Option Addr) (x1l : Nat) (x1c : Nat) (x2a : Option Addr) (x2l : Nat) (x2c : Nat) (x71a : Option Addr) (x71l : Nat) (x71c : Nat) (x72 : Int) (x73 : Int) (R : Ending → Mem → Prop) (m : Mem) : Prop :=
 Br (decide (x73 < x72)) (
  IxS x71a x71l x73 6 fun x75b x75o =>
  LdV m x75b x75o fun v =>
  UnI v .i64 fun x76_0 =>
  LdV m x75b (x75o + 1) fun v =>
  UnI v .u64 fun x76_1 =>
  LdV m x75b (x75o + 2) fun v =>
  UnI v .u64 fun x76_2 =>
  LdV m x75b (x75o + 3) fun v =>
  UnI v .u64 fun x76_3 =>
  LdV m x75b (x75o + 4) fun v =>
  UnI v .u64 fun x76_4 =>
  LdV m x75b (x75o + 5) fun v =>
  UnS v fun x76_5a x76_5l x76_5c =>
  NewC m #[.int .i64 0, .int .u64 0, .int .u64 0, .int .u64 0, .int .u64 0, .slice none 0 0] T_api_Rx fun b11 m1 =>
  St1 m1 b11 0 (.int .i64 x76_0) fun m2 =>
  St1 m2 b11 1 (.int .u64 x76_1) fun m3 =>
  St1 m3 b11 2 (.int .u64 x76_2) fun m4 =>
  St1 m4 b11 3 (.int .u64 x76_3) fun m5 =>
  St1 m5 b11 4 (.int .u64 x76_4) fun m6 =>
  St1 m6 b11 5 (.slice x76_5a x76_5l x76_5c) fun m7 =>
  LdV m7 b11 0 fun v =>
  UnI v .i64 fun x77_0 =>
  LdV m7 b11 1 fun v =>
  UnI v .u64 fun x77_1 =>
  LdV m7 b11 2 fun v =>
  UnI v .u64 fun x77_2 =>
  LdV m7 b11 3 fun v =>
  UnI v .u64 fun x77_3 =>
  LdV m7 b11 4 fun v =>
  UnI v .u64 fun x77_4 =>
  LdV m7 b11 5 fun v =>
  UnS v fun x77_5a x77_5l x77_5c =>
  HC P regex_from.id #[.agg #[.int .i64 x77_0, .int .u64 x77_1, .int .u64 x77_2, .int .u64 x77_3, .int .u64 x77_4, .slice x77_5a x77_5l x77_5c], .slice x1a x1l x1c, .slice x2a x2l x2c] m7 (Cont (fun v m8 =>
    UnS v fun x80a x80l x80c =>
    K2 x1a x1l x1c x80a x80l x80c x71a x71l x71c x72 (IntKind.i64.wrap (x73 + 1)) m8) (panicR R))) (
  R (.returned (.slice x2a x2l x2c)) m)
def l2  (x1a : Option Addr) (x1l : Nat) (x1c : Nat) (x2a : Option Addr) (x2l : Nat) (x2c : Nat) (x71a : Option Addr) (x71l : Nat) (x71c : Nat) (x72 : Int) (x73 : Int) (R : Ending → Mem → Prop) (m : Mem) : Prop :=
  ∃ (I : Nat → Option Addr → Nat → Nat → Option Addr → Nat → Nat → Option Addr → Nat → Nat → Int → Int → Mem → Prop) (N : Nat), I N x1a x1l x1c x2a x2l x2c x71a x71l x71c x72 x73 m ∧ ∀ N x1a x1l x1c x2a x2l x2c x71a x71l x71c x72 x73 m, I N x1a x1l x1c x2a x2l x2c x71a x71l x71c x72 x73 m → l2B  (fun x1a x1l x1c x2a x2l x2c x71a x71l x71c x72 x73 m => ∃ N1, N1 < N ∧ I N1 x1a x1l x1c x2a x2l x2c x71a x71l x71c x72 x73 m) x1a x1l x1c x2a x2l x2c x71a x71l x71c x72 x73 R m
noncomputable def l2A  (K2 : Option Addr → Nat → Nat → Option Addr → Nat → Nat → Option Addr → Nat → Nat → Int → Int → Mem → Prop) (R : Ending → Mem → Prop) : ACode := (.code (lP (bB (sR (sL (cT (sR (cE (sR (bB (sR (sL (sR (sR (body)))))))))))))))
def l3E (K : Option Addr → Nat → Nat → Option Addr → Nat → Nat → Option Addr → Nat → Nat → Option Addr → Nat → Nat → Int → Int → Mem → Prop) : Env → Mem → Prop := fun ρ m => UnS (ρ 1) fun x1a x1l x1c => UnS (ρ 2) fun x2a x2l x2c => UnS (ρ 7) fun x7a x7l x7c => UnS (ρ 86) fun x86a x86l x86c => UnI (ρ 87) .i64 fun x87 => UnI (ρ 88) .i64 fun x88 => K x1a x1l x1c x2a x2l x2c x7a x7l x7c x86a x86l x86c x87 x88 m
def l3B  (K3 : Option Addr → Nat → Nat → Option Addr → Nat → Nat → Option Addr → Nat → Nat → Option Addr → Nat → Nat → Int → Int → Mem → Prop) (x1a : Option Addr) (x1l : Nat) (x1c : Nat) (x2a : Option Addr) (x2l : Nat) (x2c : Nat) (x7a : Option Addr) (x7l : Nat) (x7c : Nat) (x86a : Option Addr) (x86l : Nat) (x86c : Nat) (x87 : Int) (x88 : Int) (R : Ending → Mem → Prop) (m : Mem) : Prop :=
 Br (decide (x88 < x87)) (
  IxS x86a x86l x88 6 fun x90b x90o =>
  LdV m x90b x90o fun v =>
  UnI v .i64 fun x91_0 =>
  LdV m x90b (x90o + 1) fun v =>
  UnI v .u64 fun x91_1 =>
  LdV m x90b (x90o + 2) fun v =>
  UnI v .u64 fun x91_2 =>
  LdV m x90b (x90o + 3) fun v =>
  UnI v .u64 fun x91_3 =>
  LdV m x90b (x90o + 4) fun v =>
  UnI v .u64 fun x91_4 =>
  LdV m x90b (x90o + 5) fun v =>
  UnS v fun x91_5a x91_5l x91_5c =>
  NewC m #[.int .i64 0, .int .u64 0, .int .u64 0, .int .u64 0, .int .u64 0, .slice none 0 0] T_api_Rx fun b13 m1 =>
  St1 m1 b13 0 (.int .i64 x91_0) fun m2 =>
  St1 m2 b13 1 (.int .u64 x91_1) fun m3 =>
  St1 m3 b13 2 (.int .u64 x91_2) fun m4 =>
  St1 m4 b13 3 (.int .u64 x91_3) fun m5 =>
  St1 m5 b13 4 (.int .u64 x91_4) fun m6 =>
  St1 m6 b13 5 (.slice x91_5a x91_5l x91_5c) fun m7 =>
  LdV m7 b13 0 fun v =>
  UnI v .i64 fun x93_0 =>
  LdV m7 b13 1 fun v =>
  UnI v .u64 fun x93_1 =>
  LdV m7 b13 2 fun v =>
  UnI v .u64 fun x93_2 =>
  LdV m7 b13 3 fun v =>
  UnI v .u64 fun x93_3 =>
  LdV m7 b13 4 fun v =>
  UnI v .u64 fun x93_4 =>
  LdV m7 b13 5 fun v =>
  UnS v fun x93_5a x93_5l x93_5c =>
  HC P regex_from.id #[.agg #[.int .i64 x93_0, .int .u64 x93_1, .int .u64 x93_2, .int .u64 x93_3, .int .u64 x93_4, .slice x93_5a x93_5l x93_5c], .slice x1a x1l x1c, .slice x2a x2l x2c] m7 (Cont (fun v m8 =>
    UnS v fun x96a x96l x96c =>
    HC P regex_join.id #[.slice x7a x7l x7c, .slice x96a x96l x96c] m8 (Cont (fun v m9 =>
      UnB v fun x97 =>
      K3 x1a x1l x1c x2a x2l x2c x7a x7l x7c x86a x86l x86c x87 (IntKind.i64.wrap (x88 + 1)) m9) (panicR R))) (panicR R))) (
  R (.returned (.slice x7a x7l x7c)) m)
def l3  (x1a : Option Addr) (x1l : Nat) (x1c : Nat) (x2a : Option Addr) (x2l : Nat) (x2c : Nat) (x7a : Option Addr) (x7l : Nat) (x7c : Nat) (x86a : Option Addr) (x86l : Nat) (x86c : Nat) (x87 : Int) (x88 : Int) (R : Ending → Mem → Prop) (m : Mem) : Prop :=
  ∃ (I : Nat → Option Addr → Nat → Nat → Option Addr → Nat → Nat → Option Addr → Nat → Nat → Option Addr → Nat → Nat → Int → Int → Mem → Prop) (N : Nat), I N x1a x1l x1c x2a x2l x2c x7a x7l x7c x86a x86l x86c x87 x88 m ∧ ∀ N x1a x1l x1c x2a x2l x2c x7a x7l x7c x86a x86l x86c x87 x88 m, I N x1a x1l x1c x2a x2l x2c x7a x7l x7c x86a x86l x86c x87 x88 m → l3B  (fun x1a x1l x1c x2a x2l x2c x7a x7l x7c x86a x86l x86c x87 x88 m => ∃ N1, N1 < N ∧ I N1 x1a x1l x1c x2a x2l x2c x7a x7l x7c x86a x86l x86c x87 x88 m) x1a x1l x1c x2a x2l x2c x7a x7l x7c x86a x86l x86c x87 x88 R m
noncomputable def l3A  (K3 : Option Addr → Nat → Nat → Option Addr → Nat → Nat → Option Addr → Nat → Nat → Option Addr → Nat → Nat → Int → Int → Mem → Prop) (R : Ending → Mem → Prop) : ACode := (.code (lP (bB (sR (cT (sR (cE (sR (cE (sR (bB (sR (sL (sR (sR (body))))))))))))))))
def l5E (K : Option Addr → Nat → Nat → Nat → Nat → Option Addr → Nat → Nat → Option Addr → Nat → Nat → Mem → Prop) : Env → Mem → Prop := fun ρ m => UnS (ρ 1) fun x1a x1l x1c => UnPA (ρ 3) fun x3b x3o => UnS (ρ 7) fun x7a x7l x7c => UnS (ρ 14) fun x14a x14l x14c => K x1a x1l x1c x3b x3o x7a x7l x7c x14a x14l x14c m
def l5B  (K5 : Option Addr → Nat → Nat → Nat → Nat → Option Addr → Nat → Nat → Option Addr → Nat → Nat → Mem → Prop) (x1a : Option Addr) (x1l : Nat) (x1c : Nat) (x3b : Nat) (x3o : Nat) (x7a : Option Addr) (x7l : Nat) (x7c : Nat) (x14a : Option Addr) (x14l : Nat) (x14c : Nat) (R : Ending → Mem → Prop) (m : Mem) : Prop :=
 HC P regex_join.id #[.slice x7a x7l x7c, .slice x14a x14l x14c] m (Cont (fun v m1 =>
   UnB v fun x36 =>
   Br x36 (
    LdV m1 x3b (x3o + 5) fun v =>
    UnS v fun x38a x38l x38c =>
    IxS x38a x38l 0 6 fun x39b x39o =>
    LdV m1 x39b x39o fun v =>
    UnI v .i64 fun x40_0 =>
    LdV m1 x39b (x39o + 1) fun v =>
    UnI v .u64 fun x40_1 =>
    LdV m1 x39b (x39o + 2) fun v =>
    UnI v .u64 fun x40_2 =>
    LdV m1 x39b (x39o + 3) fun v =>
    UnI v .u64 fun x40_3 =>
    LdV m1 x39b (x39o + 4) fun v =>
    UnI v .u64 fun x40_4 =>
    LdV m1 x39b (x39o + 5) fun v =>
    UnS v fun x40_5a x40_5l x40_5c =>
    HC P regex_from.id #[.agg #[.int .i64 x40_0, .int .u64 x40_1, .int .u64 x40_2, .int .u64 x40_3, .int .u64 x40_4, .slice x40_5a x40_5l x40_5c], .slice x1a x1l x1c, .slice x14a x14l x14c] m1 (Cont (fun v m2 =>
      UnS v fun x43a x43l x43c =>
      K5 x1a x1l x1c x3b x3o x7a x7l x7c x43a x43l x43c m2) (panicR R))) (
    R (.returned (.slice x7a x7l x7c)) m1)) (panicR R))
def l5  (x1a : Option Addr) (x1l : Nat) (x1c : Nat) (x3b : Nat) (x3o : Nat) (x7a : Option Addr) (x7l : Nat) (x7c : Nat) (x14a : Option Addr) (x14l : Nat) (x14c : Nat) (R : Ending → Mem → Prop) (m : Mem) : Prop :=
  ∃ (I : Nat → Option Addr → Nat → Nat → Nat → Nat → Option Addr → Nat → Nat → Option Addr → Nat → Nat → Mem → Prop) (N : Nat), I N x1a x1l x1c x3b x3o x7a x7l x7c x14a x14l x14c m ∧ ∀ N x1a x1l x1c x3b x3o x7a x7l x7c x14a x14l x14c m, I N x1a x1l x1c x3b x3o x7a x7l x7c x14a x14l x14c m → l5B  (fun x1a x1l x1c x3b x3o x7a x7l x7c x14a x14l x14c m => ∃ N1, N1 < N ∧ I N1 x1a x1l x1c x3b x3o x7a x7l x7c x14a x14l x14c m) x1a x1l x1c x3b x3o x7a x7l x7c x14a x14l x14c R m
noncomputable def l5A  (K5 : Option Addr → Nat → Nat → Nat → Nat → Option Addr → Nat → Nat → Option Addr → Nat → Nat → Mem → Prop) (R : Ending → Mem → Prop) : ACode := (.code (lP (bB (sR (sR (cE (sR (cE (sR (cE (sR (cE (sR (bB (sR (sL (sR (sR (body)))))))))))))))))))
def k4E (K : Option Addr → Nat → Nat → Option Addr → Nat → Nat → Nat → Nat → Option Addr → Nat → Nat → Mem → Prop) : Env → Mem → Prop := fun ρ m => UnS (ρ 1) fun x1a x1l x1c => UnS (ρ 2) fun x2a x2l x2c => UnPA (ρ 3) fun x3b x3o => UnS (ρ 7) fun x7a x7l x7c => K x1a x1l x1c x2a x2l x2c x3b x3o x7a x7l x7c m
def k4  (x1a : Option Addr) (x1l : Nat) (x1c : Nat) (x2a : Option Addr) (x2l : Nat) (x2c : Nat) (x3b : Nat) (x3o : Nat) (x7a : Option Addr) (x7l : Nat) (x7c : Nat) (R : Ending → Mem → Prop) (m : Mem) : Prop :=
 LdV m x3b (x3o + 5) fun v =>
 UnS v fun x28a x28l x28c =>
 IxS x28a x28l 0 6 fun x29b x29o =>
 LdV m x29b x29o fun v =>
 UnI v .i64 fun x30_0 =>
 LdV m x29b (x29o + 1) fun v =>
 UnI v .u64 fun x30_1 =>
 LdV m x29b (x29o + 2) fun v =>
 UnI v .u64 fun x30_2 =>
 LdV m x29b (x29o + 3) fun v =>
 UnI v .u64 fun x30_3 =>
 LdV m x29b (x29o + 4) fun v =>
 UnI v .u64 fun x30_4 =>
 LdV m x29b (x29o + 5) fun v =>
 UnS v fun x30_5a x30_5l x30_5c =>
 HC P regex_from.id #[.agg #[.int .i64 x30_0, .int .u64 x30_1, .int .u64 x30_2, .int .u64 x30_3, .int .u64 x30_4, .slice x30_5a x30_5l x30_5c], .slice x1a x1l x1c, .slice x2a x2l x2c] m (Cont (fun v m1 =>
   UnS v fun x33a x33l x33c =>
   l5  x1a x1l x1c x3b x3o x7a x7l x7c x33a x33l x33c R m1) (panicR R))
noncomputable def k4A  (R : Ending → Mem → Prop) : ACode := (.seq (.code (sL (sR (cE (sR (cE (sR (cE (sR (cE (sR (bB (sR (sL (sR (sR (body))))))))))))))))) (.block 1 (.cut (l5E fun x1a x1l x1c x3b x3o x7a x7l x7c x14a x14l x14c m => l5  x1a x1l x1c x3b x3o x7a x7l x7c x14a x14l x14c R m) (.loop (lP (bB (sR (sR (cE (sR (cE (sR (cE (sR (cE (sR (bB (sR (sL (sR (sR (body))))))))))))))))))))))
def e0 (a0_0 : Int) (a0_1 : Int) (a0_2 : Int) (a0_3 : Int) (a0_4 : Int) (a0_5a : Option Addr) (a0_5l : Nat) (a0_5c : Nat) (a1a : Option Addr) (a1l : Nat) (a1c : Nat) (a2a : Option Addr) (a2l : Nat) (a2c : Nat) (R : Ending → Mem → Prop) (m : Mem) : Prop :=
 NewC m #[.int .i64 a0_0, .int .u64 a0_1, .int .u64 a0_2, .int .u64 a0_3, .int .u64 a0_4, .slice a0_5a a0_5l a0_5c] T_api_Rx fun b3 m1 =>
 MkS P m1 T_sl_bool (.int .i64 (IntKind.i64.wrap (((a1l : Nat) : Int) + 1))) (.int .i64 (IntKind.i64.wrap (((a1l : Nat) : Int) + 1))) (fun w m2 =>
  UnS w fun x18a x18l x18c =>
  LdV m2 b3 0 fun v =>
  UnI v .i64 fun x20 =>
  Br (x20 == 1) (
   l1  a2a a2l a2c b3 0 x18a x18l x18c a1a a1l a1c ((a1l : Nat) : Int) 0 R m2) (
   Br (x20 == 2) (
    LdV m2 b3 5 fun v =>
    UnS v fun x71a x71l x71c =>
    l2  a1a a1l a1c a2a a2l a2c x71a x71l x71c ((x71l : Nat) : Int) 0 R m2) (
    Br (x20 == 3) (
     LdV m2 b3 5 fun v =>
     UnS v fun x86a x86l x86c =>
     l3  a1a a1l a1c a2a a2l a2c x18a x18l x18c x86a x86l x86c ((x86l : Nat) : Int) 0 R m2) (
     Br (x20 == 6) (
      HC P regex_join.id #[.slice x18a x18l x18c, .slice a2a a2l a2c] m2 (Cont (fun v m3 =>
        UnB v fun x103 =>
        LdV m3 b3 5 fun v =>
        UnS v fun x106a x106l x106c =>
        IxS x106a x106l 0 6 fun x107b x107o =>
        LdV m3 x107b x107o fun v =>
        UnI v .i64 fun x108_0 =>
        LdV m3 x107b (x107o + 1) fun v =>
        UnI v .u64 fun x108_1 =>
        LdV m3 x107b (x107o + 2) fun v =>
        UnI v .u64 fun x108_2 =>
        LdV m3 x107b (x107o + 3) fun v =>
        UnI v .u64 fun x108_3 =>
        LdV m3 x107b (x107o + 4) fun v =>
        UnI v .u64 fun x108_4 =>
        LdV m3 x107b (x107o + 5) fun v =>
        UnS v fun x108_5a x108_5l x108_5c =>
        HC P regex_from.id #[.agg #[.int .i64 x108_0, .int .u64 x108_1, .int .u64 x108_2, .int .u64 x108_3, .int .u64 x108_4, .slice x108_5a x108_5l x108_5c], .slice a1a a1l a1c, .slice a2a a2l a2c] m3 (Cont (fun v m4 =>
        UnS v fun x111a x111l x111c =>
        HC P regex_join.id #[.slice x18a x18l x18c, .slice x111a x111l x111c] m4 (Cont (fun v m5 =>
        UnB v fun x112 =>
        R (.returned (.slice x18a x18l x18c)) m5) (panicR R))) (panicR R))) (panicR R))) (
      LdV m2 b3 0 fun v =>
      UnI v .i64 fun x22 =>
      Br (x22 == 4) (
       HC P regex_join.id #[.slice x18a x18l x18c, .slice a2a a2l a2c] m2 (Cont (fun v m3 =>
        UnB v fun x26 =>
        k4  a1a a1l a1c a2a a2l a2c b3 0 x18a x18l x18c R m3) (panicR R))) (
       k4  a1a a1l a1c a2a a2l a2c b3 0 x18a x18l x18c R m2)))))) (panicR R)
noncomputable def e0A (R : Ending → Mem → Prop) : ACode := (.seq (.code (sL (body))) (.seq (.code (sL (sR (body)))) (.seq (.seq (.code (sL (sL (sR (sR (body)))))) (.block 0 (.seq (.code (sL (bB (sR (sL (sR (sR (body)))))))) (.cond (.tmp 44) (.seq (.code (sL (cT (sR (bB (sR (sL (sR (sR (body)))))))))) (.block 3 (.cut (l1E fun x2a x2l x2c x3b x3o x7a x7l x7c x46a x46l x46c x47 x48 m => l1  x2a x2l x2c x3b x3o x7a x7l x7c x46a x46l x46c x47 x48 R m) (.loop (lP (bB (sR (cT (sR (bB (sR (sL (sR (sR (body))))))))))))))) (.seq (.code (sL (cE (sR (bB (sR (sL (sR (sR (body)))))))))) (.cond (.tmp 68) (.seq (.seq (.code (sL (sL (cT (sR (cE (sR (bB (sR (sL (sR (sR (body))))))))))))) (.block 5 (.cut (l2E fun x1a x1l x1c x2a x2l x2c x71a x71l x71c x72 x73 m => l2  x1a x1l x1c x2a x2l x2c x71a x71l x71c x72 x73 R m) (.loop (lP (bB (sR (sL (cT (sR (cE (sR (bB (sR (sL (sR (sR (body)))))))))))))))))) (.code (sR (cT (sR (cE (sR (bB (sR (sL (sR (sR (body))))))))))))) (.seq (.code (sL (cE (sR (cE (sR (bB (sR (sL (sR (sR (body)))))))))))) (.cond (.tmp 83) (.seq (.code (sL (cT (sR (cE (sR (cE (sR (bB (sR (sL (sR (sR (body)))))))))))))) (.block 7 (.cut (l3E fun x1a x1l x1c x2a x2l x2c x7a x7l x7c x86a x86l x86c x87 x88 m => l3  x1a x1l x1c x2a x2l x2c x7a x7l x7c x86a x86l x86c x87 x88 R m) (.loop (lP (bB (sR (cT (sR (cE (sR (cE (sR (bB (sR (sL (sR (sR (body))))))))))))))))))) (.seq (.code (sL (cE (sR (cE (sR (cE (sR (bB (sR (sL (sR (sR (body)))))))))))))) (.cond (.tmp 99) (.code (cT (sR (cE (sR (cE (sR (cE (sR (bB (sR (sL (sR (sR (body))))))))))))))) (.seq (.code (sL (cE (sR (cE (sR (cE (sR (cE (sR (bB (sR (sL (sR (sR (body)))))))))))))))) (.cut (k4E fun x1a x1l x1c x2a x2l x2c x3b x3o x7a x7l x7c m => k4  x1a x1l x1c x2a x2l x2c x3b x3o x7a x7l x7c R m) (sR (cE (sR (cE (sR (cE (sR (cE (sR (bB (sR (sL (sR (sR (body))))))))))))))))))))))))))) (.code (sR (sR (sR (body))))))))
abbrev l1Q  (R : Ending → Mem → Prop) : Exit → Env → Mem → Prop := (blockQ 3 (blockQ 0 (thenQ (acpt P od (panicR R) (.code (sR (sR (sR (body))))) (bodyQ P fn R)) (bodyQ P fn R))))
abbrev l2Q  (R : Ending → Mem → Prop) : Exit → Env → Mem → Prop := (blockQ 5 (thenQ (acpt P od (panicR R) (.code (sR (cT (sR (cE (sR (bB (sR (sL (sR (sR (body)))))))))))) (blockQ 0 (thenQ (acpt P od (panicR R) (.code (sR (sR (sR (body))))) (bodyQ P fn R)) (bodyQ P fn R)))) (blockQ 0 (thenQ (acpt P od (panicR R) (.code (sR (sR (sR (body))))) (bodyQ P fn R)) (bodyQ P fn R)))))
abbrev l3Q  (R : Ending → Mem → Prop) : Exit → Env → Mem → Prop := (blockQ 7 (blockQ 0 (thenQ (acpt P od (panicR R) (.code (sR (sR (sR (body))))) (bodyQ P fn R)) (bodyQ P fn R))))
abbrev k4Q  (R : Ending → Mem → Prop) : Exit → Env → Mem → Prop := (blockQ 0 (thenQ (acpt P od (panicR R) (.code (sR (sR (sR (body))))) (bodyQ P fn R)) (bodyQ P fn R)))
abbrev l5Q  (R : Ending → Mem → Prop) : Exit → Env → Mem → Prop := (blockQ 1 (k4Q  R))
theorem l1_eq  (K1 : Option Addr → Nat → Nat → Nat → Nat → Option Addr → Nat → Nat → Option Addr → Nat → Nat → Int → Int → Mem → Prop) (R : Ending → Mem → Prop) (x2a : Option Addr) (x2l : Nat) (x2c : Nat) (x3b : Nat) (x3o : Nat) (x7a : Option Addr) (x7l : Nat) (x7c : Nat) (x46a : Option Addr) (x46l : Nat) (x46c : Nat) (x47 : Int) (x48 : Int) (ρ : Env) (m : Mem) : l1B  K1 x2a x2l x2c x3b x3o x7a x7l x7c x46a x46l x46c x47 x48 R m = acpt P od (panicR R) (l1A  K1 R) (thenQ (l1E K1) (l1Q  R)) (upd (upd (upd (upd (upd (upd ρ 48 (.int .i64 x48)) 47 (.int .i64 x47)) 46 (.slice x46a x46l x46c)) 7 (.slice x7a x7l x7c)) 3 (.pointer (some ⟨x3b, x3o, none⟩))) 2 (.slice x2a x2l x2c)) m := by kernel_rfl
theorem l1_er  (K1 : Option Addr → Nat → Nat → Nat → Nat → Option Addr → Nat → Nat → Option Addr → Nat → Nat → Int → Int → Mem → Prop) (R : Ending → Mem → Prop) : (l1A  K1 R).erase = lP (bB (sR (cT (sR (bB (sR (sL (sR (sR (body)))))))))) := by kernel_rfl
theorem l1_ok  (R : Ending → Mem → Prop) (ρ : Env) (m : Mem) (h : (l1E fun x2a x2l x2c x3b x3o x7a x7l x7c x46a x46l x46c x47 x48 m => l1  x2a x2l x2c x3b x3o x7a x7l x7c x46a x46l x46c x47 x48 R m) ρ m) : cpt P od (panicR R) (.loop (lP (bB (sR (cT (sR (bB (sR (sL (sR (sR (body)))))))))))) (l1Q  R) ρ m := by
  unfold l1E at h
  obtain ⟨x2a, x2l, x2c, e2, h⟩ := h.ex
  obtain ⟨x3b, x3o, e3, h⟩ := h.ex
  obtain ⟨x7a, x7l, x7c, e7, h⟩ := h.ex
  obtain ⟨x46a, x46l, x46c, e46, h⟩ := h.ex
  obtain ⟨x47, e47, h⟩ := h.ex
  obtain ⟨x48, e48, h⟩ := h.ex
  obtain ⟨I, N, h0, hs⟩ := h
  refine ⟨fun N => l1E (I N), N, (by show l1E (I N) ρ m; unfold l1E; rw [e2, e3, e7, e46, e47, e48]; exact h0), ?_⟩
  clear h0 e2 e3 e7 e46 e47 e48
  intro N ρ m h
  unfold l1E at h
  obtain ⟨x2a, x2l, x2c, e2, h⟩ := h.ex
  obtain ⟨x3b, x3o, e3, h⟩ := h.ex
  obtain ⟨x7a, x7l, x7c, e7, h⟩ := h.ex
  obtain ⟨x46a, x46l, x46c, e46, h⟩ := h.ex
  obtain ⟨x47, e47, h⟩ := h.ex
  obtain ⟨x48, e48, h⟩ := h.ex
  refine cpt_mono (P := P) (lP (bB (sR (cT (sR (bB (sR (sL (sR (sR (body))))))))))) (Q := thenQ (l1E fun x2a x2l x2c x3b x3o x7a x7l x7c x46a x46l x46c x47 x48 m => ∃ N1, N1 < N ∧ I N1 x2a x2l x2c x3b x3o x7a x7l x7c x46a x46l x46c x47 x48 m) (l1Q  R)) (fun e ρ m h => ?_) ρ m ?_
  · cases e with
    | normal =>
      have h : l1E (fun x2a x2l x2c x3b x3o x7a x7l x7c x46a x46l x46c x47 x48 m => ∃ N1, N1 < N ∧ I N1 x2a x2l x2c x3b x3o x7a x7l x7c x46a x46l x46c x47 x48 m) ρ m := h
      unfold l1E at h
      obtain ⟨x2a, x2l, x2c, e2, h⟩ := h.ex
      obtain ⟨x3b, x3o, e3, h⟩ := h.ex
      obtain ⟨x7a, x7l, x7c, e7, h⟩ := h.ex
      obtain ⟨x46a, x46l, x46c, e46, h⟩ := h.ex
      obtain ⟨x47, e47, h⟩ := h.ex
      obtain ⟨x48, e48, h⟩ := h.ex
      obtain ⟨N1, hlt, h⟩ := h
      exact ⟨N1, hlt, (by show l1E (I N1) ρ m; unfold l1E; rw [e2, e3, e7, e46, e47, e48]; exact h)⟩
    | _ => exact h
  have hh := hs N x2a x2l x2c x3b x3o x7a x7l x7c x46a x46l x46c x47 x48 m h
  generalize (fun x2a x2l x2c x3b x3o x7a x7l x7c x46a x46l x46c x47 x48 m => ∃ N1, N1 < N ∧ I N1 x2a x2l x2c x3b x3o x7a x7l x7c x46a x46l x46c x47 x48 m : Option Addr → Nat → Nat → Nat → Nat → Option Addr → Nat → Nat → Option Addr → Nat → Nat → Int → Int → Mem → Prop) = K1 at hh ⊢
  rw [← upd_self e2, ← upd_self e3, ← upd_self e7, ← upd_self e46, ← upd_self e47, ← upd_self e48]
  rw [← l1_er  K1 R]
  refine acpt_sound (P := P) (l1A  K1 R) _ _ _ True.intro ?_
  exact Eq.mp (l1_eq  K1 R x2a x2l x2c x3b x3o x7a x7l x7c x46a x46l x46c x47 x48 ρ m) hh
theorem l2_eq  (K2 : Option Addr → Nat → Nat → Option Addr → Nat → Nat → Option Addr → Nat → Nat → Int → Int → Mem → Prop) (R : Ending → Mem → Prop) (x1a : Option Addr) (x1l : Nat) (x1c : Nat) (x2a : Option Addr) (x2l : Nat) (x2c : Nat) (x71a : Option Addr) (x71l : Nat) (x71c : Nat) (x72 : Int) (x73 : Int) (ρ : Env) (m : Mem) : l2B  K2 x1a x1l x1c x2a x2l x2c x71a x71l x71c x72 x73 R m = acpt P od (panicR R) (l2A  K2 R) (thenQ (l2E K2) (l2Q  R)) (upd (upd (upd (upd (upd ρ 73 (.int .i64 x73)) 72 (.int .i64 x72)) 71 (.slice x71a x71l x71c)) 2 (.slice x2a x2l x2c)) 1 (.slice x1a x1l x1c)) m := by kernel_rfl
theorem l2_er  (K2 : Option Addr → Nat → Nat → Option Addr → Nat → Nat → Option Addr → Nat → Nat → Int → Int → Mem → Prop) (R : Ending → Mem → Prop) : (l2A  K2 R).erase = lP (bB (sR (sL (cT (sR (cE (sR (bB (sR (sL (sR (sR (body))))))))))))) := by kernel_rfl
theorem l2_ok  (R : Ending → Mem → Prop) (ρ : Env) (m : Mem) (h : (l2E fun x1a x1l x1c x2a x2l x2c x71a x71l x71c x72 x73 m => l2  x1a x1l x1c x2a x2l x2c x71a x71l x71c x72 x73 R m) ρ m) : cpt P od (panicR R) (.loop (lP (bB (sR (sL (cT (sR (cE (sR (bB (sR (sL (sR (sR (body))))))))))))))) (l2Q  R) ρ m := by
  unfold l2E at h
  obtain ⟨x1a, x1l, x1c, e1, h⟩ := h.ex
  obtain ⟨x2a, x2l, x2c, e2, h⟩ := h.ex
  obtain ⟨x71a, x71l, x71c, e71, h⟩ := h.ex
  obtain ⟨x72, e72, h⟩ := h.ex
  obtain ⟨x73, e73, h⟩ := h.ex
  obtain ⟨I, N, h0, hs⟩ := h
  refine ⟨fun N => l2E (I N), N, (by show l2E (I N) ρ m; unfold l2E; rw [e1, e2, e71, e72, e73]; exact h0), ?_⟩
  clear h0 e1 e2 e71 e72 e73
  intro N ρ m h
  unfold l2E at h
  obtain ⟨x1a, x1l, x1c, e1, h⟩ := h.ex
  obtain ⟨x2a, x2l, x2c, e2, h⟩ := h.ex
  obtain ⟨x71a, x71l, x71c, e71, h⟩ := h.ex
  obtain ⟨x72, e72, h⟩ := h.ex
  obtain ⟨x73, e73, h⟩ := h.ex
  refine cpt_mono (P := P) (lP (bB (sR (sL (cT (sR (cE (sR (bB (sR (sL (sR (sR (body)))))))))))))) (Q := thenQ (l2E fun x1a x1l x1c x2a x2l x2c x71a x71l x71c x72 x73 m => ∃ N1, N1 < N ∧ I N1 x1a x1l x1c x2a x2l x2c x71a x71l x71c x72 x73 m) (l2Q  R)) (fun e ρ m h => ?_) ρ m ?_
  · cases e with
    | normal =>
      have h : l2E (fun x1a x1l x1c x2a x2l x2c x71a x71l x71c x72 x73 m => ∃ N1, N1 < N ∧ I N1 x1a x1l x1c x2a x2l x2c x71a x71l x71c x72 x73 m) ρ m := h
      unfold l2E at h
      obtain ⟨x1a, x1l, x1c, e1, h⟩ := h.ex
      obtain ⟨x2a, x2l, x2c, e2, h⟩ := h.ex
      obtain ⟨x71a, x71l, x71c, e71, h⟩ := h.ex
      obtain ⟨x72, e72, h⟩ := h.ex
      obtain ⟨x73, e73, h⟩ := h.ex
      obtain ⟨N1, hlt, h⟩ := h
      exact ⟨N1, hlt, (by show l2E (I N1) ρ m; unfold l2E; rw [e1, e2, e71, e72, e73]; exact h)⟩
    | _ => exact h
  have hh := hs N x1a x1l x1c x2a x2l x2c x71a x71l x71c x72 x73 m h
  generalize (fun x1a x1l x1c x2a x2l x2c x71a x71l x71c x72 x73 m => ∃ N1, N1 < N ∧ I N1 x1a x1l x1c x2a x2l x2c x71a x71l x71c x72 x73 m : Option Addr → Nat → Nat → Option Addr → Nat → Nat → Option Addr → Nat → Nat → Int → Int → Mem → Prop) = K2 at hh ⊢
  rw [← upd_self e1, ← upd_self e2, ← upd_self e71, ← upd_self e72, ← upd_self e73]
  rw [← l2_er  K2 R]
  refine acpt_sound (P := P) (l2A  K2 R) _ _ _ True.intro ?_
  exact Eq.mp (l2_eq  K2 R x1a x1l x1c x2a x2l x2c x71a x71l x71c x72 x73 ρ m) hh
theorem l3_eq  (K3 : Option Addr → Nat → Nat → Option Addr → Nat → Nat → Option Addr → Nat → Nat → Option Addr → Nat → Nat → Int → Int → Mem → Prop) (R : Ending → Mem → Prop) (x1a : Option Addr) (x1l : Nat) (x1c : Nat) (x2a : Option Addr) (x2l : Nat) (x2c : Nat) (x7a : Option Addr) (x7l : Nat) (x7c : Nat) (x86a : Option Addr) (x86l : Nat) (x86c : Nat) (x87 : Int) (x88 : Int) (ρ : Env) (m : Mem) : l3B  K3 x1a x1l x1c x2a x2l x2c x7a x7l x7c x86a x86l x86c x87 x88 R m = acpt P od (panicR R) (l3A  K3 R) (thenQ (l3E K3) (l3Q  R)) (upd (upd (upd (upd (upd (upd ρ 88 (.int .i64 x88)) 87 (.int .i64 x87)) 86 (.slice x86a x86l x86c)) 7 (.slice x7a x7l x7c)) 2 (.slice x2a x2l x2c)) 1 (.slice x1a x1l x1c)) m := by kernel_rfl
theorem l3_er  (K3 : Option Addr → Nat → Nat → Option Addr → Nat → Nat → Option Addr → Nat → Nat → Option Addr → Nat → Nat → Int → Int → Mem → Prop) (R : Ending → Mem → Prop) : (l3A  K3 R).erase = lP (bB (sR (cT (sR (cE (sR (cE (sR (bB (sR (sL (sR (sR (body)))))))))))))) := by kernel_rfl
theorem l3_ok  (R : Ending → Mem → Prop) (ρ : Env) (m : Mem) (h : (l3E fun x1a x1l x1c x2a x2l x2c x7a x7l x7c x86a x86l x86c x87 x88 m => l3  x1a x1l x1c x2a x2l x2c x7a x7l x7c x86a x86l x86c x87 x88 R m) ρ m) : cpt P od (panicR R) (.loop (lP (bB (sR (cT (sR (cE (sR (cE (sR (bB (sR (sL (sR (sR (body)))))))))))))))) (l3Q  R) ρ m := by
  unfold l3E at h
  obtain ⟨x1a, x1l, x1c, e1, h⟩ := h.ex
  obtain ⟨x2a, x2l, x2c, e2, h⟩ := h.ex
  obtain ⟨x7a, x7l, x7c, e7, h⟩ := h.ex
  obtain ⟨x86a, x86l, x86c, e86, h⟩ := h.ex
  obtain ⟨x87, e87, h⟩ := h.ex
  obtain ⟨x88, e88, h⟩ := h.ex
  obtain ⟨I, N, h0, hs⟩ := h
  refine ⟨fun N => l3E (I N), N, (by show l3E (I N) ρ m; unfold l3E; rw [e1, e2, e7, e86, e87, e88]; exact h0), ?_⟩
  clear h0 e1 e2 e7 e86 e87 e88
  intro N ρ m h
  unfold l3E at h
  obtain ⟨x1a, x1l, x1c, e1, h⟩ := h.ex
  obtain ⟨x2a, x2l, x2c, e2, h⟩ := h.ex
  obtain ⟨x7a, x7l, x7c, e7, h⟩ := h.ex
  obtain ⟨x86a, x86l, x86c, e86, h⟩ := h.ex
  obtain ⟨x87, e87, h⟩ := h.ex
  obtain ⟨x88, e88, h⟩ := h.ex
  refine cpt_mono (P := P) (lP (bB (sR (cT (sR (cE (sR (cE (sR (bB (sR (sL (sR (sR (body))))))))))))))) (Q := thenQ (l3E fun x1a x1l x1c x2a x2l x2c x7a x7l x7c x86a x86l x86c x87 x88 m => ∃ N1, N1 < N ∧ I N1 x1a x1l x1c x2a x2l x2c x7a x7l x7c x86a x86l x86c x87 x88 m) (l3Q  R)) (fun e ρ m h => ?_) ρ m ?_
  · cases e with
    | normal =>
      have h : l3E (fun x1a x1l x1c x2a x2l x2c x7a x7l x7c x86a x86l x86c x87 x88 m => ∃ N1, N1 < N ∧ I N1 x1a x1l x1c x2a x2l x2c x7a x7l x7c x86a x86l x86c x87 x88 m) ρ m := h
      unfold l3E at h
      obtain ⟨x1a, x1l, x1c, e1, h⟩ := h.ex
      obtain ⟨x2a, x2l, x2c, e2, h⟩ := h.ex
      obtain ⟨x7a, x7l, x7c, e7, h⟩ := h.ex
      obtain ⟨x86a, x86l, x86c, e86, h⟩ := h.ex
      obtain ⟨x87, e87, h⟩ := h.ex
      obtain ⟨x88, e88, h⟩ := h.ex
      obtain ⟨N1, hlt, h⟩ := h
      exact ⟨N1, hlt, (by show l3E (I N1) ρ m; unfold l3E; rw [e1, e2, e7, e86, e87, e88]; exact h)⟩
    | _ => exact h
  have hh := hs N x1a x1l x1c x2a x2l x2c x7a x7l x7c x86a x86l x86c x87 x88 m h
  generalize (fun x1a x1l x1c x2a x2l x2c x7a x7l x7c x86a x86l x86c x87 x88 m => ∃ N1, N1 < N ∧ I N1 x1a x1l x1c x2a x2l x2c x7a x7l x7c x86a x86l x86c x87 x88 m : Option Addr → Nat → Nat → Option Addr → Nat → Nat → Option Addr → Nat → Nat → Option Addr → Nat → Nat → Int → Int → Mem → Prop) = K3 at hh ⊢
  rw [← upd_self e1, ← upd_self e2, ← upd_self e7, ← upd_self e86, ← upd_self e87, ← upd_self e88]
  rw [← l3_er  K3 R]
  refine acpt_sound (P := P) (l3A  K3 R) _ _ _ True.intro ?_
  exact Eq.mp (l3_eq  K3 R x1a x1l x1c x2a x2l x2c x7a x7l x7c x86a x86l x86c x87 x88 ρ m) hh
theorem l5_eq  (K5 : Option Addr → Nat → Nat → Nat → Nat → Option Addr → Nat → Nat → Option Addr → Nat → Nat → Mem → Prop) (R : Ending → Mem → Prop) (x1a : Option Addr) (x1l : Nat) (x1c : Nat) (x3b : Nat) (x3o : Nat) (x7a : Option Addr) (x7l : Nat) (x7c : Nat) (x14a : Option Addr) (x14l : Nat) (x14c : Nat) (ρ : Env) (m : Mem) : l5B  K5 x1a x1l x1c x3b x3o x7a x7l x7c x14a x14l x14c R m = acpt P od (panicR R) (l5A  K5 R) (thenQ (l5E K5) (l5Q  R)) (upd (upd (upd (upd ρ 14 (.slice x14a x14l x14c)) 7 (.slice x7a x7l x7c)) 3 (.pointer (some ⟨x3b, x3o, none⟩))) 1 (.slice x1a x1l x1c)) m := by kernel_rfl
theorem l5_er  (K5 : Option Addr → Nat → Nat → Nat → Nat → Option Addr → Nat → Nat → Option Addr → Nat → Nat → Mem → Prop) (R : Ending → Mem → Prop) : (l5A  K5 R).erase = lP (bB (sR (sR (cE (sR (cE (sR (cE (sR (cE (sR (bB (sR (sL (sR (sR (body))))))))))))))))) := by kernel_rfl
theorem l5_ok  (R : Ending → Mem → Prop) (ρ : Env) (m : Mem) (h : (l5E fun x1a x1l x1c x3b x3o x7a x7l x7c x14a x14l x14c m => l5  x1a x1l x1c x3b x3o x7a x7l x7c x14a x14l x14c R m) ρ m) : cpt P od (panicR R) (.loop (lP (bB (sR (sR (cE (sR (cE (sR (cE (sR (cE (sR (bB (sR (sL (sR (sR (body))))))))))))))))))) (l5Q  R) ρ m := by
  unfold l5E at h
  obtain ⟨x1a, x1l, x1c, e1, h⟩ := h.ex
  obtain ⟨x3b, x3o, e3, h⟩ := h.ex
  obtain ⟨x7a, x7l, x7c, e7, h⟩ := h.ex
  obtain ⟨x14a, x14l, x14c, e14, h⟩ := h.ex
  obtain ⟨I, N, h0, hs⟩ := h
  refine ⟨fun N => l5E (I N), N, (by show l5E (I N) ρ m; unfold l5E; rw [e1, e3, e7, e14]; exact h0), ?_⟩
  clear h0 e1 e3 e7 e14
  intro N ρ m h
  unfold l5E at h
  obtain ⟨x1a, x1l, x1c, e1, h⟩ := h.ex
  obtain ⟨x3b, x3o, e3, h⟩ := h.ex
  obtain ⟨x7a, x7l, x7c, e7, h⟩ := h.ex
  obtain ⟨x14a, x14l, x14c, e14, h⟩ := h.ex
  refine cpt_mono (P := P) (lP (bB (sR (sR (cE (sR (cE (sR (cE (sR (cE (sR (bB (sR (sL (sR (sR (body)))))))))))))))))) (Q := thenQ (l5E fun x1a x1l x1c x3b x3o x7a x7l x7c x14a x14l x14c m => ∃ N1, N1 < N ∧ I N1 x1a x1l x1c x3b x3o x7a x7l x7c x14a x14l x14c m) (l5Q  R)) (fun e ρ m h => ?_) ρ m ?_
  · cases e with
    | normal =>
      have h : l5E (fun x1a x1l x1c x3b x3o x7a x7l x7c x14a x14l x14c m => ∃ N1, N1 < N ∧ I N1 x1a x1l x1c x3b x3o x7a x7l x7c x14a x14l x14c m) ρ m := h
      unfold l5E at h
      obtain ⟨x1a, x1l, x1c, e1, h⟩ := h.ex
      obtain ⟨x3b, x3o, e3, h⟩ := h.ex
      obtain ⟨x7a, x7l, x7c, e7, h⟩ := h.ex
      obtain ⟨x14a, x14l, x14c, e14, h⟩ := h.ex
      obtain ⟨N1, hlt, h⟩ := h
      exact ⟨N1, hlt, (by show l5E (I N1) ρ m; unfold l5E; rw [e1, e3, e7, e14]; exact h)⟩
    | _ => exact h
  have hh := hs N x1a x1l x1c x3b x3o x7a x7l x7c x14a x14l x14c m h
  generalize (fun x1a x1l x1c x3b x3o x7a x7l x7c x14a x14l x14c m => ∃ N1, N1 < N ∧ I N1 x1a x1l x1c x3b x3o x7a x7l x7c x14a x14l x14c m : Option Addr → Nat → Nat → Nat → Nat → Option Addr → Nat → Nat → Option Addr → Nat → Nat → Mem → Prop) = K5 at hh ⊢
  rw [← upd_self e1, ← upd_self e3, ← upd_self e7, ← upd_self e14]
  rw [← l5_er  K5 R]
  refine acpt_sound (P := P) (l5A  K5 R) _ _ _ True.intro ?_
  exact Eq.mp (l5_eq  K5 R x1a x1l x1c x3b x3o x7a x7l x7c x14a x14l x14c ρ m) hh
theorem k4_eq  (R : Ending → Mem → Prop) (x1a : Option Addr) (x1l : Nat) (x1c : Nat) (x2a : Option Addr) (x2l : Nat) (x2c : Nat) (x3b : Nat) (x3o : Nat) (x7a : Option Addr) (x7l : Nat) (x7c : Nat) (ρ : Env) (m : Mem) : k4  x1a x1l x1c x2a x2l x2c x3b x3o x7a x7l x7c R m = acpt P od (panicR R) (k4A  R) (k4Q  R) (upd (upd (upd (upd ρ 7 (.slice x7a x7l x7c)) 3 (.pointer (some ⟨x3b, x3o, none⟩))) 2 (.slice x2a x2l x2c)) 1 (.slice x1a x1l x1c)) m := by kernel_rfl
theorem k4_er  (R : Ending → Mem → Prop) : (k4A  R).erase = sR (cE (sR (cE (sR (cE (sR (cE (sR (bB (sR (sL (sR (sR (body)))))))))))))) := by kernel_rfl
theorem k4_ok  (R : Ending → Mem → Prop) (ρ : Env) (m : Mem) (h : (k4E fun x1a x1l x1c x2a x2l x2c x3b x3o x7a x7l x7c m => k4  x1a x1l x1c x2a x2l x2c x3b x3o x7a x7l x7c R m) ρ m) : cpt P od (panicR R) (sR (cE (sR (cE (sR (cE (sR (cE (sR (bB (sR (sL (sR (sR (body))))))))))))))) (k4Q  R) ρ m := by
  unfold k4E at h
  obtain ⟨x1a, x1l, x1c, e1, h⟩ := h.ex
  obtain ⟨x2a, x2l, x2c, e2, h⟩ := h.ex
  obtain ⟨x3b, x3o, e3, h⟩ := h.ex
  obtain ⟨x7a, x7l, x7c, e7, h⟩ := h.ex
  rw [← upd_self e1, ← upd_self e2, ← upd_self e3, ← upd_self e7]
  rw [← k4_er  R]
  refine acpt_sound (P := P) (k4A  R) _ _ _ ⟨(fun ρ m h => l5_ok  R ρ m h), True.intro⟩ ?_
  exact Eq.mp (k4_eq  R x1a x1l x1c x2a x2l x2c x3b x3o x7a x7l x7c ρ m) h
theorem e0_eq (a0_0 : Int) (a0_1 : Int) (a0_2 : Int) (a0_3 : Int) (a0_4 : Int) (a0_5a : Option Addr) (a0_5l : Nat) (a0_5c : Nat) (a1a : Option Addr) (a1l : Nat) (a1c : Nat) (a2a : Option Addr) (a2l : Nat) (a2c : Nat) (R : Ending → Mem → Prop) (m : Mem) : e0 a0_0 a0_1 a0_2 a0_3 a0_4 a0_5a a0_5l a0_5c a1a a1l a1c a2a a2l a2c R m = acpt P od (panicR R) (e0A R) (bodyQ P fn R) (argE (#[.agg #[.int .i64 a0_0, .int .u64 a0_1, .int .u64 a0_2, .int .u64 a0_3, .int .u64 a0_4, .slice a0_5a a0_5l a0_5c], .slice a1a a1l a1c, .slice a2a a2l a2c] : Array Value).toList) m := by kernel_rfl
theorem ok (a0_0 : Int) (a0_1 : Int) (a0_2 : Int) (a0_3 : Int) (a0_4 : Int) (a0_5a : Option Addr) (a0_5l : Nat) (a0_5c : Nat) (a1a : Option Addr) (a1l : Nat) (a1c : Nat) (a2a : Option Addr) (a2l : Nat) (a2c : Nat) (R : Ending → Mem → Prop) (m : Mem) (h : e0 a0_0 a0_1 a0_2 a0_3 a0_4 a0_5a a0_5l a0_5c a1a a1l a1c a2a a2l a2c R m) : HC P id #[.agg #[.int .i64 a0_0, .int .u64 a0_1, .int .u64 a0_2, .int .u64 a0_3, .int .u64 a0_4, .slice a0_5a a0_5l a0_5c], .slice a1a a1l a1c, .slice a2a a2l a2c] m R := by
  refine HC_of (fn := fn) (c := body) (od := od) (tb := tb) Go.Proofs.Tryd.func46 (by kernel_rfl) (by kernel_rfl) follows (by kernel_rfl) (of_decide_eq_true (by kernel_rfl)) ?_
  have he : (e0A R).erase = body := by kernel_rfl
  rw [← he]
  refine acpt_sound (P := P) (e0A R) _ _ _ ⟨⟨⟨True.intro, ⟨⟨⟨⟨(fun ρ m h => l1_ok  R ρ m h), True.intro⟩, ⟨⟨⟨True.intro, ⟨(fun ρ m h => l2_ok  R ρ m h), True.intro⟩⟩, ⟨⟨⟨(fun ρ m h => l3_ok  R ρ m h), True.intro⟩, ⟨⟨True.intro, ⟨(fun ρ m h => k4_ok  R ρ m h), True.intro⟩⟩, True.intro⟩⟩, True.intro⟩⟩, True.intro⟩⟩, True.intro⟩, True.intro⟩⟩, True.intro⟩, True.intro⟩ ?_
  exact Eq.mp (e0_eq a0_0 a0_1 a0_2 a0_3 a0_4 a0_5a a0_5l a0_5c a1a a1l a1c a2a a2l a2c R m) h
end regex_from
end
end Go.E
set_option linter.unusedVariables false
set_option maxRecDepth 100000
namespace Go.E
open Go.H
noncomputable section
/-! ### (*eyot/regex.reader).cat -/
namespace regex_reader_cat
noncomputable def fn : Func := Go.Proofs.Tryd.f48
noncomputable def body : Code := fn.body.getD .skip
def od : Nat → Ord := fun _ => .done
def tb : Nat → Tab := fun _ => (0, [], [])
def l1E (K : Option Addr → Nat → Nat → Option Addr → Nat → Nat → Mem → Prop) : Env → Mem → Prop := fun ρ m => UnP (ρ 0) fun r_0 => UnPA (ρ 2) fun x2b x2o => UnS (ρ 3) fun l_3a l_3l l_3c => K r_0 x2b x2o l_3a l_3l l_3c m
def l1B  (K1 : Option Addr → Nat → Nat → Option Addr → Nat → Nat → Mem → Prop) (r_0 : Option Addr) (x2b : Nat) (x2o : Nat) (l_3a : Option Addr) (l_3l : Nat) (l_3c : Nat) (R : Ending → Mem → Prop) (m : Mem) : Prop :=
 NilC r_0 (fun x8b x8o =>
  LdV m x8b x8o fun v =>
  UnStr v fun x10 =>
  Br (decide ((x10.size : Int) > 0)) (
   HC P regex_reader_sees.id #[.pointer r_0, .int .u8 124] m (Cont (fun v m1 =>
     UnB v fun x15 =>
     Br (!x15) (
      HC P regex_reader_sees.id #[.pointer r_0, .int .u8 41] m1 (Cont (fun v m2 =>
        UnB v fun x20 =>
        Br (!x20) (
        HC P regex_reader_rep.id #[.pointer r_0] m2 (Cont (fun v m3 =>
        UnAgg v fun l =>
        UnCons l fun v l =>
        UnI v .i64 fun x25_0 =>
        UnCons l fun v l =>
        UnI v .u64 fun x25_1 =>
        UnCons l fun v l =>
        UnI v .u64 fun x25_2 =>
        UnCons l fun v l =>
        UnI v .u64 fun x25_3 =>
        UnCons l fun v l =>
        UnI v .u64 fun x25_4 =>
        UnCons l fun v l =>
        UnS v fun x25_5a x25_5l x25_5c =>
        UnNil l (
        NewC m3 #[.int .i64 x25_0, .int .u64 x25_1, .int .u64 x25_2, .int .u64 x25_3, .int .u64 x25_4, .slice x25_5a x25_5l x25_5c] T_api_Rx fun b26 m4 =>
        BiN P .append #[T_sl_api_Rx, T_sl_api_Rx] T_sl_api_Rx #[false, false] #[.slice l_3a l_3l l_3c, .slice (some ⟨b26, 0, none⟩) 1 1] m4 (fun w m5 =>
        UnS w fun x27a x27l x27c =>
        K1 r_0 x2b x2o x27a x27l x27c m5) (panicR R))) (panicR R))) (
        HC P regex_one.id #[.int .i64 2, .slice l_3a l_3l l_3c] m2 (Cont (fun v m3 =>
        UnAgg v fun l =>
        UnCons l fun v l =>
        UnI v .i64 fun x29_0 =>
        UnCons l fun v l =>
        UnI v .u64 fun x29_1 =>
        UnCons l fun v l =>
        UnI v .u64 fun x29_2 =>
        UnCons l fun v l =>
        UnI v .u64 fun x29_3 =>
        UnCons l fun v l =>
        UnI v .u64 fun x29_4 =>
        UnCons l fun v l =>
        UnS v fun x29_5a x29_5l x29_5c =>
        UnNil l (
        St1 m3 x2b x2o (.int .i64 x29_0) fun m4 =>
        St1 m4 x2b (x2o + 1) (.int .u64 x29_1) fun m5 =>
        St1 m5 x2b (x2o + 2) (.int .u64 x29_2) fun m6 =>
        St1 m6 x2b (x2o + 3) (.int .u64 x29_3) fun m7 =>
        St1 m7 x2b (x2o + 4) (.int .u64 x29_4) fun m8 =>
        St1 m8 x2b (x2o + 5) (.slice x29_5a x29_5l x29_5c) fun m9 =>
        LdV m9 x2b x2o fun v =>
        UnI v .i64 fun res0_0 =>
        LdV m9 x2b (x2o + 1) fun v =>
        UnI v .u64 fun res0_1 =>
        LdV m9 x2b (x2o + 2) fun v =>
        UnI v .u64 fun res0_2 =>
        LdV m9 x2b (x2o + 3) fun v =>
        UnI v .u64 fun res0_3 =>
        LdV m9 x2b (x2o + 4) fun v =>
        UnI v .u64 fun res0_4 =>
        LdV m9 x2b (x2o + 5) fun v =>
        UnS v fun res0_5a res0_5l res0_5c =>
        R (.returned (.agg #[.int .i64 res0_0, .int .u64 res0_1, .int .u64 res0_2, .int .u64 res0_3, .int .u64 res0_4, .slice res0_5a res0_5l res0_5c])) m9)) (panicR R)))) (panicR R))) (
      HC P regex_one.id #[.int .i64 2, .slice l_3a l_3l l_3c] m1 (Cont (fun v m2 =>
        UnAgg v fun l =>
        UnCons l fun v l =>
        UnI v .i64 fun x29_0 =>
        UnCons l fun v l =>
        UnI v .u64 fun x29_1 =>
        UnCons l fun v l =>
        UnI v .u64 fun x29_2 =>
        UnCons l fun v l =>
        UnI v .u64 fun x29_3 =>
        UnCons l fun v l =>
        UnI v .u64 fun x29_4 =>
        UnCons l fun v l =>
        UnS v fun x29_5a x29_5l x29_5c =>
        UnNil l (
        St1 m2 x2b x2o (.int .i64 x29_0) fun m3 =>
        St1 m3 x2b (x2o + 1) (.int .u64 x29_1) fun m4 =>
        St1 m4 x2b (x2o + 2) (.int .u64 x29_2) fun m5 =>
        St1 m5 x2b (x2o + 3) (.int .u64 x29_3) fun m6 =>
        St1 m6 x2b (x2o + 4) (.int .u64 x29_4) fun m7 =>
        St1 m7 x2b (x2o + 5) (.slice x29_5a x29_5l x29_5c) fun m8 =>
        LdV m8 x2b x2o fun v =>
        UnI v .i64 fun res0_0 =>
        LdV m8 x2b (x2o + 1) fun v =>
        UnI v .u64 fun res0_1 =>
        LdV m8 x2b (x2o + 2) fun v =>
        UnI v .u64 fun res0_2 =>
        LdV m8 x2b (x2o + 3) fun v =>
        UnI v .u64 fun res0_3 =>
        LdV m8 x2b (x2o + 4) fun v =>
        UnI v .u64 fun res0_4 =>
        LdV m8 x2b (x2o + 5) fun v =>
        UnS v fun res0_5a res0_5l res0_5c =>
        R (.returned (.agg #[.int .i64 res0_0, .int .u64 res0_1, .int .u64 res0_2, .int .u64 res0_3, .int .u64 res0_4, .slice res0_5a res0_5l res0_5c])) m8)) (panicR R)))) (panicR R))) (
   HC P regex_one.id #[.int .i64 2, .slice l_3a l_3l l_3c] m (Cont (fun v m1 =>
     UnAgg v fun l =>
     UnCons l fun v l =>
     UnI v .i64 fun x29_0 =>
     UnCons l fun v l =>
     UnI v .u64 fun x29_1 =>
     UnCons l fun v l =>
     UnI v .u64 fun x29_2 =>
     UnCons l fun v l =>
     UnI v .u64 fun x29_3 =>
     UnCons l fun v l =>
     UnI v .u64 fun x29_4 =>
     UnCons l fun v l =>
     UnS v fun x29_5a x29_5l x29_5c =>
     UnNil l (
      St1 m1 x2b x2o (.int .i64 x29_0) fun m2 =>
      St1 m2 x2b (x2o + 1) (.int .u64 x29_1) fun m3 =>
      St1 m3 x2b (x2o + 2) (.int .u64 x29_2) fun m4 =>
      St1 m4 x2b (x2o + 3) (.int .u64 x29_3) fun m5 =>
      St1 m5 x2b (x2o + 4) (.int .u64 x29_4) fun m6 =>
      St1 m6 x2b (x2o + 5) (.slice x29_5a x29_5l x29_5c) fun m7 =>
      LdV m7 x2b x2o fun v =>
      UnI v .i64 fun res0_0 =>
      LdV m7 x2b (x2o + 1) fun v =>
      UnI v .u64 fun res0_1 =>
      LdV m7 x2b (x2o + 2) fun v =>
      UnI v .u64 fun res0_2 =>
      LdV m7 x2b (x2o + 3) fun v =>
      UnI v .u64 fun res0_3 =>
      LdV m7 x2b (x2o + 4) fun v =>
      UnI v .u64 fun res0_4 =>
      LdV m7 x2b (x2o + 5) fun v =>
      UnS v fun res0_5a res0_5l res0_5c =>
      R (.returned (.agg #[.int .i64 res0_0, .int .u64 res0_1, .int .u64 res0_2, .int .u64 res0_3, .int .u64 res0_4, .slice res0_5a res0_5l res0_5c])) m7)) (panicR R)))) (R (.panicked (nilPanic P)) m)
def l1  (r_0 : Option Addr) (x2b : Nat) (x2o : Nat) (l_3a : Option Addr) (l_3l : Nat) (l_3c : Nat) (R : Ending → Mem → Prop) (m : Mem) : Prop :=
  ∃ (I : Nat → Option Addr → Nat → Nat → Option Addr → Nat → Nat → Mem → Prop) (N : Nat), I N r_0 x2b x2o l_3a l_3l l_3c m ∧ ∀ N r_0 x2b x2o l_3a l_3l l_3c m, I N r_0 x2b x2o l_3a l_3l l_3c m → l1B  (fun r_0 x2b x2o l_3a l_3l l_3c m => ∃ N1, N1 < N ∧ I N1 r_0 x2b x2o l_3a l_3l l_3c m) r_0 x2b x2o l_3a l_3l l_3c R m
noncomputable def l1A  (K1 : Option Addr → Nat → Nat → Option Addr → Nat → Nat → Mem → Prop) (R : Ending → Mem → Prop) : ACode := (.code (lP (bB (sL (sR (sR (body)))))))
def e0 (r_0 : Option Addr) (R : Ending → Mem → Prop) (m : Mem) : Prop :=
 NewC m #[.int .i64 0, .int .u64 0, .int .u64 0, .int .u64 0, .int .u64 0, .slice none 0 0] T_api_Rx fun b2 m1 =>
 HC P regex_reader_rep.id #[.pointer r_0] m1 (Cont (fun v m2 =>
   UnAgg v fun l =>
   UnCons l fun v l =>
   UnI v .i64 fun x5_0 =>
   UnCons l fun v l =>
   UnI v .u64 fun x5_1 =>
   UnCons l fun v l =>
   UnI v .u64 fun x5_2 =>
   UnCons l fun v l =>
   UnI v .u64 fun x5_3 =>
   UnCons l fun v l =>
   UnI v .u64 fun x5_4 =>
   UnCons l fun v l =>
   UnS v fun x5_5a x5_5l x5_5c =>
   UnNil l (
    NewC m2 #[.int .i64 x5_0, .int .u64 x5_1, .int .u64 x5_2, .int .u64 x5_3, .int .u64 x5_4, .slice x5_5a x5_5l x5_5c] T_api_Rx fun b6 m3 =>
    l1  r_0 b2 0 (some ⟨b6, 0, none⟩) 1 1 R m3)) (panicR R))
noncomputable def e0A (R : Ending → Mem → Prop) : ACode := (.seq (.code (sL (body))) (.seq (.code (sL (sR (body)))) (.seq (.block 0 (.cut (l1E fun r_0 x2b x2o l_3a l_3l l_3c m => l1  r_0 x2b x2o l_3a l_3l l_3c R m) (.loop (lP (bB (sL (sR (sR (body))))))))) (.code (sR (sR (sR (body))))))))
abbrev l1Q  (R : Ending → Mem → Prop) : Exit → Env → Mem → Prop := (blockQ 0 (thenQ (acpt P od (panicR R) (.code (sR (sR (sR (body))))) (bodyQ P fn R)) (bodyQ P fn R)))
theorem l1_eq  (K1 : Option Addr → Nat → Nat → Option Addr → Nat → Nat → Mem → Prop) (R : Ending → Mem → Prop) (r_0 : Option Addr) (x2b : Nat) (x2o : Nat) (l_3a : Option Addr) (l_3l : Nat) (l_3c : Nat) (ρ : Env) (m : Mem) : l1B  K1 r_0 x2b x2o l_3a l_3l l_3c R m = acpt P od (panicR R) (l1A  K1 R) (thenQ (l1E K1) (l1Q  R)) (upd (upd (upd ρ 3 (.slice l_3a l_3l l_3c)) 2 (.pointer (some ⟨x2b, x2o, none⟩))) 0 (.pointer r_0)) m := by kernel_rfl
theorem l1_er  (K1 : Option Addr → Nat → Nat → Option Addr → Nat → Nat → Mem → Prop) (R : Ending → Mem → Prop) : (l1A  K1 R).erase = lP (bB (sL (sR (sR (body))))) := by kernel_rfl
theorem l1_ok  (R : Ending → Mem → Prop) (ρ : Env) (m : Mem) (h : (l1E fun r_0 x2b x2o l_3a l_3l l_3c m => l1  r_0 x2b x2o l_3a l_3l l_3c R m) ρ m) : cpt P od (panicR R) (.loop (lP (bB (sL (sR (sR (body))))))) (l1Q  R) ρ m := by
  unfold l1E at h
  obtain ⟨r_0, e0, h⟩ := h.ex
  obtain ⟨x2b, x2o, e2, h⟩ := h.ex
  obtain ⟨l_3a, l_3l, l_3c, e3, h⟩ := h.ex
  obtain ⟨I, N, h0, hs⟩ := h
  refine ⟨fun N => l1E (I N), N, (by show l1E (I N) ρ m; unfold l1E; rw [e0, e2, e3]; exact h0), ?_⟩
  clear h0 e0 e2 e3
  intro N ρ m h
  unfold l1E at h
  obtain ⟨r_0, e0, h⟩ := h.ex
  obtain ⟨x2b, x2o, e2, h⟩ := h.ex
  obtain ⟨l_3a, l_3l, l_3c, e3, h⟩ := h.ex
  refine cpt_mono (P := P) (lP (bB (sL (sR (sR (body)))))) (Q := thenQ (l1E fun r_0 x2b x2o l_3a l_3l l_3c m => ∃ N1, N1 < N ∧ I N1 r_0 x2b x2o l_3a l_3l l_3c m) (l1Q  R)) (fun e ρ m h => ?_) ρ m ?_
  · cases e with
    | normal =>
      have h : l1E (fun r_0 x2b x2o l_3a l_3l l_3c m => ∃ N1, N1 < N ∧ I N1 r_0 x2b x2o l_3a l_3l l_3c m) ρ m := h
      unfold l1E at h
      obtain ⟨r_0, e0, h⟩ := h.ex
      obtain ⟨x2b, x2o, e2, h⟩ := h.ex
      obtain ⟨l_3a, l_3l, l_3c, e3, h⟩ := h.ex
      obtain ⟨N1, hlt, h⟩ := h
      exact ⟨N1, hlt, (by show l1E (I N1) ρ m; unfold l1E; rw [e0, e2, e3]; exact h)⟩
    | _ => exact h
  have hh := hs N r_0 x2b x2o l_3a l_3l l_3c m h
  generalize (fun r_0 x2b x2o l_3a l_3l l_3c m => ∃ N1, N1 < N ∧ I N1 r_0 x2b x2o l_3a l_3l l_3c m : Option Addr → Nat → Nat → Option Addr → Nat → Nat → Mem → Prop) = K1 at hh ⊢
  rw [← upd_self e0, ← upd_self e2, ← upd_self e3]
  rw [← l1_er  K1 R]
  refine acpt_sound (P := P) (l1A  K1 R) _ _ _ True.intro ?_
  exact Eq.mp (l1_eq  K1 R r_0 x2b x2o l_3a l_3l l_3c ρ m) hh
theorem e0_eq (r_0 : Option Addr) (R : Ending → Mem → Prop) (m : Mem) : e0 r_0 R m = acpt P od (panicR R) (e0A R) (bodyQ P fn R) (argE (#[.pointer r_0] : Array Value).toList) m := by kernel_rfl
theorem ok (r_0 : Option Addr) (R : Ending → Mem → Prop) (m : Mem) (h : e0 r_0 R m) : HC P id #[.pointer r_0] m R := by
  refine HC_of (fn := fn) (c := body) (od := od) (tb := tb) Go.Proofs.Tryd.func48 (by kernel_rfl) (by kernel_rfl) follows (by kernel_rfl) (of_decide_eq_true (by kernel_rfl)) ?_
  have he : (e0A R).erase = body := by kernel_rfl
  rw [← he]
  refine acpt_sound (P := P) (e0A R) _ _ _ ⟨⟨⟨True.intro, (fun ρ m h => l1_ok  R ρ m h)⟩, True.intro⟩, True.intro⟩ ?_
  exact Eq.mp (e0_eq r_0 R m) h
end regex_reader_cat
/-! ### (*eyot/regex.reader).sees -/
namespace regex_reader_sees
noncomputable def fn : Func := Go.Proofs.Tryd.f49
noncomputable def body : Code := fn.body.getD .skip
def od : Nat → Ord := fun _ => .done
def tb : Nat → Tab := fun _ => (0, [], [])
def e0 (r_0 : Option Addr) (c_1 : Int) (R : Ending → Mem → Prop) (m : Mem) : Prop :=
 NilC r_0 (fun x6b x6o =>
  LdV m x6b x6o fun v =>
  UnStr v fun x8 =>
  Br (decide ((x8.size : Int) > 0)) (
   NilC r_0 (fun x13b x13o =>
    LdV m x13b x13o fun v =>
    UnStr v fun x15 =>
    IxB x15 0 fun x16 =>
    R (.returned (.bool (x16 == c_1))) m) (R (.panicked (nilPanic P)) m)) (
   R (.returned (.bool false)) m)) (R (.panicked (nilPanic P)) m)
noncomputable def e0A (R : Ending → Mem → Prop) : ACode := (.code (body))
theorem e0_eq (r_0 : Option Addr) (c_1 : Int) (R : Ending → Mem → Prop) (m : Mem) : e0 r_0 c_1 R m = acpt P od (panicR R) (e0A R) (bodyQ P fn R) (argE (#[.pointer r_0, .int .u8 c_1] : Array Value).toList) m := by kernel_rfl
theorem ok (r_0 : Option Addr) (c_1 : Int) (R : Ending → Mem → Prop) (m : Mem) (h : e0 r_0 c_1 R m) : HC P id #[.pointer r_0, .int .u8 c_1] m R := by
  refine HC_of (fn := fn) (c := body) (od := od) (tb := tb) Go.Proofs.Tryd.func49 (by kernel_rfl) (by kernel_rfl) follows (by kernel_rfl) (of_decide_eq_true (by kernel_rfl)) ?_
  have he : (e0A R).erase = body := by kernel_rfl
  rw [← he]
  refine acpt_sound (P := P) (e0A R) _ _ _ True.intro ?_
  exact Eq.mp (e0_eq r_0 c_1 R m) h
end regex_reader_sees
/-! ### eyot/regex.one -/
namespace regex_one
noncomputable def fn : Func := Go.Proofs.Tryd.f50
noncomputable def body : Code := fn.body.getD .skip
def od : Nat → Ord := fun _ => .done
def tb : Nat → Tab := fun _ => (0, [], [])
def e0 (kind_0 : Int) (l_1a : Option Addr) (l_1l : Nat) (l_1c : Nat) (R : Ending → Mem → Prop) (m : Mem) : Prop :=
 NewC m #[.int .i64 0, .int .u64 0, .int .u64 0, .int .u64 0, .int .u64 0, .slice none 0 0] T_api_Rx fun b4 m1 =>
 Br (((l_1l : Nat) : Int) == 1) (
  IxS l_1a l_1l 0 6 fun x9b x9o =>
  LdV m1 x9b x9o fun v =>
  UnI v .i64 fun x10_0 =>
  LdV m1 x9b (x9o + 1) fun v =>
  UnI v .u64 fun x10_1 =>
  LdV m1 x9b (x9o + 2) fun v =>
  UnI v .u64 fun x10_2 =>
  LdV m1 x9b (x9o + 3) fun v =>
  UnI v .u64 fun x10_3 =>
  LdV m1 x9b (x9o + 4) fun v =>
  UnI v .u64 fun x10_4 =>
  LdV m1 x9b (x9o + 5) fun v =>
  UnS v fun x10_5a x10_5l x10_5c =>
  St1 m1 b4 0 (.int .i64 x10_0) fun m2 =>
  St1 m2 b4 1 (.int .u64 x10_1) fun m3 =>
  St1 m3 b4 2 (.int .u64 x10_2) fun m4 =>
  St1 m4 b4 3 (.int .u64 x10_3) fun m5 =>
  St1 m5 b4 4 (.int .u64 x10_4) fun m6 =>
  St1 m6 b4 5 (.slice x10_5a x10_5l x10_5c) fun m7 =>
  LdV m7 b4 0 fun v =>
  UnI v .i64 fun res0_0 =>
  LdV m7 b4 1 fun v =>
  UnI v .u64 fun res0_1 =>
  LdV m7 b4 2 fun v =>
  UnI v .u64 fun res0_2 =>
  LdV m7 b4 3 fun v =>
  UnI v .u64 fun res0_3 =>
  LdV m7 b4 4 fun v =>
  UnI v .u64 fun res0_4 =>
  LdV m7 b4 5 fun v =>
  UnS v fun res0_5a res0_5l res0_5c =>
  R (.returned (.agg #[.int .i64 res0_0, .int .u64 res0_1, .int .u64 res0_2, .int .u64 res0_3, .int .u64 res0_4, .slice res0_5a res0_5l res0_5c])) m7) (
  St1 m1 b4 0 (.int .i64 kind_0) fun m2 =>
  St1 m2 b4 1 (.int .u64 0) fun m3 =>
  St1 m3 b4 2 (.int .u64 0) fun m4 =>
  St1 m4 b4 3 (.int .u64 0) fun m5 =>
  St1 m5 b4 4 (.int .u64 0) fun m6 =>
  St1 m6 b4 5 (.slice l_1a l_1l l_1c) fun m7 =>
  LdV m7 b4 0 fun v =>
  UnI v .i64 fun res0_0 =>
  LdV m7 b4 1 fun v =>
  UnI v .u64 fun res0_1 =>
  LdV m7 b4 2 fun v =>
  UnI v .u64 fun res0_2 =>
  LdV m7 b4 3 fun v =>
  UnI v .u64 fun res0_3 =>
  LdV m7 b4 4 fun v =>
  UnI v .u64 fun res0_4 =>
  LdV m7 b4 5 fun v =>
  UnS v fun res0_5a res0_5l res0_5c =>
  R (.returned (.agg #[.int .i64 res0_0, .int .u64 res0_1, .int .u64 res0_2, .int .u64 res0_3, .int .u64 res0_4, .slice res0_5a res0_5l res0_5c])) m7)
noncomputable def e0A (R : Ending → Mem → Prop) : ACode := (.code (body))
theorem e0_eq (kind_0 : Int) (l_1a : Option Addr) (l_1l : Nat) (l_1c : Nat) (R : Ending → Mem → Prop) (m : Mem) : e0 kind_0 l_1a l_1l l_1c R m = acpt P od (panicR R) (e0A R) (bodyQ P fn R) (argE (#[.int .i64 kind_0, .slice l_1a l_1l l_1c] : Array Value).toList) m := by kernel_rfl
theorem ok (kind_0 : Int) (l_1a : Option Addr) (l_1l : Nat) (l_1c : Nat) (R : Ending → Mem → Prop) (m : Mem) (h : e0 kind_0 l_1a l_1l l_1c R m) : HC P id #[.int .i64 kind_0, .slice l_1a l_1l l_1c] m R := by
  refine HC_of (fn := fn) (c := body) (od := od) (tb := tb) Go.Proofs.Tryd.func50 (by kernel_rfl) (by kernel_rfl) follows (by kernel_rfl) (of_decide_eq_true (by kernel_rfl)) ?_
  have he : (e0A R).erase = body := by kernel_rfl
  rw [← he]
  refine acpt_sound (P := P) (e0A R) _ _ _ True.intro ?_
  exact Eq.mp (e0_eq kind_0 l_1a l_1l l_1c R m) h
end regex_one
/-! ### eyot/eyotref8.Empty -/
namespace eyotref8_Empty
noncomputable def fn : Func := Go.Proofs.Tryd.f53
noncomputable def body : Code := fn.body.getD .skip
def od : Nat → Ord := fun _ => .done
def tb : Nat → Tab := fun _ => (0, [], [])
def e0 (s_0_0 : Int) (s_0_1 : Int) (s_0_2 : Int) (s_0_3 : Int) (R : Ending → Mem → Prop) (m : Mem) : Prop :=
 NewC m #[.int .u64 s_0_0, .int .u64 s_0_1, .int .u64 s_0_2, .int .u64 s_0_3] T_api_Set fun b_s_1 m1 =>
 LdV m1 b_s_1 0 fun v =>
 UnI v .u64 fun x3_0 =>
 LdV m1 b_s_1 1 fun v =>
 UnI v .u64 fun x3_1 =>
 LdV m1 b_s_1 2 fun v =>
 UnI v .u64 fun x3_2 =>
 LdV m1 b_s_1 3 fun v =>
 UnI v .u64 fun x3_3 =>
 R (.returned (.bool (eqL [.int .u64 x3_0, .int .u64 x3_1, .int .u64 x3_2, .int .u64 x3_3] [.int .u64 0, .int .u64 0, .int .u64 0, .int .u64 0]))) m1
noncomputable def e0A (R : Ending → Mem → Prop) : ACode := (.code (body))
theorem e0_eq (s_0_0 : Int) (s_0_1 : Int) (s_0_2 : Int) (s_0_3 : Int) (R : Ending → Mem → Prop) (m : Mem) : e0 s_0_0 s_0_1 s_0_2 s_0_3 R m = acpt P od (panicR R) (e0A R) (bodyQ P fn R) (argE (#[.agg #[.int .u64 s_0_0, .int .u64 s_0_1, .int .u64 s_0_2, .int .u64 s_0_3]] : Array Value).toList) m := by kernel_rfl
theorem ok (s_0_0 : Int) (s_0_1 : Int) (s_0_2 : Int) (s_0_3 : Int) (R : Ending → Mem → Prop) (m : Mem) (h : e0 s_0_0 s_0_1 s_0_2 s_0_3 R m) : HC P id #[.agg #[.int .u64 s_0_0, .int .u64 s_0_1, .int .u64 s_0_2, .int .u64 s_0_3]] m R := by
  refine HC_of (fn := fn) (c := body) (od := od) (tb := tb) Go.Proofs.Tryd.func53 (by kernel_rfl) (by kernel_rfl) follows (by kernel_rfl) (of_decide_eq_true (by kernel_rfl)) ?_
  have he : (e0A R).erase = body := by kernel_rfl
  rw [← he]
  refine acpt_sound (P := P) (e0A R) _ _ _ True.intro ?_
  exact Eq.mp (e0_eq s_0_0 s_0_1 s_0_2 s_0_3 R m) h
end eyotref8_Empty
/-! ### eyot/eyotref8.Not -/
namespace eyotref8_Not
noncomputable def fn : Func := Go.Proofs.Tryd.f54
noncomputable def body : Code := fn.body.getD .skip
def od : Nat → Ord := fun _ => .done
def tb : Nat → Tab := fun _ => (0, [], [])
def l1E (K : Nat → Nat → Nat → Nat → Option Addr → Nat → Nat → Int → Mem → Prop) : Env → Mem → Prop := fun ρ m => UnPA (ρ 1) fun a_1b a_1o => UnPA (ρ 2) fun x2b x2o => UnS (ρ 3) fun l_3a l_3l l_3c => UnI (ρ 4) .i64 fun i_4 => K a_1b a_1o x2b x2o l_3a l_3l l_3c i_4 m
def l1B  (K1 : Nat → Nat → Nat → Nat → Option Addr → Nat → Nat → Int → Mem → Prop) (a_1b : Nat) (a_1o : Nat) (x2b : Nat) (x2o : Nat) (l_3a : Option Addr) (l_3l : Nat) (l_3c : Nat) (i_4 : Int) (R : Ending → Mem → Prop) (m : Mem) : Prop :=
 Br (decide (i_4 < 256)) (
  LdV m a_1b a_1o fun v =>
  UnI v .u64 fun x9_0 =>
  LdV m a_1b (a_1o + 1) fun v =>
  UnI v .u64 fun x9_1 =>
  LdV m a_1b (a_1o + 2) fun v =>
  UnI v .u64 fun x9_2 =>
  LdV m a_1b (a_1o + 3) fun v =>
  UnI v .u64 fun x9_3 =>
  HC P eyotref8_Has.id #[.agg #[.int .u64 x9_0, .int .u64 x9_1, .int .u64 x9_2, .int .u64 x9_3], .int .u8 (IntKind.u8.wrap i_4)] m (Cont (fun v m1 =>
    UnB v fun x12 =>
    Br (!x12) (
     NewC m1 #[.int .u8 (IntKind.u8.wrap i_4)] T_uint8 fun b17 m2 =>
     BiN P .append #[T_sl_uint8, T_sl_uint8] T_sl_uint8 #[false, false] #[.slice l_3a l_3l l_3c, .slice (some ⟨b17, 0, none⟩) 1 1] m2 (fun w m3 =>
      UnS w fun x18a x18l x18c =>
      K1 a_1b a_1o x2b x2o x18a x18l x18c (IntKind.i64.wrap (i_4 + 1)) m3) (panicR R)) (
     K1 a_1b a_1o x2b x2o l_3a l_3l l_3c (IntKind.i64.wrap (i_4 + 1)) m1)) (panicR R))) (
  HC P eyotref8_Of.id #[.slice l_3a l_3l l_3c] m (Cont (fun v m1 =>
    UnAgg v fun l =>
    UnCons l fun v l =>
    UnI v .u64 fun x20_0 =>
    UnCons l fun v l =>
    UnI v .u64 fun x20_1 =>
    UnCons l fun v l =>
    UnI v .u64 fun x20_2 =>
    UnCons l fun v l =>
    UnI v .u64 fun x20_3 =>
    UnNil l (
     St1 m1 x2b x2o (.int .u64 x20_0) fun m2 =>
     St1 m2 x2b (x2o + 1) (.int .u64 x20_1) fun m3 =>
     St1 m3 x2b (x2o + 2) (.int .u64 x20_2) fun m4 =>
     St1 m4 x2b (x2o + 3) (.int .u64 x20_3) fun m5 =>
     LdV m5 x2b x2o fun v =>
     UnI v .u64 fun res0_0 =>
     LdV m5 x2b (x2o + 1) fun v =>
     UnI v .u64 fun res0_1 =>
     LdV m5 x2b (x2o + 2) fun v =>
     UnI v .u64 fun res0_2 =>
     LdV m5 x2b (x2o + 3) fun v =>
     UnI v .u64 fun res0_3 =>
     R (.returned (.agg #[.int .u64 res0_0, .int .u64 res0_1, .int .u64 res0_2, .int .u64 res0_3])) m5)) (panicR R)))
def l1  (a_1b : Nat) (a_1o : Nat) (x2b : Nat) (x2o : Nat) (l_3a : Option Addr) (l_3l : Nat) (l_3c : Nat) (i_4 : Int) (R : Ending → Mem → Prop) (m : Mem) : Prop :=
  ∃ (I : Nat → Nat → Nat → Nat → Nat → Option Addr → Nat → Nat → Int → Mem → Prop) (N : Nat), I N a_1b a_1o x2b x2o l_3a l_3l l_3c i_4 m ∧ ∀ N a_1b a_1o x2b x2o l_3a l_3l l_3c i_4 m, I N a_1b a_1o x2b x2o l_3a l_3l l_3c i_4 m → l1B  (fun a_1b a_1o x2b x2o l_3a l_3l l_3c i_4 m => ∃ N1, N1 < N ∧ I N1 a_1b a_1o x2b x2o l_3a l_3l l_3c i_4 m) a_1b a_1o x2b x2o l_3a l_3l l_3c i_4 R m
noncomputable def l1A  (K1 : Nat → Nat → Nat → Nat → Option Addr → Nat → Nat → Int → Mem → Prop) (R : Ending → Mem → Prop) : ACode := (.code (lP (bB (sR (sL (sR (sR (body))))))))
def e0 (a_0_0 : Int) (a_0_1 : Int) (a_0_2 : Int) (a_0_3 : Int) (R : Ending → Mem → Prop) (m : Mem) : Prop :=
 NewC m #[.int .u64 a_0_0, .int .u64 a_0_1, .int .u64 a_0_2, .int .u64 a_0_3] T_api_Set fun b_a_1 m1 =>
 NewC m1 #[.int .u64 0, .int .u64 0, .int .u64 0, .int .u64 0] T_api_Set fun b2 m2 =>
 l1  b_a_1 0 b2 0 none 0 0 0 R m2
noncomputable def e0A (R : Ending → Mem → Prop) : ACode := (.seq (.code (sL (body))) (.seq (.code (sL (sR (body)))) (.seq (.seq (.code (sL (sL (sR (sR (body)))))) (.block 0 (.cut (l1E fun a_1b a_1o x2b x2o l_3a l_3l l_3c i_4 m => l1  a_1b a_1o x2b x2o l_3a l_3l l_3c i_4 R m) (.loop (lP (bB (sR (sL (sR (sR (body))))))))))) (.code (sR (sR (sR (body))))))))
abbrev l1Q  (R : Ending → Mem → Prop) : Exit → Env → Mem → Prop := (blockQ 0 (thenQ (acpt P od (panicR R) (.code (sR (sR (sR (body))))) (bodyQ P fn R)) (bodyQ P fn R)))
theorem l1_eq  (K1 : Nat → Nat → Nat → Nat → Option Addr → Nat → Nat → Int → Mem → Prop) (R : Ending → Mem → Prop) (a_1b : Nat) (a_1o : Nat) (x2b : Nat) (x2o : Nat) (l_3a : Option Addr) (l_3l : Nat) (l_3c : Nat) (i_4 : Int) (ρ : Env) (m : Mem) : l1B  K1 a_1b a_1o x2b x2o l_3a l_3l l_3c i_4 R m = acpt P od (panicR R) (l1A  K1 R) (thenQ (l1E K1) (l1Q  R)) (upd (upd (upd (upd ρ 4 (.int .i64 i_4)) 3 (.slice l_3a l_3l l_3c)) 2 (.pointer (some ⟨x2b, x2o, none⟩))) 1 (.pointer (some ⟨a_1b, a_1o, none⟩))) m := by kernel_rfl
theorem l1_er  (K1 : Nat → Nat → Nat → Nat → Option Addr → Nat → Nat → Int → Mem → Prop) (R : Ending → Mem → Prop) : (l1A  K1 R).erase = lP (bB (sR (sL (sR (sR (body)))))) := by kernel_rfl
theorem l1_ok  (R : Ending → Mem → Prop) (ρ : Env) (m : Mem) (h : (l1E fun a_1b a_1o x2b x2o l_3a l_3l l_3c i_4 m => l1  a_1b a_1o x2b x2o l_3a l_3l l_3c i_4 R m) ρ m) : cpt P od (panicR R) (.loop (lP (bB (sR (sL (sR (sR (body)))))))) (l1Q  R) ρ m := by
  unfold l1E at h
  obtain ⟨a_1b, a_1o, e1, h⟩ := h.ex
  obtain ⟨x2b, x2o, e2, h⟩ := h.ex
  obtain ⟨l_3a, l_3l, l_3c, e3, h⟩ := h.ex
  obtain ⟨i_4, e4, h⟩ := h.ex
  obtain ⟨I, N, h0, hs⟩ := h
  refine ⟨fun N => l1E (I N), N, (by show l1E (I N) ρ m; unfold l1E; rw [e1, e2, e3, e4]; exact h0), ?_⟩
  clear h0 e1 e2 e3 e4
  intro N ρ m h
  unfold l1E at h
  obtain ⟨a_1b, a_1o, e1, h⟩ := h.ex
  obtain ⟨x2b, x2o, e2, h⟩ := h.ex
  obtain ⟨l_3a, l_3l, l_3c, e3, h⟩ := h.ex
  obtain ⟨i_4, e4, h⟩ := h.ex
  refine cpt_mono (P := P) (lP (bB (sR (sL (sR (sR (body))))))) (Q := thenQ (l1E fun a_1b a_1o x2b x2o l_3a l_3l l_3c i_4 m => ∃ N1, N1 < N ∧ I N1 a_1b a_1o x2b x2o l_3a l_3l l_3c i_4 m) (l1Q  R)) (fun e ρ m h => ?_) ρ m ?_
  · cases e with
    | normal =>
      have h : l1E (fun a_1b a_1o x2b x2o l_3a l_3l l_3c i_4 m => ∃ N1, N1 < N ∧ I N1 a_1b a_1o x2b x2o l_3a l_3l l_3c i_4 m) ρ m := h
      unfold l1E at h
      obtain ⟨a_1b, a_1o, e1, h⟩ := h.ex
      obtain ⟨x2b, x2o, e2, h⟩ := h.ex
      obtain ⟨l_3a, l_3l, l_3c, e3, h⟩ := h.ex
      obtain ⟨i_4, e4, h⟩ := h.ex
      obtain ⟨N1, hlt, h⟩ := h
      exact ⟨N1, hlt, (by show l1E (I N1) ρ m; unfold l1E; rw [e1, e2, e3, e4]; exact h)⟩
    | _ => exact h
  have hh := hs N a_1b a_1o x2b x2o l_3a l_3l l_3c i_4 m h
  generalize (fun a_1b a_1o x2b x2o l_3a l_3l l_3c i_4 m => ∃ N1, N1 < N ∧ I N1 a_1b a_1o x2b x2o l_3a l_3l l_3c i_4 m : Nat → Nat → Nat → Nat → Option Addr → Nat → Nat → Int → Mem → Prop) = K1 at hh ⊢
  rw [← upd_self e1, ← upd_self e2, ← upd_self e3, ← upd_self e4]
  rw [← l1_er  K1 R]
  refine acpt_sound (P := P) (l1A  K1 R) _ _ _ True.intro ?_
  exact Eq.mp (l1_eq  K1 R a_1b a_1o x2b x2o l_3a l_3l l_3c i_4 ρ m) hh
theorem e0_eq (a_0_0 : Int) (a_0_1 : Int) (a_0_2 : Int) (a_0_3 : Int) (R : Ending → Mem → Prop) (m : Mem) : e0 a_0_0 a_0_1 a_0_2 a_0_3 R m = acpt P od (panicR R) (e0A R) (bodyQ P fn R) (argE (#[.agg #[.int .u64 a_0_0, .int .u64 a_0_1, .int .u64 a_0_2, .int .u64 a_0_3]] : Array Value).toList) m := by kernel_rfl
theorem ok (a_0_0 : Int) (a_0_1 : Int) (a_0_2 : Int) (a_0_3 : Int) (R : Ending → Mem → Prop) (m : Mem) (h : e0 a_0_0 a_0_1 a_0_2 a_0_3 R m) : HC P id #[.agg #[.int .u64 a_0_0, .int .u64 a_0_1, .int .u64 a_0_2, .int .u64 a_0_3]] m R := by
  refine HC_of (fn := fn) (c := body) (od := od) (tb := tb) Go.Proofs.Tryd.func54 (by kernel_rfl) (by kernel_rfl) follows (by kernel_rfl) (of_decide_eq_true (by kernel_rfl)) ?_
  have he : (e0A R).erase = body := by kernel_rfl
  rw [← he]
  refine acpt_sound (P := P) (e0A R) _ _ _ ⟨⟨⟨True.intro, ⟨(fun ρ m h => l1_ok  R ρ m h), True.intro⟩⟩, True.intro⟩, True.intro⟩ ?_
  exact Eq.mp (e0_eq a_0_0 a_0_1 a_0_2 a_0_3 R m) h
end eyotref8_Not
/-! ### eyot/class.runs -/
namespace class_runs
noncomputable def fn : Func := Go.Proofs.Tryd.f55
noncomputable def body : Code := fn.body.getD .skip
def od : Nat → Ord := fun _ => .done
def tb : Nat → Tab := fun _ => (0, [], [])
def k2E (K : Nat → Nat → Option Addr → Nat → Nat → Int → Int → Int → Bool → Mem → Prop) : Env → Mem → Prop := fun ρ m => UnPA (ρ 1) fun s_1b s_1o => UnS (ρ 3) fun out_3a out_3l out_3c => UnI (ρ 4) .i64 fun c_4 => UnI (ρ 5) .i64 fun k_5 => UnI (ρ 6) .i64 fun x6 => UnB (ρ 26) fun x26 => K s_1b s_1o out_3a out_3l out_3c c_4 k_5 x6 x26 m
def k2 (K1 : Nat → Nat → Option Addr → Nat → Nat → Int → Mem → Prop) (s_1b : Nat) (s_1o : Nat) (out_3a : Option Addr) (out_3l : Nat) (out_3c : Nat) (c_4 : Int) (k_5 : Int) (x6 : Int) (x26 : Bool) (R : Ending → Mem → Prop) (m : Mem) : Prop :=
 Br x26 (
  IxS out_3a out_3l k_5 2 fun x44b x44o =>
  0 ≤ (1 : Int) ∧ (1 : Int) < (2 : Nat) ∧ (
   St1 m x44b (x44o + (1 : Int).toNat * 1) (.int .u8 (IntKind.u8.wrap c_4)) fun m1 =>
   K1 s_1b s_1o out_3a out_3l out_3c (IntKind.i64.wrap (x6 + 1)) m1)) (
  NewC m #[.int .u8 (IntKind.u8.wrap c_4), .int .u8 (IntKind.u8.wrap c_4)] T_arr2_uint8 fun b18 m1 =>
  BiN P .append #[T_sl_arr2_uint8, T_sl_arr2_uint8] T_sl_arr2_uint8 #[false, false] #[.slice out_3a out_3l out_3c, .slice (some ⟨b18, 0, none⟩) 1 1] m1 (fun w m2 =>
   UnS w fun x19a x19l x19c =>
   K1 s_1b s_1o x19a x19l x19c (IntKind.i64.wrap (x6 + 1)) m2) (panicR R))
noncomputable def k2A (K1 : Nat → Nat → Option Addr → Nat → Nat → Int → Mem → Prop) (R : Ending → Mem → Prop) : ACode := (.code (sR (cE (sR (bB (sR (sR (bB (sL (sR (sR (lP (bB (sR (sL (sR (sR (body))))))))))))))))))
def l1E (K : Nat → Nat → Option Addr → Nat → Nat → Int → Mem → Prop) : Env → Mem → Prop := fun ρ m => UnPA (ρ 1) fun s_1b s_1o => UnS (ρ 3) fun out_3a out_3l out_3c => UnI (ρ 6) .i64 fun x6 => K s_1b s_1o out_3a out_3l out_3c x6 m
def l1B  (K1 : Nat → Nat → Option Addr → Nat → Nat → Int → Mem → Prop) (s_1b : Nat) (s_1o : Nat) (out_3a : Option Addr) (out_3l : Nat) (out_3c : Nat) (x6 : Int) (R : Ending → Mem → Prop) (m : Mem) : Prop :=
 Br (decide (x6 < 256)) (
  LdV m s_1b s_1o fun v =>
  UnI v .u64 fun x21_0 =>
  LdV m s_1b (s_1o + 1) fun v =>
  UnI v .u64 fun x21_1 =>
  LdV m s_1b (s_1o + 2) fun v =>
  UnI v .u64 fun x21_2 =>
  LdV m s_1b (s_1o + 3) fun v =>
  UnI v .u64 fun x21_3 =>
  HC P class_Has.id #[.agg #[.int .u64 x21_0, .int .u64 x21_1, .int .u64 x21_2, .int .u64 x21_3], .int .u8 (IntKind.u8.wrap x6)] m (Cont (fun v m1 =>
    UnB v fun x24 =>
    Br (!x24) (
     K1 s_1b s_1o out_3a out_3l out_3c (IntKind.i64.wrap (x6 + 1)) m1) (
     Br (decide ((IntKind.i64.wrap (((out_3l : Nat) : Int) - 1)) ≥ 0)) (
      IxS out_3a out_3l (IntKind.i64.wrap (((out_3l : Nat) : Int) - 1)) 2 fun x32b x32o =>
      0 ≤ (1 : Int) ∧ (1 : Int) < (2 : Nat) ∧ (
       LdV m1 x32b (x32o + (1 : Int).toNat * 1) fun v =>
       UnI v .u8 fun x34 =>
       k2 K1 s_1b s_1o out_3a out_3l out_3c x6 (IntKind.i64.wrap (((out_3l : Nat) : Int) - 1)) x6 ((IntKind.i64.wrap x34) == (IntKind.i64.wrap (x6 - 1))) R m1)) (
      k2 K1 s_1b s_1o out_3a out_3l out_3c x6 (IntKind.i64.wrap (((out_3l : Nat) : Int) - 1)) x6 false R m1))) (panicR R))) (
  R (.returned (.slice out_3a out_3l out_3c)) m)
def l1  (s_1b : Nat) (s_1o : Nat) (out_3a : Option Addr) (out_3l : Nat) (out_3c : Nat) (x6 : Int) (R : Ending → Mem → Prop) (m : Mem) : Prop :=
  ∃ (I : Nat → Nat → Nat → Option Addr → Nat → Nat → Int → Mem → Prop) (N : Nat), I N s_1b s_1o out_3a out_3l out_3c x6 m ∧ ∀ N s_1b s_1o out_3a out_3l out_3c x6 m, I N s_1b s_1o out_3a out_3l out_3c x6 m → l1B  (fun s_1b s_1o out_3a out_3l out_3c x6 m => ∃ N1, N1 < N ∧ I N1 s_1b s_1o out_3a out_3l out_3c x6 m) s_1b s_1o out_3a out_3l out_3c x6 R m
noncomputable def l1A  (K1 : Nat → Nat → Option Addr → Nat → Nat → Int → Mem → Prop) (R : Ending → Mem → Prop) : ACode := (.seq (.code (sL (lP (bB (sR (sL (sR (sR (body))))))))) (.seq (.code (sL (sR (lP (bB (sR (sL (sR (sR (body)))))))))) (.seq (.block 1 (.seq (.code (sL (bB (sL (sR (sR (lP (bB (sR (sL (sR (sR (body))))))))))))) (.seq (.code (sL (sR (bB (sL (sR (sR (lP (bB (sR (sL (sR (sR (body)))))))))))))) (.block 2 (.seq (.code (sL (bB (sR (sR (bB (sL (sR (sR (lP (bB (sR (sL (sR (sR (body)))))))))))))))) (.cond (.tmp 20) (.code (cT (sR (bB (sR (sR (bB (sL (sR (sR (lP (bB (sR (sL (sR (sR (body))))))))))))))))) (.seq (.code (sL (cE (sR (bB (sR (sR (bB (sL (sR (sR (lP (bB (sR (sL (sR (sR (body)))))))))))))))))) (.cut (k2E fun s_1b s_1o out_3a out_3l out_3c c_4 k_5 x6 x26 m => k2 K1 s_1b s_1o out_3a out_3l out_3c c_4 k_5 x6 x26 R m) (sR (cE (sR (bB (sR (sR (bB (sL (sR (sR (lP (bB (sR (sL (sR (sR (body))))))))))))))))))))))))) (.code (sR (sR (sR (lP (bB (sR (sL (sR (sR (body))))))))))))))
def e0 (s_0_0 : Int) (s_0_1 : Int) (s_0_2 : Int) (s_0_3 : Int) (R : Ending → Mem → Prop) (m : Mem) : Prop :=
 NewC m #[.int .u64 s_0_0, .int .u64 s_0_1, .int .u64 s_0_2, .int .u64 s_0_3] T_api_Set fun b_s_1 m1 =>
 l1  b_s_1 0 none 0 0 0 R m1
noncomputable def e0A (R : Ending → Mem → Prop) : ACode := (.seq (.code (sL (body))) (.seq (.code (sL (sR (body)))) (.seq (.seq (.code (sL (sL (sR (sR (body)))))) (.block 0 (.cut (l1E fun s_1b s_1o out_3a out_3l out_3c x6 m => l1  s_1b s_1o out_3a out_3l out_3c x6 R m) (.loop (lP (bB (sR (sL (sR (sR (body))))))))))) (.code (sR (sR (sR (body))))))))
abbrev l1Q  (R : Ending → Mem → Prop) : Exit → Env → Mem → Prop := (blockQ 0 (thenQ (acpt P od (panicR R) (.code (sR (sR (sR (body))))) (bodyQ P fn R)) (bodyQ P fn R)))
abbrev k2Q (K1 : Nat → Nat → Option Addr → Nat → Nat → Int → Mem → Prop) (R : Ending → Mem → Prop) : Exit → Env → Mem → Prop := (blockQ 2 (blockQ 1 (thenQ (acpt P od (panicR R) (.code (sR (sR (sR (lP (bB (sR (sL (sR (sR (body))))))))))) (thenQ (l1E K1) (l1Q  R))) (thenQ (l1E K1) (l1Q  R)))))
theorem k2_eq (K1 : Nat → Nat → Option Addr → Nat → Nat → Int → Mem → Prop) (R : Ending → Mem → Prop) (s_1b : Nat) (s_1o : Nat) (out_3a : Option Addr) (out_3l : Nat) (out_3c : Nat) (c_4 : Int) (k_5 : Int) (x6 : Int) (x26 : Bool) (ρ : Env) (m : Mem) : k2 K1 s_1b s_1o out_3a out_3l out_3c c_4 k_5 x6 x26 R m = acpt P od (panicR R) (k2A K1 R) (k2Q K1 R) (upd (upd (upd (upd (upd (upd ρ 26 (.bool x26)) 6 (.int .i64 x6)) 5 (.int .i64 k_5)) 4 (.int .i64 c_4)) 3 (.slice out_3a out_3l out_3c)) 1 (.pointer (some ⟨s_1b, s_1o, none⟩))) m := by kernel_rfl
theorem k2_er (K1 : Nat → Nat → Option Addr → Nat → Nat → Int → Mem → Prop) (R : Ending → Mem → Prop) : (k2A K1 R).erase = sR (cE (sR (bB (sR (sR (bB (sL (sR (sR (lP (bB (sR (sL (sR (sR (body)))))))))))))))) := by kernel_rfl
theorem k2_ok (K1 : Nat → Nat → Option Addr → Nat → Nat → Int → Mem → Prop) (R : Ending → Mem → Prop) (ρ : Env) (m : Mem) (h : (k2E fun s_1b s_1o out_3a out_3l out_3c c_4 k_5 x6 x26 m => k2 K1 s_1b s_1o out_3a out_3l out_3c c_4 k_5 x6 x26 R m) ρ m) : cpt P od (panicR R) (sR (cE (sR (bB (sR (sR (bB (sL (sR (sR (lP (bB (sR (sL (sR (sR (body))))))))))))))))) (k2Q K1 R) ρ m := by
  unfold k2E at h
  obtain ⟨s_1b, s_1o, e1, h⟩ := h.ex
  obtain ⟨out_3a, out_3l, out_3c, e3, h⟩ := h.ex
  obtain ⟨c_4, e4, h⟩ := h.ex
  obtain ⟨k_5, e5, h⟩ := h.ex
  obtain ⟨x6, e6, h⟩ := h.ex
  obtain ⟨x26, e26, h⟩ := h.ex
  rw [← upd_self e1, ← upd_self e3, ← upd_self e4, ← upd_self e5, ← upd_self e6, ← upd_self e26]
  rw [← k2_er K1 R]
  refine acpt_sound (P := P) (k2A K1 R) _ _ _ True.intro ?_
  exact Eq.mp (k2_eq K1 R s_1b s_1o out_3a out_3l out_3c c_4 k_5 x6 x26 ρ m) h
theorem l1_eq  (K1 : Nat → Nat → Option Addr → Nat → Nat → Int → Mem → Prop) (R : Ending → Mem → Prop) (s_1b : Nat) (s_1o : Nat) (out_3a : Option Addr) (out_3l : Nat) (out_3c : Nat) (x6 : Int) (ρ : Env) (m : Mem) : l1B  K1 s_1b s_1o out_3a out_3l out_3c x6 R m = acpt P od (panicR R) (l1A  K1 R) (thenQ (l1E K1) (l1Q  R)) (upd (upd (upd ρ 6 (.int .i64 x6)) 3 (.slice out_3a out_3l out_3c)) 1 (.pointer (some ⟨s_1b, s_1o, none⟩))) m := by kernel_rfl
theorem l1_er  (K1 : Nat → Nat → Option Addr → Nat → Nat → Int → Mem → Prop) (R : Ending → Mem → Prop) : (l1A  K1 R).erase = lP (bB (sR (sL (sR (sR (body)))))) := by kernel_rfl
theorem l1_ok  (R : Ending → Mem → Prop) (ρ : Env) (m : Mem) (h : (l1E fun s_1b s_1o out_3a out_3l out_3c x6 m => l1  s_1b s_1o out_3a out_3l out_3c x6 R m) ρ m) : cpt P od (panicR R) (.loop (lP (bB (sR (sL (sR (sR (body)))))))) (l1Q  R) ρ m := by
  unfold l1E at h
  obtain ⟨s_1b, s_1o, e1, h⟩ := h.ex
  obtain ⟨out_3a, out_3l, out_3c, e3, h⟩ := h.ex
  obtain ⟨x6, e6, h⟩ := h.ex
  obtain ⟨I, N, h0, hs⟩ := h
  refine ⟨fun N => l1E (I N), N, (by show l1E (I N) ρ m; unfold l1E; rw [e1, e3, e6]; exact h0), ?_⟩
  clear h0 e1 e3 e6
  intro N ρ m h
  unfold l1E at h
  obtain ⟨s_1b, s_1o, e1, h⟩ := h.ex
  obtain ⟨out_3a, out_3l, out_3c, e3, h⟩ := h.ex
  obtain ⟨x6, e6, h⟩ := h.ex
  refine cpt_mono (P := P) (lP (bB (sR (sL (sR (sR (body))))))) (Q := thenQ (l1E fun s_1b s_1o out_3a out_3l out_3c x6 m => ∃ N1, N1 < N ∧ I N1 s_1b s_1o out_3a out_3l out_3c x6 m) (l1Q  R)) (fun e ρ m h => ?_) ρ m ?_
  · cases e with
    | normal =>
      have h : l1E (fun s_1b s_1o out_3a out_3l out_3c x6 m => ∃ N1, N1 < N ∧ I N1 s_1b s_1o out_3a out_3l out_3c x6 m) ρ m := h
      unfold l1E at h
      obtain ⟨s_1b, s_1o, e1, h⟩ := h.ex
      obtain ⟨out_3a, out_3l, out_3c, e3, h⟩ := h.ex
      obtain ⟨x6, e6, h⟩ := h.ex
      obtain ⟨N1, hlt, h⟩ := h
      exact ⟨N1, hlt, (by show l1E (I N1) ρ m; unfold l1E; rw [e1, e3, e6]; exact h)⟩
    | _ => exact h
  have hh := hs N s_1b s_1o out_3a out_3l out_3c x6 m h
  generalize (fun s_1b s_1o out_3a out_3l out_3c x6 m => ∃ N1, N1 < N ∧ I N1 s_1b s_1o out_3a out_3l out_3c x6 m : Nat → Nat → Option Addr → Nat → Nat → Int → Mem → Prop) = K1 at hh ⊢
  rw [← upd_self e1, ← upd_self e3, ← upd_self e6]
  rw [← l1_er  K1 R]
  refine acpt_sound (P := P) (l1A  K1 R) _ _ _ ⟨⟨⟨True.intro, ⟨⟨⟨⟨True.intro, ⟨(fun ρ m h => k2_ok K1 R ρ m h), True.intro⟩⟩, True.intro⟩, True.intro⟩, True.intro⟩⟩, True.intro⟩, True.intro⟩ ?_
  exact Eq.mp (l1_eq  K1 R s_1b s_1o out_3a out_3l out_3c x6 ρ m) hh
theorem e0_eq (s_0_0 : Int) (s_0_1 : Int) (s_0_2 : Int) (s_0_3 : Int) (R : Ending → Mem → Prop) (m : Mem) : e0 s_0_0 s_0_1 s_0_2 s_0_3 R m = acpt P od (panicR R) (e0A R) (bodyQ P fn R) (argE (#[.agg #[.int .u64 s_0_0, .int .u64 s_0_1, .int .u64 s_0_2, .int .u64 s_0_3]] : Array Value).toList) m := by kernel_rfl
theorem ok (s_0_0 : Int) (s_0_1 : Int) (s_0_2 : Int) (s_0_3 : Int) (R : Ending → Mem → Prop) (m : Mem) (h : e0 s_0_0 s_0_1 s_0_2 s_0_3 R m) : HC P id #[.agg #[.int .u64 s_0_0, .int .u64 s_0_1, .int .u64 s_0_2, .int .u64 s_0_3]] m R := by
  refine HC_of (fn := fn) (c := body) (od := od) (tb := tb) Go.Proofs.Tryd.func55 (by kernel_rfl) (by kernel_rfl) follows (by kernel_rfl) (of_decide_eq_true (by kernel_rfl)) ?_
  have he : (e0A R).erase = body := by kernel_rfl
  rw [← he]
  refine acpt_sound (P := P) (e0A R) _ _ _ ⟨⟨⟨True.intro, ⟨(fun ρ m h => l1_ok  R ρ m h), True.intro⟩⟩, True.intro⟩, True.intro⟩ ?_
  exact Eq.mp (e0_eq s_0_0 s_0_1 s_0_2 s_0_3 R m) h
end class_runs
/-! ### eyot/class.Not -/
namespace class_Not
noncomputable def fn : Func := Go.Proofs.Tryd.f56
noncomputable def body : Code := fn.body.getD .skip
def od : Nat → Ord := fun _ => .done
def tb : Nat → Tab := fun _ => (0, [], [])
def e0 (a_0_0 : Int) (a_0_1 : Int) (a_0_2 : Int) (a_0_3 : Int) (R : Ending → Mem → Prop) (m : Mem) : Prop :=
 NewC m #[.int .u64 a_0_0, .int .u64 a_0_1, .int .u64 a_0_2, .int .u64 a_0_3] T_api_Set fun b_a_1 m1 =>
 NewC m1 #[.int .u64 0, .int .u64 0, .int .u64 0, .int .u64 0] T_api_Set fun b2 m2 =>
 LdV m2 b_a_1 0 fun v =>
 UnI v .u64 fun x3_0 =>
 LdV m2 b_a_1 1 fun v =>
 UnI v .u64 fun x3_1 =>
 LdV m2 b_a_1 2 fun v =>
 UnI v .u64 fun x3_2 =>
 LdV m2 b_a_1 3 fun v =>
 UnI v .u64 fun x3_3 =>
 LdV m2 b_a_1 0 fun v =>
 UnI v .u64 fun x4_0 =>
 LdV m2 b_a_1 1 fun v =>
 UnI v .u64 fun x4_1 =>
 LdV m2 b_a_1 2 fun v =>
 UnI v .u64 fun x4_2 =>
 LdV m2 b_a_1 3 fun v =>
 UnI v .u64 fun x4_3 =>
 HC P class_with.id #[.agg #[.int .u64 x3_0, .int .u64 x3_1, .int .u64 x3_2, .int .u64 x3_3], .agg #[.int .u64 x4_0, .int .u64 x4_1, .int .u64 x4_2, .int .u64 x4_3], .func (.func class_Not_1.id) #[] #[]] m2 (Cont (fun v m3 =>
   UnAgg v fun l =>
   UnCons l fun v l =>
   UnI v .u64 fun x5_0 =>
   UnCons l fun v l =>
   UnI v .u64 fun x5_1 =>
   UnCons l fun v l =>
   UnI v .u64 fun x5_2 =>
   UnCons l fun v l =>
   UnI v .u64 fun x5_3 =>
   UnNil l (
    St1 m3 b2 0 (.int .u64 x5_0) fun m4 =>
    St1 m4 b2 1 (.int .u64 x5_1) fun m5 =>
    St1 m5 b2 2 (.int .u64 x5_2) fun m6 =>
    St1 m6 b2 3 (.int .u64 x5_3) fun m7 =>
    LdV m7 b2 0 fun v =>
    UnI v .u64 fun res0_0 =>
    LdV m7 b2 1 fun v =>
    UnI v .u64 fun res0_1 =>
    LdV m7 b2 2 fun v =>
    UnI v .u64 fun res0_2 =>
    LdV m7 b2 3 fun v =>
    UnI v .u64 fun res0_3 =>
    R (.returned (.agg #[.int .u64 res0_0, .int .u64 res0_1, .int .u64 res0_2, .int .u64 res0_3])) m7)) (panicR R))
noncomputable def e0A (R : Ending → Mem → Prop) : ACode := (.code (body))
theorem e0_eq (a_0_0 : Int) (a_0_1 : Int) (a_0_2 : Int) (a_0_3 : Int) (R : Ending → Mem → Prop) (m : Mem) : e0 a_0_0 a_0_1 a_0_2 a_0_3 R m = acpt P od (panicR R) (e0A R) (bodyQ P fn R) (argE (#[.agg #[.int .u64 a_0_0, .int .u64 a_0_1, .int .u64 a_0_2, .int .u64 a_0_3]] : Array Value).toList) m := by kernel_rfl
theorem ok (a_0_0 : Int) (a_0_1 : Int) (a_0_2 : Int) (a_0_3 : Int) (R : Ending → Mem → Prop) (m : Mem) (h : e0 a_0_0 a_0_1 a_0_2 a_0_3 R m) : HC P id #[.agg #[.int .u64 a_0_0, .int .u64 a_0_1, .int .u64 a_0_2, .int .u64 a_0_3]] m R := by
  refine HC_of (fn := fn) (c := body) (od := od) (tb := tb) Go.Proofs.Tryd.func56 (by kernel_rfl) (by kernel_rfl) follows (by kernel_rfl) (of_decide_eq_true (by kernel_rfl)) ?_
  have he : (e0A R).erase = body := by kernel_rfl
  rw [← he]
  refine acpt_sound (P := P) (e0A R) _ _ _ True.intro ?_
  exact Eq.mp (e0_eq a_0_0 a_0_1 a_0_2 a_0_3 R m) h
end class_Not
/-! ### eyot/class.sign -/
namespace class_sign
noncomputable def fn : Func := Go.Proofs.Tryd.f57
noncomputable def body : Code := fn.body.getD .skip
def od : Nat → Ord := fun | 3 => ordL [(0, 3), (1, 3), (2, 3), (3, 3), (4, 3), (5, 3), (6, 3), (7, 3), (8, 3), (9, 3), (10, 3), (11, 3), (12, 3), (13, 3), (14, 3)] .done | _ => .done
def tb : Nat → Tab := fun | 3 => (0, [0, 1, 0, 4, 12, 31, 63, 0, 128, 0, 512, 1536, 3968, 8191, 16383], [(0, 1, 9), (1, 256, 10), (0, 1, 11), (4, 1024, 12), (8, 2048, 13), (18, 4608, 14), (32, 8192, 15), (0, 1, 16), (128, 32768, 17), (0, 1, 18), (512, 131072, 19), (1024, 262144, 20), (2304, 589824, 21), (4160, 1064960, 22), (16383, 2097152, 3)]) | _ => (0, [], [])
def k1E (K : Int → Bool → Mem → Prop) : Env → Mem → Prop := fun ρ m => UnI (ρ 0) .u8 fun c_0 => UnB (ρ 3) fun x3 => K c_0 x3 m
def k1  (c_0 : Int) (x3 : Bool) (R : Ending → Mem → Prop) (m : Mem) : Prop :=
 Br x3 (
  Sub m fun r1 =>
  SlB (ByteArray.mk #[48, 49, 50, 51, 52, 53, 54, 55, 56, 57, 97, 98, 99, 100, 101, 102]) (shrV .u8 c_0 4) (IntKind.u8.wrap ((shrV .u8 c_0 4) + 1)) fun x13 =>
  CatB (ByteArray.mk #[92, 120]) x13 (
   SlB (ByteArray.mk #[48, 49, 50, 51, 52, 53, 54, 55, 56, 57, 97, 98, 99, 100, 101, 102]) (bitsV .and .u8 c_0 15) (IntKind.u8.wrap ((bitsV .and .u8 c_0 15) + 1)) fun x20 =>
   CatB ((ByteArray.mk #[92, 120]) ++ x13) x20 (
    R (.returned (.string (((ByteArray.mk #[92, 120]) ++ x13) ++ x20))) m))) (
  HC P strings_IndexByte.id #[.string (ByteArray.mk #[92, 124, 42, 43, 63, 40, 41, 91, 93, 46, 94, 45]), .int .u8 c_0] m (Cont (fun v m1 =>
    UnI v .i64 fun x24 =>
    Br (decide (x24 ≥ 0)) (
     NewC m1 #[.int .u8 c_0] T_uint8 fun b27 m2 =>
     B2S m2 (some ⟨b27, 0, none⟩) 1 fun s28 =>
     CatB (ByteArray.mk #[92]) s28 (
      R (.returned (.string ((ByteArray.mk #[92]) ++ s28))) m2)) (
     NewC m1 #[.int .u8 c_0] T_uint8 fun b31 m2 =>
     B2S m2 (some ⟨b31, 0, none⟩) 1 fun s32 =>
     R (.returned (.string s32)) m2)) (panicR R)))
noncomputable def k1A  (R : Ending → Mem → Prop) : ACode := (.code (sR (bB (sL (sR (body))))))
def e0 (c_0 : Int) (R : Ending → Mem → Prop) (m : Mem) : Prop :=
 Br (decide (c_0 < 33)) (
  k1  c_0 true R m) (
  k1  c_0 (decide (c_0 > 126)) R m)
noncomputable def e0A (R : Ending → Mem → Prop) : ACode := (.seq (.code (sL (body))) (.seq (.block 0 (.seq (.code (sL (bB (sL (sR (body)))))) (.cut (k1E fun c_0 x3 m => k1  c_0 x3 R m) (sR (bB (sL (sR (body)))))))) (.code (sR (sR (body))))))
abbrev k1Q  (R : Ending → Mem → Prop) : Exit → Env → Mem → Prop := (blockQ 0 (thenQ (acpt P od (panicR R) (.code (sR (sR (body)))) (bodyQ P fn R)) (bodyQ P fn R)))
theorem k1_eq  (R : Ending → Mem → Prop) (c_0 : Int) (x3 : Bool) (ρ : Env) (m : Mem) : k1  c_0 x3 R m = acpt P od (panicR R) (k1A  R) (k1Q  R) (upd (upd ρ 3 (.bool x3)) 0 (.int .u8 c_0)) m := by kernel_rfl
theorem k1_er  (R : Ending → Mem → Prop) : (k1A  R).erase = sR (bB (sL (sR (body)))) := by kernel_rfl
theorem k1_ok  (R : Ending → Mem → Prop) (ρ : Env) (m : Mem) (h : (k1E fun c_0 x3 m => k1  c_0 x3 R m) ρ m) : cpt P od (panicR R) (sR (bB (sL (sR (body))))) (k1Q  R) ρ m := by
  unfold k1E at h
  obtain ⟨c_0, e0, h⟩ := h.ex
  obtain ⟨x3, e3, h⟩ := h.ex
  rw [← upd_self e0, ← upd_self e3]
  rw [← k1_er  R]
  refine acpt_sound (P := P) (k1A  R) _ _ _ True.intro ?_
  exact Eq.mp (k1_eq  R c_0 x3 ρ m) h
theorem e0_eq (c_0 : Int) (R : Ending → Mem → Prop) (m : Mem) : e0 c_0 R m = acpt P od (panicR R) (e0A R) (bodyQ P fn R) (argE (#[.int .u8 c_0] : Array Value).toList) m := by kernel_rfl
theorem ok (c_0 : Int) (R : Ending → Mem → Prop) (m : Mem) (h : e0 c_0 R m) : HC P id #[.int .u8 c_0] m R := by
  refine HC_of (fn := fn) (c := body) (od := od) (tb := tb) Go.Proofs.Tryd.func57 (by kernel_rfl) (by kernel_rfl) follows (by kernel_rfl) (of_decide_eq_true (by kernel_rfl)) ?_
  have he : (e0A R).erase = body := by kernel_rfl
  rw [← he]
  refine acpt_sound (P := P) (e0A R) _ _ _ ⟨⟨True.intro, ⟨(fun ρ m h => k1_ok  R ρ m h), True.intro⟩⟩, True.intro⟩ ?_
  exact Eq.mp (e0_eq c_0 R m) h
end class_sign
end
end Go.E
set_option linter.unusedVariables false
set_option maxRecDepth 100000
namespace Go.E
open Go.H
noncomputable section
/-! ### eyot/class.shown -/
namespace class_shown
noncomputable def fn : Func := Go.Proofs.Tryd.f58
noncomputable def body : Code := fn.body.getD .skip
def od : Nat → Ord := fun | 5 => ordL [(0, 3), (1, 1), (3, 3), (4, 1), (2, 0), (5, 2), (6, 3), (7, 3)] .done | 6 => ordL [(0, 3), (1, 1), (4, 3), (5, 1), (2, 0), (3, 3), (6, 2), (7, 3), (8, 3)] .done | _ => .done
def tb : Nat → Tab := fun | 5 => (32, [0, 1, 3, 0, 8, 31, 63, 127], [(0, 2, 16), (1, 32768, 17), (2, 65536, 18), (0, 2, 19), (8, 262144, 20), (20, 524288, 21), (36, 1179648, 22), (127, 2097152, 3)]) | 6 => (64, [0, 1, 3, 7, 0, 16, 55, 127, 255], [(0, 2, 23), (1, 4194304, 24), (2, 8388608, 25), (4, 16777216, 26), (0, 2, 27), (16, 67108864, 28), (36, 134217728, 29), (72, 301989888, 30), (255, 536870912, 3)]) | _ => (0, [], [])
def e0 (r_0_0 : Int) (r_0_1 : Int) (R : Ending → Mem → Prop) (m : Mem) : Prop :=
 NewC m #[.int .u8 r_0_0, .int .u8 r_0_1] T_arr2_uint8 fun b_r_1 m1 =>
 0 ≤ (1 : Int) ∧ (1 : Int) < (2 : Nat) ∧ (
  LdV m1 b_r_1 (0 + (1 : Int).toNat * 1) fun v =>
  UnI v .u8 fun x4 =>
  0 ≤ (0 : Int) ∧ (0 : Int) < (2 : Nat) ∧ (
   LdV m1 b_r_1 (0 + (0 : Int).toNat * 1) fun v =>
   UnI v .u8 fun x6 =>
   Br ((IntKind.u8.wrap (x4 - x6)) == 0) (
    0 ≤ (0 : Int) ∧ (0 : Int) < (2 : Nat) ∧ (
     LdV m1 b_r_1 (0 + (0 : Int).toNat * 1) fun v =>
     UnI v .u8 fun x11 =>
     HC P class_sign.id #[.int .u8 x11] m1 (Cont (fun v m2 =>
       UnStr v fun x12 =>
       R (.returned (.string x12)) m2) (panicR R)))) (
    Br ((IntKind.u8.wrap (x4 - x6)) == 1) (
     Sub m1 fun r2 =>
     0 ≤ (0 : Int) ∧ (0 : Int) < (2 : Nat) ∧ (
      LdV r2 b_r_1 (0 + (0 : Int).toNat * 1) fun v =>
      UnI v .u8 fun x16 =>
      0 ≤ (1 : Int) ∧ (1 : Int) < (2 : Nat) ∧ (
       LdV r2 b_r_1 (0 + (1 : Int).toNat * 1) fun v =>
       UnI v .u8 fun x19 =>
       HC P class_sign.id #[.int .u8 x16] m1 (Cont (fun v m3 =>
        UnStr v fun x17 =>
        Lk r2 m3 fun r4 =>
        HC P class_sign.id #[.int .u8 x19] m3 (Cont (fun v m5 =>
        UnStr v fun x20 =>
        CatB x17 x20 (
        R (.returned (.string (x17 ++ x20))) m5)) (panicR R))) (panicR R))))) (
     Sub m1 fun r2 =>
     0 ≤ (0 : Int) ∧ (0 : Int) < (2 : Nat) ∧ (
      LdV r2 b_r_1 (0 + (0 : Int).toNat * 1) fun v =>
      UnI v .u8 fun x23 =>
      0 ≤ (1 : Int) ∧ (1 : Int) < (2 : Nat) ∧ (
       LdV r2 b_r_1 (0 + (1 : Int).toNat * 1) fun v =>
       UnI v .u8 fun x27 =>
       HC P class_sign.id #[.int .u8 x23] m1 (Cont (fun v m3 =>
        UnStr v fun x24 =>
        Lk r2 m3 fun r4 =>
        CatB x24 (ByteArray.mk #[45]) (
        HC P class_sign.id #[.int .u8 x27] m3 (Cont (fun v m5 =>
        UnStr v fun x28 =>
        CatB (x24 ++ (ByteArray.mk #[45])) x28 (
        R (.returned (.string ((x24 ++ (ByteArray.mk #[45])) ++ x28))) m5)) (panicR R)))) (panicR R))))))))
noncomputable def e0A (R : Ending → Mem → Prop) : ACode := (.code (body))
theorem e0_eq (r_0_0 : Int) (r_0_1 : Int) (R : Ending → Mem → Prop) (m : Mem) : e0 r_0_0 r_0_1 R m = acpt P od (panicR R) (e0A R) (bodyQ P fn R) (argE (#[.agg #[.int .u8 r_0_0, .int .u8 r_0_1]] : Array Value).toList) m := by kernel_rfl
theorem ok (r_0_0 : Int) (r_0_1 : Int) (R : Ending → Mem → Prop) (m : Mem) (h : e0 r_0_0 r_0_1 R m) : HC P id #[.agg #[.int .u8 r_0_0, .int .u8 r_0_1]] m R := by
  refine HC_of (fn := fn) (c := body) (od := od) (tb := tb) Go.Proofs.Tryd.func58 (by kernel_rfl) (by kernel_rfl) follows (by kernel_rfl) (of_decide_eq_true (by kernel_rfl)) ?_
  have he : (e0A R).erase = body := by kernel_rfl
  rw [← he]
  refine acpt_sound (P := P) (e0A R) _ _ _ True.intro ?_
  exact Eq.mp (e0_eq r_0_0 r_0_1 R m) h
end class_shown
/-! ### eyot/eyotref8.list -/
namespace eyotref8_list
noncomputable def fn : Func := Go.Proofs.Tryd.f62
noncomputable def body : Code := fn.body.getD .skip
def od : Nat → Ord := fun _ => .done
def tb : Nat → Tab := fun _ => (0, [], [])
def l1E (K : Nat → Nat → Option Addr → Nat → Nat → Int → Mem → Prop) : Env → Mem → Prop := fun ρ m => UnPA (ρ 1) fun s_1b s_1o => UnS (ρ 3) fun l_3a l_3l l_3c => UnI (ρ 4) .i64 fun b_4 => K s_1b s_1o l_3a l_3l l_3c b_4 m
def l1B  (K1 : Nat → Nat → Option Addr → Nat → Nat → Int → Mem → Prop) (s_1b : Nat) (s_1o : Nat) (l_3a : Option Addr) (l_3l : Nat) (l_3c : Nat) (b_4 : Int) (R : Ending → Mem → Prop) (m : Mem) : Prop :=
 Br (decide (b_4 < 256)) (
  LdV m s_1b s_1o fun v =>
  UnI v .u64 fun x9_0 =>
  LdV m s_1b (s_1o + 1) fun v =>
  UnI v .u64 fun x9_1 =>
  LdV m s_1b (s_1o + 2) fun v =>
  UnI v .u64 fun x9_2 =>
  LdV m s_1b (s_1o + 3) fun v =>
  UnI v .u64 fun x9_3 =>
  HC P eyotref8_Has.id #[.agg #[.int .u64 x9_0, .int .u64 x9_1, .int .u64 x9_2, .int .u64 x9_3], .int .u8 (IntKind.u8.wrap b_4)] m (Cont (fun v m1 =>
    UnB v fun x12 =>
    Br x12 (
     NewC m1 #[.int .u8 (IntKind.u8.wrap b_4)] T_uint8 fun b16 m2 =>
     BiN P .append #[T_sl_uint8, T_sl_uint8] T_sl_uint8 #[false, false] #[.slice l_3a l_3l l_3c, .slice (some ⟨b16, 0, none⟩) 1 1] m2 (fun w m3 =>
      UnS w fun x17a x17l x17c =>
      K1 s_1b s_1o x17a x17l x17c (IntKind.i64.wrap (b_4 + 1)) m3) (panicR R)) (
     K1 s_1b s_1o l_3a l_3l l_3c (IntKind.i64.wrap (b_4 + 1)) m1)) (panicR R))) (
  R (.returned (.slice l_3a l_3l l_3c)) m)
def l1  (s_1b : Nat) (s_1o : Nat) (l_3a : Option Addr) (l_3l : Nat) (l_3c : Nat) (b_4 : Int) (R : Ending → Mem → Prop) (m : Mem) : Prop :=
  ∃ (I : Nat → Nat → Nat → Option Addr → Nat → Nat → Int → Mem → Prop) (N : Nat), I N s_1b s_1o l_3a l_3l l_3c b_4 m ∧ ∀ N s_1b s_1o l_3a l_3l l_3c b_4 m, I N s_1b s_1o l_3a l_3l l_3c b_4 m → l1B  (fun s_1b s_1o l_3a l_3l l_3c b_4 m => ∃ N1, N1 < N ∧ I N1 s_1b s_1o l_3a l_3l l_3c b_4 m) s_1b s_1o l_3a l_3l l_3c b_4 R m
noncomputable def l1A  (K1 : Nat → Nat → Option Addr → Nat → Nat → Int → Mem → Prop) (R : Ending → Mem → Prop) : ACode := (.code (lP (bB (sR (sL (sR (sR (body))))))))
def e0 (s_0_0 : Int) (s_0_1 : Int) (s_0_2 : Int) (s_0_3 : Int) (R : Ending → Mem → Prop) (m : Mem) : Prop :=
 NewC m #[.int .u64 s_0_0, .int .u64 s_0_1, .int .u64 s_0_2, .int .u64 s_0_3] T_api_Set fun b_s_1 m1 =>
 l1  b_s_1 0 none 0 0 0 R m1
noncomputable def e0A (R : Ending → Mem → Prop) : ACode := (.seq (.code (sL (body))) (.seq (.code (sL (sR (body)))) (.seq (.seq (.code (sL (sL (sR (sR (body)))))) (.block 0 (.cut (l1E fun s_1b s_1o l_3a l_3l l_3c b_4 m => l1  s_1b s_1o l_3a l_3l l_3c b_4 R m) (.loop (lP (bB (sR (sL (sR (sR (body))))))))))) (.code (sR (sR (sR (body))))))))
abbrev l1Q  (R : Ending → Mem → Prop) : Exit → Env → Mem → Prop := (blockQ 0 (thenQ (acpt P od (panicR R) (.code (sR (sR (sR (body))))) (bodyQ P fn R)) (bodyQ P fn R)))
theorem l1_eq  (K1 : Nat → Nat → Option Addr → Nat → Nat → Int → Mem → Prop) (R : Ending → Mem → Prop) (s_1b : Nat) (s_1o : Nat) (l_3a : Option Addr) (l_3l : Nat) (l_3c : Nat) (b_4 : Int) (ρ : Env) (m : Mem) : l1B  K1 s_1b s_1o l_3a l_3l l_3c b_4 R m = acpt P od (panicR R) (l1A  K1 R) (thenQ (l1E K1) (l1Q  R)) (upd (upd (upd ρ 4 (.int .i64 b_4)) 3 (.slice l_3a l_3l l_3c)) 1 (.pointer (some ⟨s_1b, s_1o, none⟩))) m := by kernel_rfl
theorem l1_er  (K1 : Nat → Nat → Option Addr → Nat → Nat → Int → Mem → Prop) (R : Ending → Mem → Prop) : (l1A  K1 R).erase = lP (bB (sR (sL (sR (sR (body)))))) := by kernel_rfl
theorem l1_ok  (R : Ending → Mem → Prop) (ρ : Env) (m : Mem) (h : (l1E fun s_1b s_1o l_3a l_3l l_3c b_4 m => l1  s_1b s_1o l_3a l_3l l_3c b_4 R m) ρ m) : cpt P od (panicR R) (.loop (lP (bB (sR (sL (sR (sR (body)))))))) (l1Q  R) ρ m := by
  unfold l1E at h
  obtain ⟨s_1b, s_1o, e1, h⟩ := h.ex
  obtain ⟨l_3a, l_3l, l_3c, e3, h⟩ := h.ex
  obtain ⟨b_4, e4, h⟩ := h.ex
  obtain ⟨I, N, h0, hs⟩ := h
  refine ⟨fun N => l1E (I N), N, (by show l1E (I N) ρ m; unfold l1E; rw [e1, e3, e4]; exact h0), ?_⟩
  clear h0 e1 e3 e4
  intro N ρ m h
  unfold l1E at h
  obtain ⟨s_1b, s_1o, e1, h⟩ := h.ex
  obtain ⟨l_3a, l_3l, l_3c, e3, h⟩ := h.ex
  obtain ⟨b_4, e4, h⟩ := h.ex
  refine cpt_mono (P := P) (lP (bB (sR (sL (sR (sR (body))))))) (Q := thenQ (l1E fun s_1b s_1o l_3a l_3l l_3c b_4 m => ∃ N1, N1 < N ∧ I N1 s_1b s_1o l_3a l_3l l_3c b_4 m) (l1Q  R)) (fun e ρ m h => ?_) ρ m ?_
  · cases e with
    | normal =>
      have h : l1E (fun s_1b s_1o l_3a l_3l l_3c b_4 m => ∃ N1, N1 < N ∧ I N1 s_1b s_1o l_3a l_3l l_3c b_4 m) ρ m := h
      unfold l1E at h
      obtain ⟨s_1b, s_1o, e1, h⟩ := h.ex
      obtain ⟨l_3a, l_3l, l_3c, e3, h⟩ := h.ex
      obtain ⟨b_4, e4, h⟩ := h.ex
      obtain ⟨N1, hlt, h⟩ := h
      exact ⟨N1, hlt, (by show l1E (I N1) ρ m; unfold l1E; rw [e1, e3, e4]; exact h)⟩
    | _ => exact h
  have hh := hs N s_1b s_1o l_3a l_3l l_3c b_4 m h
  generalize (fun s_1b s_1o l_3a l_3l l_3c b_4 m => ∃ N1, N1 < N ∧ I N1 s_1b s_1o l_3a l_3l l_3c b_4 m : Nat → Nat → Option Addr → Nat → Nat → Int → Mem → Prop) = K1 at hh ⊢
  rw [← upd_self e1, ← upd_self e3, ← upd_self e4]
  rw [← l1_er  K1 R]
  refine acpt_sound (P := P) (l1A  K1 R) _ _ _ True.intro ?_
  exact Eq.mp (l1_eq  K1 R s_1b s_1o l_3a l_3l l_3c b_4 ρ m) hh
theorem e0_eq (s_0_0 : Int) (s_0_1 : Int) (s_0_2 : Int) (s_0_3 : Int) (R : Ending → Mem → Prop) (m : Mem) : e0 s_0_0 s_0_1 s_0_2 s_0_3 R m = acpt P od (panicR R) (e0A R) (bodyQ P fn R) (argE (#[.agg #[.int .u64 s_0_0, .int .u64 s_0_1, .int .u64 s_0_2, .int .u64 s_0_3]] : Array Value).toList) m := by kernel_rfl
theorem ok (s_0_0 : Int) (s_0_1 : Int) (s_0_2 : Int) (s_0_3 : Int) (R : Ending → Mem → Prop) (m : Mem) (h : e0 s_0_0 s_0_1 s_0_2 s_0_3 R m) : HC P id #[.agg #[.int .u64 s_0_0, .int .u64 s_0_1, .int .u64 s_0_2, .int .u64 s_0_3]] m R := by
  refine HC_of (fn := fn) (c := body) (od := od) (tb := tb) Go.Proofs.Tryd.func62 (by kernel_rfl) (by kernel_rfl) follows (by kernel_rfl) (of_decide_eq_true (by kernel_rfl)) ?_
  have he : (e0A R).erase = body := by kernel_rfl
  rw [← he]
  refine acpt_sound (P := P) (e0A R) _ _ _ ⟨⟨⟨True.intro, ⟨(fun ρ m h => l1_ok  R ρ m h), True.intro⟩⟩, True.intro⟩, True.intro⟩ ?_
  exact Eq.mp (e0_eq s_0_0 s_0_1 s_0_2 s_0_3 R m) h
end eyotref8_list
/-! ### eyot/eyotref8.shown -/
namespace eyotref8_shown
noncomputable def fn : Func := Go.Proofs.Tryd.f63
noncomputable def body : Code := fn.body.getD .skip
def od : Nat → Ord := fun | 5 => ordL [(0, 3), (1, 3), (2, 3), (3, 3), (4, 3), (5, 3), (6, 2), (7, 2), (8, 3)] .done | _ => .done
def tb : Nat → Tab := fun | 5 => (192, [0, 1, 3, 0, 8, 24, 63, 127, 255], [(0, 1, 18), (1, 131072, 19), (2, 262144, 20), (0, 1, 21), (8, 1048576, 22), (16, 2097152, 23), (36, 4718592, 24), (64, 8388608, 25), (255, 16777216, 3)]) | _ => (0, [], [])
def k2E (K : Int → Mem → Prop) : Env → Mem → Prop := fun ρ m => UnI (ρ 0) .u8 fun c_0 => K c_0 m
def k2  (c_0 : Int) (R : Ending → Mem → Prop) (m : Mem) : Prop :=
 Sub m fun r1 =>
 IxB (ByteArray.mk #[48, 49, 50, 51, 52, 53, 54, 55, 56, 57, 97, 98, 99, 100, 101, 102]) (IntKind.u8.wrap (Int.tdiv c_0 16)) fun x19 =>
 IxB (ByteArray.mk #[48, 49, 50, 51, 52, 53, 54, 55, 56, 57, 97, 98, 99, 100, 101, 102]) (Int.tmod c_0 16) fun x22 =>
 NewC m #[.int .u8 92, .int .u8 120, .int .u8 x19, .int .u8 x22] T_uint8 fun b23 m2 =>
 B2S m2 (some ⟨b23, 0, none⟩) 4 fun s24 =>
 R (.returned (.string s24)) m2
noncomputable def k2A  (R : Ending → Mem → Prop) : ACode := (.code (sR (sR (sR (body)))))
def k1E (K : Int → Bool → Mem → Prop) : Env → Mem → Prop := fun ρ m => UnI (ρ 0) .u8 fun c_0 => UnB (ρ 13) fun x13 => K c_0 x13 m
def k1  (c_0 : Int) (x13 : Bool) (R : Ending → Mem → Prop) (m : Mem) : Prop :=
 Br x13 (
  NewC m #[.int .u8 c_0] T_uint8 fun b15 m1 =>
  B2S m1 (some ⟨b15, 0, none⟩) 1 fun s16 =>
  R (.returned (.string s16)) m1) (
  k2  c_0 R m)
noncomputable def k1A  (R : Ending → Mem → Prop) : ACode := (.code (sR (sL (sR (sR (body))))))
def e0 (c_0 : Int) (R : Ending → Mem → Prop) (m : Mem) : Prop :=
 HC P eyotref8_in.id #[.string (ByteArray.mk #[92, 124, 42, 43, 63, 40, 41, 91, 93, 46, 94, 45]), .int .u8 c_0] m (Cont (fun v m1 =>
   UnB v fun x4 =>
   Br x4 (
    NewC m1 #[.int .u8 92, .int .u8 c_0] T_uint8 fun b6 m2 =>
    B2S m2 (some ⟨b6, 0, none⟩) 2 fun s7 =>
    R (.returned (.string s7)) m2) (
    Br (decide (c_0 ≥ 33)) (
     k1  c_0 (decide (c_0 ≤ 126)) R m1) (
     k1  c_0 false R m1))) (panicR R))
noncomputable def e0A (R : Ending → Mem → Prop) : ACode := (.seq (.code (sL (body))) (.seq (.code (sL (sR (body)))) (.seq (.seq (.code (sL (sL (sR (sR (body)))))) (.cut (k1E fun c_0 x13 m => k1  c_0 x13 R m) (sR (sL (sR (sR (body))))))) (.cut (k2E fun c_0 m => k2  c_0 R m) (sR (sR (sR (body))))))))
abbrev k2Q  (R : Ending → Mem → Prop) : Exit → Env → Mem → Prop := (bodyQ P fn R)
abbrev k1Q  (R : Ending → Mem → Prop) : Exit → Env → Mem → Prop := (thenQ (acpt P od (panicR R) (.cut (k2E fun c_0 m => k2  c_0 R m) (sR (sR (sR (body))))) (bodyQ P fn R)) (bodyQ P fn R))
theorem k2_eq  (R : Ending → Mem → Prop) (c_0 : Int) (ρ : Env) (m : Mem) : k2  c_0 R m = acpt P od (panicR R) (k2A  R) (k2Q  R) (upd ρ 0 (.int .u8 c_0)) m := by kernel_rfl
theorem k2_er  (R : Ending → Mem → Prop) : (k2A  R).erase = sR (sR (sR (body))) := by kernel_rfl
theorem k2_ok  (R : Ending → Mem → Prop) (ρ : Env) (m : Mem) (h : (k2E fun c_0 m => k2  c_0 R m) ρ m) : cpt P od (panicR R) (sR (sR (sR (body)))) (k2Q  R) ρ m := by
  unfold k2E at h
  obtain ⟨c_0, e0, h⟩ := h.ex
  rw [← upd_self e0]
  rw [← k2_er  R]
  refine acpt_sound (P := P) (k2A  R) _ _ _ True.intro ?_
  exact Eq.mp (k2_eq  R c_0 ρ m) h
theorem k1_eq  (R : Ending → Mem → Prop) (c_0 : Int) (x13 : Bool) (ρ : Env) (m : Mem) : k1  c_0 x13 R m = acpt P od (panicR R) (k1A  R) (k1Q  R) (upd (upd ρ 13 (.bool x13)) 0 (.int .u8 c_0)) m := by kernel_rfl
theorem k1_er  (R : Ending → Mem → Prop) : (k1A  R).erase = sR (sL (sR (sR (body)))) := by kernel_rfl
theorem k1_ok  (R : Ending → Mem → Prop) (ρ : Env) (m : Mem) (h : (k1E fun c_0 x13 m => k1  c_0 x13 R m) ρ m) : cpt P od (panicR R) (sR (sL (sR (sR (body))))) (k1Q  R) ρ m := by
  unfold k1E at h
  obtain ⟨c_0, e0, h⟩ := h.ex
  obtain ⟨x13, e13, h⟩ := h.ex
  rw [← upd_self e0, ← upd_self e13]
  rw [← k1_er  R]
  refine acpt_sound (P := P) (k1A  R) _ _ _ True.intro ?_
  exact Eq.mp (k1_eq  R c_0 x13 ρ m) h
theorem e0_eq (c_0 : Int) (R : Ending → Mem → Prop) (m : Mem) : e0 c_0 R m = acpt P od (panicR R) (e0A R) (bodyQ P fn R) (argE (#[.int .u8 c_0] : Array Value).toList) m := by kernel_rfl
theorem ok (c_0 : Int) (R : Ending → Mem → Prop) (m : Mem) (h : e0 c_0 R m) : HC P id #[.int .u8 c_0] m R := by
  refine HC_of (fn := fn) (c := body) (od := od) (tb := tb) Go.Proofs.Tryd.func63 (by kernel_rfl) (by kernel_rfl) follows (by kernel_rfl) (of_decide_eq_true (by kernel_rfl)) ?_
  have he : (e0A R).erase = body := by kernel_rfl
  rw [← he]
  refine acpt_sound (P := P) (e0A R) _ _ _ ⟨⟨⟨(fun ρ m h => k2_ok  R ρ m h), ⟨(fun ρ m h => k1_ok  R ρ m h), True.intro⟩⟩, True.intro⟩, True.intro⟩ ?_
  exact Eq.mp (e0_eq c_0 R m) h
end eyotref8_shown
/-! ### eyot/class.Has -/
namespace class_Has
noncomputable def fn : Func := Go.Proofs.Tryd.f64
noncomputable def body : Code := fn.body.getD .skip
def od : Nat → Ord := fun _ => .done
def tb : Nat → Tab := fun _ => (0, [], [])
def e0 (s_0_0 : Int) (s_0_1 : Int) (s_0_2 : Int) (s_0_3 : Int) (b_1 : Int) (R : Ending → Mem → Prop) (m : Mem) : Prop :=
 NewC m #[.int .u64 s_0_0, .int .u64 s_0_1, .int .u64 s_0_2, .int .u64 s_0_3] T_api_Set fun b_s_2 m1 =>
 0 ≤ (IntKind.u8.wrap (Int.tdiv b_1 64) : Int) ∧ (IntKind.u8.wrap (Int.tdiv b_1 64) : Int) < (4 : Nat) ∧ (
  LdV m1 b_s_2 (0 + (IntKind.u8.wrap (Int.tdiv b_1 64) : Int).toNat * 1) fun v =>
  UnI v .u64 fun x8 =>
  NnI (Int.tmod b_1 64) (
   R (.returned (.bool ((bitsV .and .u64 (shrV .u64 x8 (Int.tmod b_1 64)) 1) == 1))) m1))
noncomputable def e0A (R : Ending → Mem → Prop) : ACode := (.code (body))
theorem e0_eq (s_0_0 : Int) (s_0_1 : Int) (s_0_2 : Int) (s_0_3 : Int) (b_1 : Int) (R : Ending → Mem → Prop) (m : Mem) : e0 s_0_0 s_0_1 s_0_2 s_0_3 b_1 R m = acpt P od (panicR R) (e0A R) (bodyQ P fn R) (argE (#[.agg #[.int .u64 s_0_0, .int .u64 s_0_1, .int .u64 s_0_2, .int .u64 s_0_3], .int .u8 b_1] : Array Value).toList) m := by kernel_rfl
theorem ok (s_0_0 : Int) (s_0_1 : Int) (s_0_2 : Int) (s_0_3 : Int) (b_1 : Int) (R : Ending → Mem → Prop) (m : Mem) (h : e0 s_0_0 s_0_1 s_0_2 s_0_3 b_1 R m) : HC P id #[.agg #[.int .u64 s_0_0, .int .u64 s_0_1, .int .u64 s_0_2, .int .u64 s_0_3], .int .u8 b_1] m R := by
  refine HC_of (fn := fn) (c := body) (od := od) (tb := tb) Go.Proofs.Tryd.func64 (by kernel_rfl) (by kernel_rfl) follows (by kernel_rfl) (of_decide_eq_true (by kernel_rfl)) ?_
  have he : (e0A R).erase = body := by kernel_rfl
  rw [← he]
  refine acpt_sound (P := P) (e0A R) _ _ _ True.intro ?_
  exact Eq.mp (e0_eq s_0_0 s_0_1 s_0_2 s_0_3 b_1 R m) h
end class_Has
/-! ### eyot/regex.join -/
namespace regex_join
noncomputable def fn : Func := Go.Proofs.Tryd.f65
noncomputable def body : Code := fn.body.getD .skip
def od : Nat → Ord := fun _ => .done
def tb : Nat → Tab := fun _ => (0, [], [])
def k2E (K : Option Addr → Nat → Nat → Bool → Int → Bool → Option Addr → Nat → Nat → Int → Int → Mem → Prop) : Env → Mem → Prop := fun ρ m => UnS (ρ 0) fun to_0a to_0l to_0c => UnB (ρ 5) fun turned_5 => UnI (ρ 6) .i64 fun i_6 => UnB (ρ 7) fun is_7 => UnS (ρ 8) fun x8a x8l x8c => UnI (ρ 9) .i64 fun x9 => UnI (ρ 10) .i64 fun x10 => K to_0a to_0l to_0c turned_5 i_6 is_7 x8a x8l x8c x9 x10 m
def k2 (K1 : Option Addr → Nat → Nat → Bool → Option Addr → Nat → Nat → Int → Int → Mem → Prop) (to_0a : Option Addr) (to_0l : Nat) (to_0c : Nat) (turned_5 : Bool) (i_6 : Int) (is_7 : Bool) (x8a : Option Addr) (x8l : Nat) (x8c : Nat) (x9 : Int) (x10 : Int) (R : Ending → Mem → Prop) (m : Mem) : Prop :=
 IxS to_0a to_0l i_6 1 fun x30b x30o =>
 LdV m x30b x30o fun v =>
 UnB v fun x31 =>
 Br x31 (
  IxS to_0a to_0l i_6 1 fun x35b x35o =>
  St1 m x35b x35o (.bool true) fun m1 =>
  K1 to_0a to_0l to_0c turned_5 x8a x8l x8c x9 (IntKind.i64.wrap (x10 + 1)) m1) (
  IxS to_0a to_0l i_6 1 fun x35b x35o =>
  St1 m x35b x35o (.bool is_7) fun m1 =>
  K1 to_0a to_0l to_0c turned_5 x8a x8l x8c x9 (IntKind.i64.wrap (x10 + 1)) m1)
noncomputable def k2A (K1 : Option Addr → Nat → Nat → Bool → Option Addr → Nat → Nat → Int → Int → Mem → Prop) (R : Ending → Mem → Prop) : ACode := (.code (sR (sR (bB (sL (sR (sR (lP (bB (sR (sL (sR (sR (body))))))))))))))
def l1E (K : Option Addr → Nat → Nat → Bool → Option Addr → Nat → Nat → Int → Int → Mem → Prop) : Env → Mem → Prop := fun ρ m => UnS (ρ 0) fun to_0a to_0l to_0c => UnB (ρ 5) fun turned_5 => UnS (ρ 8) fun x8a x8l x8c => UnI (ρ 9) .i64 fun x9 => UnI (ρ 10) .i64 fun x10 => K to_0a to_0l to_0c turned_5 x8a x8l x8c x9 x10 m
def l1B  (K1 : Option Addr → Nat → Nat → Bool → Option Addr → Nat → Nat → Int → Int → Mem → Prop) (to_0a : Option Addr) (to_0l : Nat) (to_0c : Nat) (turned_5 : Bool) (x8a : Option Addr) (x8l : Nat) (x8c : Nat) (x9 : Int) (x10 : Int) (R : Ending → Mem → Prop) (m : Mem) : Prop :=
 Br (decide (x10 < x9)) (
  IxS x8a x8l x10 1 fun x13b x13o =>
  LdV m x13b x13o fun v =>
  UnB v fun x14 =>
  Br turned_5 (
   k2 K1 to_0a to_0l to_0c true x10 x14 x8a x8l x8c x9 x10 R m) (
   Br x14 (
    IxS to_0a to_0l x10 1 fun x21b x21o =>
    LdV m x21b x21o fun v =>
    UnB v fun x22 =>
    k2 K1 to_0a to_0l to_0c (!x22) x10 x14 x8a x8l x8c x9 x10 R m) (
    k2 K1 to_0a to_0l to_0c false x10 x14 x8a x8l x8c x9 x10 R m))) (
  R (.returned (.bool turned_5)) m)
def l1  (to_0a : Option Addr) (to_0l : Nat) (to_0c : Nat) (turned_5 : Bool) (x8a : Option Addr) (x8l : Nat) (x8c : Nat) (x9 : Int) (x10 : Int) (R : Ending → Mem → Prop) (m : Mem) : Prop :=
  ∃ (I : Nat → Option Addr → Nat → Nat → Bool → Option Addr → Nat → Nat → Int → Int → Mem → Prop) (N : Nat), I N to_0a to_0l to_0c turned_5 x8a x8l x8c x9 x10 m ∧ ∀ N to_0a to_0l to_0c turned_5 x8a x8l x8c x9 x10 m, I N to_0a to_0l to_0c turned_5 x8a x8l x8c x9 x10 m → l1B  (fun to_0a to_0l to_0c turned_5 x8a x8l x8c x9 x10 m => ∃ N1, N1 < N ∧ I N1 to_0a to_0l to_0c turned_5 x8a x8l x8c x9 x10 m) to_0a to_0l to_0c turned_5 x8a x8l x8c x9 x10 R m
noncomputable def l1A  (K1 : Option Addr → Nat → Nat → Bool → Option Addr → Nat → Nat → Int → Int → Mem → Prop) (R : Ending → Mem → Prop) : ACode := (.seq (.code (sL (lP (bB (sR (sL (sR (sR (body))))))))) (.seq (.code (sL (sR (lP (bB (sR (sL (sR (sR (body)))))))))) (.seq (.block 1 (.seq (.code (sL (bB (sL (sR (sR (lP (bB (sR (sL (sR (sR (body))))))))))))) (.seq (.code (sL (sR (bB (sL (sR (sR (lP (bB (sR (sL (sR (sR (body)))))))))))))) (.cut (k2E fun to_0a to_0l to_0c turned_5 i_6 is_7 x8a x8l x8c x9 x10 m => k2 K1 to_0a to_0l to_0c turned_5 i_6 is_7 x8a x8l x8c x9 x10 R m) (sR (sR (bB (sL (sR (sR (lP (bB (sR (sL (sR (sR (body))))))))))))))))) (.code (sR (sR (sR (lP (bB (sR (sL (sR (sR (body))))))))))))))
def e0 (to_0a : Option Addr) (to_0l : Nat) (to_0c : Nat) (l_1a : Option Addr) (l_1l : Nat) (l_1c : Nat) (R : Ending → Mem → Prop) (m : Mem) : Prop :=
 l1  to_0a to_0l to_0c false l_1a l_1l l_1c ((l_1l : Nat) : Int) 0 R m
noncomputable def e0A (R : Ending → Mem → Prop) : ACode := (.seq (.code (sL (body))) (.seq (.code (sL (sR (body)))) (.seq (.seq (.code (sL (sL (sR (sR (body)))))) (.block 0 (.cut (l1E fun to_0a to_0l to_0c turned_5 x8a x8l x8c x9 x10 m => l1  to_0a to_0l to_0c turned_5 x8a x8l x8c x9 x10 R m) (.loop (lP (bB (sR (sL (sR (sR (body))))))))))) (.code (sR (sR (sR (body))))))))
abbrev l1Q  (R : Ending → Mem → Prop) : Exit → Env → Mem → Prop := (blockQ 0 (thenQ (acpt P od (panicR R) (.code (sR (sR (sR (body))))) (bodyQ P fn R)) (bodyQ P fn R)))
abbrev k2Q (K1 : Option Addr → Nat → Nat → Bool → Option Addr → Nat → Nat → Int → Int → Mem → Prop) (R : Ending → Mem → Prop) : Exit → Env → Mem → Prop := (blockQ 1 (thenQ (acpt P od (panicR R) (.code (sR (sR (sR (lP (bB (sR (sL (sR (sR (body))))))))))) (thenQ (l1E K1) (l1Q  R))) (thenQ (l1E K1) (l1Q  R))))
theorem k2_eq (K1 : Option Addr → Nat → Nat → Bool → Option Addr → Nat → Nat → Int → Int → Mem → Prop) (R : Ending → Mem → Prop) (to_0a : Option Addr) (to_0l : Nat) (to_0c : Nat) (turned_5 : Bool) (i_6 : Int) (is_7 : Bool) (x8a : Option Addr) (x8l : Nat) (x8c : Nat) (x9 : Int) (x10 : Int) (ρ : Env) (m : Mem) : k2 K1 to_0a to_0l to_0c turned_5 i_6 is_7 x8a x8l x8c x9 x10 R m = acpt P od (panicR R) (k2A K1 R) (k2Q K1 R) (upd (upd (upd (upd (upd (upd (upd ρ 10 (.int .i64 x10)) 9 (.int .i64 x9)) 8 (.slice x8a x8l x8c)) 7 (.bool is_7)) 6 (.int .i64 i_6)) 5 (.bool turned_5)) 0 (.slice to_0a to_0l to_0c)) m := by kernel_rfl
theorem k2_er (K1 : Option Addr → Nat → Nat → Bool → Option Addr → Nat → Nat → Int → Int → Mem → Prop) (R : Ending → Mem → Prop) : (k2A K1 R).erase = sR (sR (bB (sL (sR (sR (lP (bB (sR (sL (sR (sR (body)))))))))))) := by kernel_rfl
theorem k2_ok (K1 : Option Addr → Nat → Nat → Bool → Option Addr → Nat → Nat → Int → Int → Mem → Prop) (R : Ending → Mem → Prop) (ρ : Env) (m : Mem) (h : (k2E fun to_0a to_0l to_0c turned_5 i_6 is_7 x8a x8l x8c x9 x10 m => k2 K1 to_0a to_0l to_0c turned_5 i_6 is_7 x8a x8l x8c x9 x10 R m) ρ m) : cpt P od (panicR R) (sR (sR (bB (sL (sR (sR (lP (bB (sR (sL (sR (sR (body))))))))))))) (k2Q K1 R) ρ m := by
  unfold k2E at h
  obtain ⟨to_0a, to_0l, to_0c, e0, h⟩ := h.ex
  obtain ⟨turned_5, e5, h⟩ := h.ex
  obtain ⟨i_6, e6, h⟩ := h.ex
  obtain ⟨is_7, e7, h⟩ := h.ex
  obtain ⟨x8a, x8l, x8c, e8, h⟩ := h.ex
  obtain ⟨x9, e9, h⟩ := h.ex
  obtain ⟨x10, e10, h⟩ := h.ex
  rw [← upd_self e0, ← upd_self e5, ← upd_self e6, ← upd_self e7, ← upd_self e8, ← upd_self e9, ← upd_self e10]
  rw [← k2_er K1 R]
  refine acpt_sound (P := P) (k2A K1 R) _ _ _ True.intro ?_
  exact Eq.mp (k2_eq K1 R to_0a to_0l to_0c turned_5 i_6 is_7 x8a x8l x8c x9 x10 ρ m) h
theorem l1_eq  (K1 : Option Addr → Nat → Nat → Bool → Option Addr → Nat → Nat → Int → Int → Mem → Prop) (R : Ending → Mem → Prop) (to_0a : Option Addr) (to_0l : Nat) (to_0c : Nat) (turned_5 : Bool) (x8a : Option Addr) (x8l : Nat) (x8c : Nat) (x9 : Int) (x10 : Int) (ρ : Env) (m : Mem) : l1B  K1 to_0a to_0l to_0c turned_5 x8a x8l x8c x9 x10 R m = acpt P od (panicR R) (l1A  K1 R) (thenQ (l1E K1) (l1Q  R)) (upd (upd (upd (upd (upd ρ 10 (.int .i64 x10)) 9 (.int .i64 x9)) 8 (.slice x8a x8l x8c)) 5 (.bool turned_5)) 0 (.slice to_0a to_0l to_0c)) m := by kernel_rfl
theorem l1_er  (K1 : Option Addr → Nat → Nat → Bool → Option Addr → Nat → Nat → Int → Int → Mem → Prop) (R : Ending → Mem → Prop) : (l1A  K1 R).erase = lP (bB (sR (sL (sR (sR (body)))))) := by kernel_rfl
theorem l1_ok  (R : Ending → Mem → Prop) (ρ : Env) (m : Mem) (h : (l1E fun to_0a to_0l to_0c turned_5 x8a x8l x8c x9 x10 m => l1  to_0a to_0l to_0c turned_5 x8a x8l x8c x9 x10 R m) ρ m) : cpt P od (panicR R) (.loop (lP (bB (sR (sL (sR (sR (body)))))))) (l1Q  R) ρ m := by
  unfold l1E at h
  obtain ⟨to_0a, to_0l, to_0c, e0, h⟩ := h.ex
  obtain ⟨turned_5, e5, h⟩ := h.ex
  obtain ⟨x8a, x8l, x8c, e8, h⟩ := h.ex
  obtain ⟨x9, e9, h⟩ := h.ex
  obtain ⟨x10, e10, h⟩ := h.ex
  obtain ⟨I, N, h0, hs⟩ := h
  refine ⟨fun N => l1E (I N), N, (by show l1E (I N) ρ m; unfold l1E; rw [e0, e5, e8, e9, e10]; exact h0), ?_⟩
  clear h0 e0 e5 e8 e9 e10
  intro N ρ m h
  unfold l1E at h
  obtain ⟨to_0a, to_0l, to_0c, e0, h⟩ := h.ex
  obtain ⟨turned_5, e5, h⟩ := h.ex
  obtain ⟨x8a, x8l, x8c, e8, h⟩ := h.ex
  obtain ⟨x9, e9, h⟩ := h.ex
  obtain ⟨x10, e10, h⟩ := h.ex
  refine cpt_mono (P := P) (lP (bB (sR (sL (sR (sR (body))))))) (Q := thenQ (l1E fun to_0a to_0l to_0c turned_5 x8a x8l x8c x9 x10 m => ∃ N1, N1 < N ∧ I N1 to_0a to_0l to_0c turned_5 x8a x8l x8c x9 x10 m) (l1Q  R)) (fun e ρ m h => ?_) ρ m ?_
  · cases e with
    | normal =>
      have h : l1E (fun to_0a to_0l to_0c turned_5 x8a x8l x8c x9 x10 m => ∃ N1, N1 < N ∧ I N1 to_0a to_0l to_0c turned_5 x8a x8l x8c x9 x10 m) ρ m := h
      unfold l1E at h
      obtain ⟨to_0a, to_0l, to_0c, e0, h⟩ := h.ex
      obtain ⟨turned_5, e5, h⟩ := h.ex
      obtain ⟨x8a, x8l, x8c, e8, h⟩ := h.ex
      obtain ⟨x9, e9, h⟩ := h.ex
      obtain ⟨x10, e10, h⟩ := h.ex
      obtain ⟨N1, hlt, h⟩ := h
      exact ⟨N1, hlt, (by show l1E (I N1) ρ m; unfold l1E; rw [e0, e5, e8, e9, e10]; exact h)⟩
    | _ => exact h
  have hh := hs N to_0a to_0l to_0c turned_5 x8a x8l x8c x9 x10 m h
  generalize (fun to_0a to_0l to_0c turned_5 x8a x8l x8c x9 x10 m => ∃ N1, N1 < N ∧ I N1 to_0a to_0l to_0c turned_5 x8a x8l x8c x9 x10 m : Option Addr → Nat → Nat → Bool → Option Addr → Nat → Nat → Int → Int → Mem → Prop) = K1 at hh ⊢
  rw [← upd_self e0, ← upd_self e5, ← upd_self e8, ← upd_self e9, ← upd_self e10]
  rw [← l1_er  K1 R]
  refine acpt_sound (P := P) (l1A  K1 R) _ _ _ ⟨⟨⟨True.intro, ⟨⟨(fun ρ m h => k2_ok K1 R ρ m h), True.intro⟩, True.intro⟩⟩, True.intro⟩, True.intro⟩ ?_
  exact Eq.mp (l1_eq  K1 R to_0a to_0l to_0c turned_5 x8a x8l x8c x9 x10 ρ m) hh
theorem e0_eq (to_0a : Option Addr) (to_0l : Nat) (to_0c : Nat) (l_1a : Option Addr) (l_1l : Nat) (l_1c : Nat) (R : Ending → Mem → Prop) (m : Mem) : e0 to_0a to_0l to_0c l_1a l_1l l_1c R m = acpt P od (panicR R) (e0A R) (bodyQ P fn R) (argE (#[.slice to_0a to_0l to_0c, .slice l_1a l_1l l_1c] : Array Value).toList) m := by kernel_rfl
theorem ok (to_0a : Option Addr) (to_0l : Nat) (to_0c : Nat) (l_1a : Option Addr) (l_1l : Nat) (l_1c : Nat) (R : Ending → Mem → Prop) (m : Mem) (h : e0 to_0a to_0l to_0c l_1a l_1l l_1c R m) : HC P id #[.slice to_0a to_0l to_0c, .slice l_1a l_1l l_1c] m R := by
  refine HC_of (fn := fn) (c := body) (od := od) (tb := tb) Go.Proofs.Tryd.func65 (by kernel_rfl) (by kernel_rfl) follows (by kernel_rfl) (of_decide_eq_true (by kernel_rfl)) ?_
  have he : (e0A R).erase = body := by kernel_rfl
  rw [← he]
  refine acpt_sound (P := P) (e0A R) _ _ _ ⟨⟨⟨True.intro, ⟨(fun ρ m h => l1_ok  R ρ m h), True.intro⟩⟩, True.intro⟩, True.intro⟩ ?_
  exact Eq.mp (e0_eq to_0a to_0l to_0c l_1a l_1l l_1c R m) h
end regex_join
/-! ### eyot/eyotref8.Has -/
namespace eyotref8_Has
noncomputable def fn : Func := Go.Proofs.Tryd.f67
noncomputable def body : Code := fn.body.getD .skip
def od : Nat → Ord := fun _ => .done
def tb : Nat → Tab := fun _ => (0, [], [])
def e0 (s_0_0 : Int) (s_0_1 : Int) (s_0_2 : Int) (s_0_3 : Int) (b_1 : Int) (R : Ending → Mem → Prop) (m : Mem) : Prop :=
 NewC m #[.int .u64 s_0_0, .int .u64 s_0_1, .int .u64 s_0_2, .int .u64 s_0_3] T_api_Set fun b_s_2 m1 =>
 0 ≤ (IntKind.u8.wrap (Int.tdiv b_1 64) : Int) ∧ (IntKind.u8.wrap (Int.tdiv b_1 64) : Int) < (4 : Nat) ∧ (
  LdV m1 b_s_2 (0 + (IntKind.u8.wrap (Int.tdiv b_1 64) : Int).toNat * 1) fun v =>
  UnI v .u64 fun x8 =>
  NnI (Int.tmod b_1 64) (
   R (.returned (.bool ((bitsV .and .u64 (shrV .u64 x8 (Int.tmod b_1 64)) 1) == 1))) m1))
noncomputable def e0A (R : Ending → Mem → Prop) : ACode := (.code (body))
theorem e0_eq (s_0_0 : Int) (s_0_1 : Int) (s_0_2 : Int) (s_0_3 : Int) (b_1 : Int) (R : Ending → Mem → Prop) (m : Mem) : e0 s_0_0 s_0_1 s_0_2 s_0_3 b_1 R m = acpt P od (panicR R) (e0A R) (bodyQ P fn R) (argE (#[.agg #[.int .u64 s_0_0, .int .u64 s_0_1, .int .u64 s_0_2, .int .u64 s_0_3], .int .u8 b_1] : Array Value).toList) m := by kernel_rfl
theorem ok (s_0_0 : Int) (s_0_1 : Int) (s_0_2 : Int) (s_0_3 : Int) (b_1 : Int) (R : Ending → Mem → Prop) (m : Mem) (h : e0 s_0_0 s_0_1 s_0_2 s_0_3 b_1 R m) : HC P id #[.agg #[.int .u64 s_0_0, .int .u64 s_0_1, .int .u64 s_0_2, .int .u64 s_0_3], .int .u8 b_1] m R := by
  refine HC_of (fn := fn) (c := body) (od := od) (tb := tb) Go.Proofs.Tryd.func67 (by kernel_rfl) (by kernel_rfl) follows (by kernel_rfl) (of_decide_eq_true (by kernel_rfl)) ?_
  have he : (e0A R).erase = body := by kernel_rfl
  rw [← he]
  refine acpt_sound (P := P) (e0A R) _ _ _ True.intro ?_
  exact Eq.mp (e0_eq s_0_0 s_0_1 s_0_2 s_0_3 b_1 R m) h
end eyotref8_Has
end
end Go.E
set_option linter.unusedVariables false
set_option maxRecDepth 100000
namespace Go.E
open Go.H
noncomputable section
/-! ### (*eyot/regex.reader).rep -/
namespace regex_reader_rep
noncomputable def fn : Func := Go.Proofs.Tryd.f70
noncomputable def body : Code := fn.body.getD .skip
def od : Nat → Ord := fun _ => .done
def tb : Nat → Tab := fun _ => (0, [], [])
def e0 (r_0 : Option Addr) (R : Ending → Mem → Prop) (m : Mem) : Prop :=
 NewC m #[.int .i64 0, .int .u64 0, .int .u64 0, .int .u64 0, .int .u64 0, .slice none 0 0] T_api_Rx fun b2 m1 =>
 HC P regex_reader_atom.id #[.pointer r_0] m1 (Cont (fun v m2 =>
   UnAgg v fun l =>
   UnCons l fun v l =>
   UnI v .i64 fun x6_0 =>
   UnCons l fun v l =>
   UnI v .u64 fun x6_1 =>
   UnCons l fun v l =>
   UnI v .u64 fun x6_2 =>
   UnCons l fun v l =>
   UnI v .u64 fun x6_3 =>
   UnCons l fun v l =>
   UnI v .u64 fun x6_4 =>
   UnCons l fun v l =>
   UnS v fun x6_5a x6_5l x6_5c =>
   UnNil l (
    NewC m2 #[.int .i64 0, .int .u64 0, .int .u64 0, .int .u64 0, .int .u64 0, .slice none 0 0] T_api_Rx fun b_x_3 m3 =>
    St1 m3 b_x_3 0 (.int .i64 x6_0) fun m4 =>
    St1 m4 b_x_3 1 (.int .u64 x6_1) fun m5 =>
    St1 m5 b_x_3 2 (.int .u64 x6_2) fun m6 =>
    St1 m6 b_x_3 3 (.int .u64 x6_3) fun m7 =>
    St1 m7 b_x_3 4 (.int .u64 x6_4) fun m8 =>
    St1 m8 b_x_3 5 (.slice x6_5a x6_5l x6_5c) fun m9 =>
    NilC r_0 (fun x8b x8o =>
     LdV m9 x8b x8o fun v =>
     UnStr v fun x10 =>
     Br ((x10.size : Int) == 0) (
      LdV m9 b_x_3 0 fun v =>
      UnI v .i64 fun x13_0 =>
      LdV m9 b_x_3 1 fun v =>
      UnI v .u64 fun x13_1 =>
      LdV m9 b_x_3 2 fun v =>
      UnI v .u64 fun x13_2 =>
      LdV m9 b_x_3 3 fun v =>
      UnI v .u64 fun x13_3 =>
      LdV m9 b_x_3 4 fun v =>
      UnI v .u64 fun x13_4 =>
      LdV m9 b_x_3 5 fun v =>
      UnS v fun x13_5a x13_5l x13_5c =>
      St1 m9 b2 0 (.int .i64 x13_0) fun m10 =>
      St1 m10 b2 1 (.int .u64 x13_1) fun m11 =>
      St1 m11 b2 2 (.int .u64 x13_2) fun m12 =>
      St1 m12 b2 3 (.int .u64 x13_3) fun m13 =>
      St1 m13 b2 4 (.int .u64 x13_4) fun m14 =>
      St1 m14 b2 5 (.slice x13_5a x13_5l x13_5c) fun m15 =>
      LdV m15 b2 0 fun v =>
      UnI v .i64 fun res0_0 =>
      LdV m15 b2 1 fun v =>
      UnI v .u64 fun res0_1 =>
      LdV m15 b2 2 fun v =>
      UnI v .u64 fun res0_2 =>
      LdV m15 b2 3 fun v =>
      UnI v .u64 fun res0_3 =>
      LdV m15 b2 4 fun v =>
      UnI v .u64 fun res0_4 =>
      LdV m15 b2 5 fun v =>
      UnS v fun res0_5a res0_5l res0_5c =>
      R (.returned (.agg #[.int .i64 res0_0, .int .u64 res0_1, .int .u64 res0_2, .int .u64 res0_3, .int .u64 res0_4, .slice res0_5a res0_5l res0_5c])) m15) (
      NilC r_0 (fun x15b x15o =>
       LdV m9 x15b x15o fun v =>
       UnStr v fun x17 =>
       IxB x17 0 fun x18 =>
       HC P strings_IndexByte.id #[.string (ByteArray.mk #[42, 43, 63]), .int .u8 x18] m9 (Cont (fun v m10 =>
        UnI v .i64 fun x19 =>
        Br (decide (x19 < 0)) (
        LdV m10 b_x_3 0 fun v =>
        UnI v .i64 fun x22_0 =>
        LdV m10 b_x_3 1 fun v =>
        UnI v .u64 fun x22_1 =>
        LdV m10 b_x_3 2 fun v =>
        UnI v .u64 fun x22_2 =>
        LdV m10 b_x_3 3 fun v =>
        UnI v .u64 fun x22_3 =>
        LdV m10 b_x_3 4 fun v =>
        UnI v .u64 fun x22_4 =>
        LdV m10 b_x_3 5 fun v =>
        UnS v fun x22_5a x22_5l x22_5c =>
        St1 m10 b2 0 (.int .i64 x22_0) fun m11 =>
        St1 m11 b2 1 (.int .u64 x22_1) fun m12 =>
        St1 m12 b2 2 (.int .u64 x22_2) fun m13 =>
        St1 m13 b2 3 (.int .u64 x22_3) fun m14 =>
        St1 m14 b2 4 (.int .u64 x22_4) fun m15 =>
        St1 m15 b2 5 (.slice x22_5a x22_5l x22_5c) fun m16 =>
        LdV m16 b2 0 fun v =>
        UnI v .i64 fun res0_0 =>
        LdV m16 b2 1 fun v =>
        UnI v .u64 fun res0_1 =>
        LdV m16 b2 2 fun v =>
        UnI v .u64 fun res0_2 =>
        LdV m16 b2 3 fun v =>
        UnI v .u64 fun res0_3 =>
        LdV m16 b2 4 fun v =>
        UnI v .u64 fun res0_4 =>
        LdV m16 b2 5 fun v =>
        UnS v fun res0_5a res0_5l res0_5c =>
        R (.returned (.agg #[.int .i64 res0_0, .int .u64 res0_1, .int .u64 res0_2, .int .u64 res0_3, .int .u64 res0_4, .slice res0_5a res0_5l res0_5c])) m16) (
        NilC r_0 (fun x25b x25o =>
        LdV m10 x25b x25o fun v =>
        UnStr v fun x27 =>
        SlB x27 1 (x27.size : Int) fun x28 =>
        NilC r_0 (fun x29b x29o =>
        St1 m10 x29b x29o (.string x28) fun m11 =>
        LdV m11 b_x_3 0 fun v =>
        UnI v .i64 fun x33_0 =>
        LdV m11 b_x_3 1 fun v =>
        UnI v .u64 fun x33_1 =>
        LdV m11 b_x_3 2 fun v =>
        UnI v .u64 fun x33_2 =>
        LdV m11 b_x_3 3 fun v =>
        UnI v .u64 fun x33_3 =>
        LdV m11 b_x_3 4 fun v =>
        UnI v .u64 fun x33_4 =>
        LdV m11 b_x_3 5 fun v =>
        UnS v fun x33_5a x33_5l x33_5c =>
        NewC m11 #[.int .i64 x33_0, .int .u64 x33_1, .int .u64 x33_2, .int .u64 x33_3, .int .u64 x33_4, .slice x33_5a x33_5l x33_5c] T_api_Rx fun b34 m12 =>
        St1 m12 b2 0 (.int .i64 (IntKind.i64.wrap (4 + x19))) fun m13 =>
        St1 m13 b2 1 (.int .u64 0) fun m14 =>
        St1 m14 b2 2 (.int .u64 0) fun m15 =>
        St1 m15 b2 3 (.int .u64 0) fun m16 =>
        St1 m16 b2 4 (.int .u64 0) fun m17 =>
        St1 m17 b2 5 (.slice (some ⟨b34, 0, none⟩) 1 1) fun m18 =>
        LdV m18 b2 0 fun v =>
        UnI v .i64 fun res0_0 =>
        LdV m18 b2 1 fun v =>
        UnI v .u64 fun res0_1 =>
        LdV m18 b2 2 fun v =>
        UnI v .u64 fun res0_2 =>
        LdV m18 b2 3 fun v =>
        UnI v .u64 fun res0_3 =>
        LdV m18 b2 4 fun v =>
        UnI v .u64 fun res0_4 =>
        LdV m18 b2 5 fun v =>
        UnS v fun res0_5a res0_5l res0_5c =>
        R (.returned (.agg #[.int .i64 res0_0, .int .u64 res0_1, .int .u64 res0_2, .int .u64 res0_3, .int .u64 res0_4, .slice res0_5a res0_5l res0_5c])) m18) (R (.panicked (nilPanic P)) m10)) (R (.panicked (nilPanic P)) m10))) (panicR R))) (R (.panicked (nilPanic P)) m9))) (R (.panicked (nilPanic P)) m9))) (panicR R))
noncomputable def e0A (R : Ending → Mem → Prop) : ACode := (.code (body))
theorem e0_eq (r_0 : Option Addr) (R : Ending → Mem → Prop) (m : Mem) : e0 r_0 R m = acpt P od (panicR R) (e0A R) (bodyQ P fn R) (argE (#[.pointer r_0] : Array Value).toList) m := by kernel_rfl
theorem ok (r_0 : Option Addr) (R : Ending → Mem → Prop) (m : Mem) (h : e0 r_0 R m) : HC P id #[.pointer r_0] m R := by
  refine HC_of (fn := fn) (c := body) (od := od) (tb := tb) Go.Proofs.Tryd.func70 (by kernel_rfl) (by kernel_rfl) follows (by kernel_rfl) (of_decide_eq_true (by kernel_rfl)) ?_
  have he : (e0A R).erase = body := by kernel_rfl
  rw [← he]
  refine acpt_sound (P := P) (e0A R) _ _ _ True.intro ?_
  exact Eq.mp (e0_eq r_0 R m) h
end regex_reader_rep
/-! ### eyot/class.with -/
namespace class_with
noncomputable def fn : Func := Go.Proofs.Tryd.f72
noncomputable def body : Code := fn.body.getD .skip
def od : Nat → Ord := fun | 4 => ordL [(0, 3), (1, 3), (2, 3), (3, 3), (4, 1), (5, 3), (6, 3), (7, 0), (8, 2), (9, 3), (10, 2)] .done | _ => .done
def tb : Nat → Tab := fun | 4 => (1280, [0, 0, 0, 4, 12, 0, 32, 96, 254, 511, 1023], [(0, 128, 12), (0, 4, 13), (0, 128, 14), (4, 8200, 15), (8, 16384, 16), (0, 128, 17), (32, 65552, 18), (64, 131072, 19), (146, 299008, 20), (511, 2056, 21), (1023, 1572864, 0)]) | _ => (0, [], [])
def l1E (K : Value → Nat → Nat → Nat → Nat → Nat → Nat → Int → Mem → Prop) : Env → Mem → Prop := fun ρ m => (fun f_2 => UnPA (ρ 3) fun a_3b a_3o => UnPA (ρ 4) fun b_4b b_4o => UnPA (ρ 6) fun x6b x6o => UnI (ρ 8) .i64 fun x8 => K f_2 a_3b a_3o b_4b b_4o x6b x6o x8 m) (ρ 2)
def l1B  (K1 : Value → Nat → Nat → Nat → Nat → Nat → Nat → Int → Mem → Prop) (f_2 : Value) (a_3b : Nat) (a_3o : Nat) (b_4b : Nat) (b_4o : Nat) (x6b : Nat) (x6o : Nat) (x8 : Int) (R : Ending → Mem → Prop) (m : Mem) : Prop :=
 Br (decide (x8 < 4)) (
  Sub m fun r1 =>
  0 ≤ (x8 : Int) ∧ (x8 : Int) < (4 : Nat) ∧ (
   LdV r1 a_3b (a_3o + (x8 : Int).toNat * 1) fun v =>
   UnI v .u64 fun x15 =>
   0 ≤ (x8 : Int) ∧ (x8 : Int) < (4 : Nat) ∧ (
    LdV m b_4b (b_4o + (x8 : Int).toNat * 1) fun v =>
    UnI v .u64 fun x18 =>
    CallV P f_2 #[.int .u64 x15, .int .u64 x18] m (Cont (fun v m2 =>
      UnI v .u64 fun x19 =>
      0 ≤ (x8 : Int) ∧ (x8 : Int) < (4 : Nat) ∧ (
       St1 m2 a_3b (a_3o + (x8 : Int).toNat * 1) (.int .u64 x19) fun m3 =>
       K1 f_2 a_3b a_3o b_4b b_4o x6b x6o (IntKind.i64.wrap (x8 + 1)) m3)) (panicR R))))) (
  LdV m a_3b a_3o fun v =>
  UnI v .u64 fun x22_0 =>
  LdV m a_3b (a_3o + 1) fun v =>
  UnI v .u64 fun x22_1 =>
  LdV m a_3b (a_3o + 2) fun v =>
  UnI v .u64 fun x22_2 =>
  LdV m a_3b (a_3o + 3) fun v =>
  UnI v .u64 fun x22_3 =>
  St1 m x6b x6o (.int .u64 x22_0) fun m1 =>
  St1 m1 x6b (x6o + 1) (.int .u64 x22_1) fun m2 =>
  St1 m2 x6b (x6o + 2) (.int .u64 x22_2) fun m3 =>
  St1 m3 x6b (x6o + 3) (.int .u64 x22_3) fun m4 =>
  LdV m4 x6b x6o fun v =>
  UnI v .u64 fun res0_0 =>
  LdV m4 x6b (x6o + 1) fun v =>
  UnI v .u64 fun res0_1 =>
  LdV m4 x6b (x6o + 2) fun v =>
  UnI v .u64 fun res0_2 =>
  LdV m4 x6b (x6o + 3) fun v =>
  UnI v .u64 fun res0_3 =>
  R (.returned (.agg #[.int .u64 res0_0, .int .u64 res0_1, .int .u64 res0_2, .int .u64 res0_3])) m4)
def l1  (f_2 : Value) (a_3b : Nat) (a_3o : Nat) (b_4b : Nat) (b_4o : Nat) (x6b : Nat) (x6o : Nat) (x8 : Int) (R : Ending → Mem → Prop) (m : Mem) : Prop :=
  ∃ (I : Nat → Value → Nat → Nat → Nat → Nat → Nat → Nat → Int → Mem → Prop) (N : Nat), I N f_2 a_3b a_3o b_4b b_4o x6b x6o x8 m ∧ ∀ N f_2 a_3b a_3o b_4b b_4o x6b x6o x8 m, I N f_2 a_3b a_3o b_4b b_4o x6b x6o x8 m → l1B  (fun f_2 a_3b a_3o b_4b b_4o x6b x6o x8 m => ∃ N1, N1 < N ∧ I N1 f_2 a_3b a_3o b_4b b_4o x6b x6o x8 m) f_2 a_3b a_3o b_4b b_4o x6b x6o x8 R m
noncomputable def l1A  (K1 : Value → Nat → Nat → Nat → Nat → Nat → Nat → Int → Mem → Prop) (R : Ending → Mem → Prop) : ACode := (.code (lP (bB (sR (sL (sR (body)))))))
def e0 (a_0_0 : Int) (a_0_1 : Int) (a_0_2 : Int) (a_0_3 : Int) (b_1_0 : Int) (b_1_1 : Int) (b_1_2 : Int) (b_1_3 : Int) (f_2 : Value) (R : Ending → Mem → Prop) (m : Mem) : Prop :=
 NewC m #[.int .u64 a_0_0, .int .u64 a_0_1, .int .u64 a_0_2, .int .u64 a_0_3] T_api_Set fun b_a_3 m1 =>
 NewC m1 #[.int .u64 b_1_0, .int .u64 b_1_1, .int .u64 b_1_2, .int .u64 b_1_3] T_api_Set fun b_4 m2 =>
 NewC m2 #[.int .u64 0, .int .u64 0, .int .u64 0, .int .u64 0] T_api_Set fun b6 m3 =>
 l1  f_2 b_a_3 0 b_4 0 b6 0 0 R m3
noncomputable def e0A (R : Ending → Mem → Prop) : ACode := (.seq (.code (sL (body))) (.seq (.seq (.code (sL (sL (sR (body))))) (.block 0 (.cut (l1E fun f_2 a_3b a_3o b_4b b_4o x6b x6o x8 m => l1  f_2 a_3b a_3o b_4b b_4o x6b x6o x8 R m) (.loop (lP (bB (sR (sL (sR (body)))))))))) (.code (sR (sR (body))))))
abbrev l1Q  (R : Ending → Mem → Prop) : Exit → Env → Mem → Prop := (blockQ 0 (thenQ (acpt P od (panicR R) (.code (sR (sR (body)))) (bodyQ P fn R)) (bodyQ P fn R)))
theorem l1_eq  (K1 : Value → Nat → Nat → Nat → Nat → Nat → Nat → Int → Mem → Prop) (R : Ending → Mem → Prop) (f_2 : Value) (a_3b : Nat) (a_3o : Nat) (b_4b : Nat) (b_4o : Nat) (x6b : Nat) (x6o : Nat) (x8 : Int) (ρ : Env) (m : Mem) : l1B  K1 f_2 a_3b a_3o b_4b b_4o x6b x6o x8 R m = acpt P od (panicR R) (l1A  K1 R) (thenQ (l1E K1) (l1Q  R)) (upd (upd (upd (upd (upd ρ 8 (.int .i64 x8)) 6 (.pointer (some ⟨x6b, x6o, none⟩))) 4 (.pointer (some ⟨b_4b, b_4o, none⟩))) 3 (.pointer (some ⟨a_3b, a_3o, none⟩))) 2 (f_2)) m := by kernel_rfl
theorem l1_er  (K1 : Value → Nat → Nat → Nat → Nat → Nat → Nat → Int → Mem → Prop) (R : Ending → Mem → Prop) : (l1A  K1 R).erase = lP (bB (sR (sL (sR (body))))) := by kernel_rfl
theorem l1_ok  (R : Ending → Mem → Prop) (ρ : Env) (m : Mem) (h : (l1E fun f_2 a_3b a_3o b_4b b_4o x6b x6o x8 m => l1  f_2 a_3b a_3o b_4b b_4o x6b x6o x8 R m) ρ m) : cpt P od (panicR R) (.loop (lP (bB (sR (sL (sR (body))))))) (l1Q  R) ρ m := by
  unfold l1E at h
  generalize e2 : ρ 2 = f_2 at h
  try dsimp only at h
  obtain ⟨a_3b, a_3o, e3, h⟩ := h.ex
  obtain ⟨b_4b, b_4o, e4, h⟩ := h.ex
  obtain ⟨x6b, x6o, e6, h⟩ := h.ex
  obtain ⟨x8, e8, h⟩ := h.ex
  obtain ⟨I, N, h0, hs⟩ := h
  refine ⟨fun N => l1E (I N), N, (by show l1E (I N) ρ m; unfold l1E; rw [e2, e3, e4, e6, e8]; exact h0), ?_⟩
  clear h0 e2 e3 e4 e6 e8
  intro N ρ m h
  unfold l1E at h
  generalize e2 : ρ 2 = f_2 at h
  try dsimp only at h
  obtain ⟨a_3b, a_3o, e3, h⟩ := h.ex
  obtain ⟨b_4b, b_4o, e4, h⟩ := h.ex
  obtain ⟨x6b, x6o, e6, h⟩ := h.ex
  obtain ⟨x8, e8, h⟩ := h.ex
  refine cpt_mono (P := P) (lP (bB (sR (sL (sR (body)))))) (Q := thenQ (l1E fun f_2 a_3b a_3o b_4b b_4o x6b x6o x8 m => ∃ N1, N1 < N ∧ I N1 f_2 a_3b a_3o b_4b b_4o x6b x6o x8 m) (l1Q  R)) (fun e ρ m h => ?_) ρ m ?_
  · cases e with
    | normal =>
      have h : l1E (fun f_2 a_3b a_3o b_4b b_4o x6b x6o x8 m => ∃ N1, N1 < N ∧ I N1 f_2 a_3b a_3o b_4b b_4o x6b x6o x8 m) ρ m := h
      unfold l1E at h
      generalize e2 : ρ 2 = f_2 at h
      try dsimp only at h
      obtain ⟨a_3b, a_3o, e3, h⟩ := h.ex
      obtain ⟨b_4b, b_4o, e4, h⟩ := h.ex
      obtain ⟨x6b, x6o, e6, h⟩ := h.ex
      obtain ⟨x8, e8, h⟩ := h.ex
      obtain ⟨N1, hlt, h⟩ := h
      exact ⟨N1, hlt, (by show l1E (I N1) ρ m; unfold l1E; rw [e2, e3, e4, e6, e8]; exact h)⟩
    | _ => exact h
  have hh := hs N f_2 a_3b a_3o b_4b b_4o x6b x6o x8 m h
  generalize (fun f_2 a_3b a_3o b_4b b_4o x6b x6o x8 m => ∃ N1, N1 < N ∧ I N1 f_2 a_3b a_3o b_4b b_4o x6b x6o x8 m : Value → Nat → Nat → Nat → Nat → Nat → Nat → Int → Mem → Prop) = K1 at hh ⊢
  rw [← upd_self e2, ← upd_self e3, ← upd_self e4, ← upd_self e6, ← upd_self e8]
  rw [← l1_er  K1 R]
  refine acpt_sound (P := P) (l1A  K1 R) _ _ _ True.intro ?_
  exact Eq.mp (l1_eq  K1 R f_2 a_3b a_3o b_4b b_4o x6b x6o x8 ρ m) hh
theorem e0_eq (a_0_0 : Int) (a_0_1 : Int) (a_0_2 : Int) (a_0_3 : Int) (b_1_0 : Int) (b_1_1 : Int) (b_1_2 : Int) (b_1_3 : Int) (f_2 : Value) (R : Ending → Mem → Prop) (m : Mem) : e0 a_0_0 a_0_1 a_0_2 a_0_3 b_1_0 b_1_1 b_1_2 b_1_3 f_2 R m = acpt P od (panicR R) (e0A R) (bodyQ P fn R) (argE (#[.agg #[.int .u64 a_0_0, .int .u64 a_0_1, .int .u64 a_0_2, .int .u64 a_0_3], .agg #[.int .u64 b_1_0, .int .u64 b_1_1, .int .u64 b_1_2, .int .u64 b_1_3], f_2] : Array Value).toList) m := by kernel_rfl
theorem ok (a_0_0 : Int) (a_0_1 : Int) (a_0_2 : Int) (a_0_3 : Int) (b_1_0 : Int) (b_1_1 : Int) (b_1_2 : Int) (b_1_3 : Int) (f_2 : Value) (R : Ending → Mem → Prop) (m : Mem) (h : e0 a_0_0 a_0_1 a_0_2 a_0_3 b_1_0 b_1_1 b_1_2 b_1_3 f_2 R m) : HC P id #[.agg #[.int .u64 a_0_0, .int .u64 a_0_1, .int .u64 a_0_2, .int .u64 a_0_3], .agg #[.int .u64 b_1_0, .int .u64 b_1_1, .int .u64 b_1_2, .int .u64 b_1_3], f_2] m R := by
  refine HC_of (fn := fn) (c := body) (od := od) (tb := tb) Go.Proofs.Tryd.func72 (by kernel_rfl) (by kernel_rfl) follows (by kernel_rfl) (of_decide_eq_true (by kernel_rfl)) ?_
  have he : (e0A R).erase = body := by kernel_rfl
  rw [← he]
  refine acpt_sound (P := P) (e0A R) _ _ _ ⟨⟨True.intro, ⟨(fun ρ m h => l1_ok  R ρ m h), True.intro⟩⟩, True.intro⟩ ?_
  exact Eq.mp (e0_eq a_0_0 a_0_1 a_0_2 a_0_3 b_1_0 b_1_1 b_1_2 b_1_3 f_2 R m) h
end class_with
/-! ### eyot/class.Not$1 -/
namespace class_Not_1
noncomputable def fn : Func := Go.Proofs.Tryd.f73
noncomputable def body : Code := fn.body.getD .skip
def od : Nat → Ord := fun _ => .done
def tb : Nat → Tab := fun _ => (0, [], [])
def e0 (x_0 : Int) (a1 : Int) (R : Ending → Mem → Prop) (m : Mem) : Prop :=
 R (.returned (.int .u64 (bitsV .xor .u64 18446744073709551615 x_0))) m
noncomputable def e0A (R : Ending → Mem → Prop) : ACode := (.code (body))
theorem e0_eq (x_0 : Int) (a1 : Int) (R : Ending → Mem → Prop) (m : Mem) : e0 x_0 a1 R m = acpt P od (panicR R) (e0A R) (bodyQ P fn R) (argE (#[.int .u64 x_0, .int .u64 a1] : Array Value).toList) m := by kernel_rfl
theorem ok (x_0 : Int) (a1 : Int) (R : Ending → Mem → Prop) (m : Mem) (h : e0 x_0 a1 R m) : HC P id #[.int .u64 x_0, .int .u64 a1] m R := by
  refine HC_of (fn := fn) (c := body) (od := od) (tb := tb) Go.Proofs.Tryd.func73 (by kernel_rfl) (by kernel_rfl) follows (by kernel_rfl) (of_decide_eq_true (by kernel_rfl)) ?_
  have he : (e0A R).erase = body := by kernel_rfl
  rw [← he]
  refine acpt_sound (P := P) (e0A R) _ _ _ True.intro ?_
  exact Eq.mp (e0_eq x_0 a1 R m) h
end class_Not_1
/-! ### strings.IndexByte -/
namespace strings_IndexByte
noncomputable def fn : Func := Go.Proofs.Tryd.f74
noncomputable def body : Code := fn.body.getD .skip
def od : Nat → Ord := fun _ => .done
def tb : Nat → Tab := fun _ => (0, [], [])
def e0 (s_0 : ByteArray) (c_1 : Int) (R : Ending → Mem → Prop) (m : Mem) : Prop :=
 HC P internal_stringslite_IndexByte.id #[.string s_0, .int .u8 c_1] m (Cont (fun v m1 =>
   UnI v .i64 fun x7 =>
   R (.returned (.int .i64 x7)) m1) (panicR R))
noncomputable def e0A (R : Ending → Mem → Prop) : ACode := (.code (body))
theorem e0_eq (s_0 : ByteArray) (c_1 : Int) (R : Ending → Mem → Prop) (m : Mem) : e0 s_0 c_1 R m = acpt P od (panicR R) (e0A R) (bodyQ P fn R) (argE (#[.string s_0, .int .u8 c_1] : Array Value).toList) m := by kernel_rfl
theorem ok (s_0 : ByteArray) (c_1 : Int) (R : Ending → Mem → Prop) (m : Mem) (h : e0 s_0 c_1 R m) : HC P id #[.string s_0, .int .u8 c_1] m R := by
  refine HC_of (fn := fn) (c := body) (od := od) (tb := tb) Go.Proofs.Tryd.func74 (by kernel_rfl) (by kernel_rfl) follows (by kernel_rfl) (of_decide_eq_true (by kernel_rfl)) ?_
  have he : (e0A R).erase = body := by kernel_rfl
  rw [← he]
  refine acpt_sound (P := P) (e0A R) _ _ _ True.intro ?_
  exact Eq.mp (e0_eq s_0 c_1 R m) h
end strings_IndexByte
end
end Go.E
set_option linter.unusedVariables false
set_option maxRecDepth 100000
namespace Go.E
open Go.H
noncomputable section
/-! ### eyot/eyotref8.in -/
namespace eyotref8_in
noncomputable def fn : Func := Go.Proofs.Tryd.f77
noncomputable def body : Code := fn.body.getD .skip
def od : Nat → Ord := fun _ => .done
def tb : Nat → Tab := fun _ => (0, [], [])
def l1E (K : ByteArray → Int → Int → Mem → Prop) : Env → Mem → Prop := fun ρ m => UnStr (ρ 0) fun s_0 => UnI (ρ 1) .u8 fun c_1 => UnI (ρ 5) .i64 fun i_5 => K s_0 c_1 i_5 m
def l1B  (K1 : ByteArray → Int → Int → Mem → Prop) (s_0 : ByteArray) (c_1 : Int) (i_5 : Int) (R : Ending → Mem → Prop) (m : Mem) : Prop :=
 Br (decide (i_5 < (s_0.size : Int))) (
  IxB s_0 i_5 fun x14 =>
  Br (x14 == c_1) (
   R (.returned (.bool true)) m) (
   K1 s_0 c_1 (IntKind.i64.wrap (i_5 + 1)) m)) (
  R (.returned (.bool false)) m)
def l1  (s_0 : ByteArray) (c_1 : Int) (i_5 : Int) (R : Ending → Mem → Prop) (m : Mem) : Prop :=
  ∃ (I : Nat → ByteArray → Int → Int → Mem → Prop) (N : Nat), I N s_0 c_1 i_5 m ∧ ∀ N s_0 c_1 i_5 m, I N s_0 c_1 i_5 m → l1B  (fun s_0 c_1 i_5 m => ∃ N1, N1 < N ∧ I N1 s_0 c_1 i_5 m) s_0 c_1 i_5 R m
noncomputable def l1A  (K1 : ByteArray → Int → Int → Mem → Prop) (R : Ending → Mem → Prop) : ACode := (.code (lP (bB (sR (sL (sR (body)))))))
def e0 (s_0 : ByteArray) (c_1 : Int) (R : Ending → Mem → Prop) (m : Mem) : Prop :=
 l1  s_0 c_1 0 R m
noncomputable def e0A (R : Ending → Mem → Prop) : ACode := (.seq (.code (sL (body))) (.seq (.seq (.code (sL (sL (sR (body))))) (.block 0 (.cut (l1E fun s_0 c_1 i_5 m => l1  s_0 c_1 i_5 R m) (.loop (lP (bB (sR (sL (sR (body)))))))))) (.code (sR (sR (body))))))
abbrev l1Q  (R : Ending → Mem → Prop) : Exit → Env → Mem → Prop := (blockQ 0 (thenQ (acpt P od (panicR R) (.code (sR (sR (body)))) (bodyQ P fn R)) (bodyQ P fn R)))
theorem l1_eq  (K1 : ByteArray → Int → Int → Mem → Prop) (R : Ending → Mem → Prop) (s_0 : ByteArray) (c_1 : Int) (i_5 : Int) (ρ : Env) (m : Mem) : l1B  K1 s_0 c_1 i_5 R m = acpt P od (panicR R) (l1A  K1 R) (thenQ (l1E K1) (l1Q  R)) (upd (upd (upd ρ 5 (.int .i64 i_5)) 1 (.int .u8 c_1)) 0 (.string s_0)) m := by kernel_rfl
theorem l1_er  (K1 : ByteArray → Int → Int → Mem → Prop) (R : Ending → Mem → Prop) : (l1A  K1 R).erase = lP (bB (sR (sL (sR (body))))) := by kernel_rfl
theorem l1_ok  (R : Ending → Mem → Prop) (ρ : Env) (m : Mem) (h : (l1E fun s_0 c_1 i_5 m => l1  s_0 c_1 i_5 R m) ρ m) : cpt P od (panicR R) (.loop (lP (bB (sR (sL (sR (body))))))) (l1Q  R) ρ m := by
  unfold l1E at h
  obtain ⟨s_0, e0, h⟩ := h.ex
  obtain ⟨c_1, e1, h⟩ := h.ex
  obtain ⟨i_5, e5, h⟩ := h.ex
  obtain ⟨I, N, h0, hs⟩ := h
  refine ⟨fun N => l1E (I N), N, (by show l1E (I N) ρ m; unfold l1E; rw [e0, e1, e5]; exact h0), ?_⟩
  clear h0 e0 e1 e5
  intro N ρ m h
  unfold l1E at h
  obtain ⟨s_0, e0, h⟩ := h.ex
  obtain ⟨c_1, e1, h⟩ := h.ex
  obtain ⟨i_5, e5, h⟩ := h.ex
  refine cpt_mono (P := P) (lP (bB (sR (sL (sR (body)))))) (Q := thenQ (l1E fun s_0 c_1 i_5 m => ∃ N1, N1 < N ∧ I N1 s_0 c_1 i_5 m) (l1Q  R)) (fun e ρ m h => ?_) ρ m ?_
  · cases e with
    | normal =>
      have h : l1E (fun s_0 c_1 i_5 m => ∃ N1, N1 < N ∧ I N1 s_0 c_1 i_5 m) ρ m := h
      unfold l1E at h
      obtain ⟨s_0, e0, h⟩ := h.ex
      obtain ⟨c_1, e1, h⟩ := h.ex
      obtain ⟨i_5, e5, h⟩ := h.ex
      obtain ⟨N1, hlt, h⟩ := h
      exact ⟨N1, hlt, (by show l1E (I N1) ρ m; unfold l1E; rw [e0, e1, e5]; exact h)⟩
    | _ => exact h
  have hh := hs N s_0 c_1 i_5 m h
  generalize (fun s_0 c_1 i_5 m => ∃ N1, N1 < N ∧ I N1 s_0 c_1 i_5 m : ByteArray → Int → Int → Mem → Prop) = K1 at hh ⊢
  rw [← upd_self e0, ← upd_self e1, ← upd_self e5]
  rw [← l1_er  K1 R]
  refine acpt_sound (P := P) (l1A  K1 R) _ _ _ True.intro ?_
  exact Eq.mp (l1_eq  K1 R s_0 c_1 i_5 ρ m) hh
theorem e0_eq (s_0 : ByteArray) (c_1 : Int) (R : Ending → Mem → Prop) (m : Mem) : e0 s_0 c_1 R m = acpt P od (panicR R) (e0A R) (bodyQ P fn R) (argE (#[.string s_0, .int .u8 c_1] : Array Value).toList) m := by kernel_rfl
theorem ok (s_0 : ByteArray) (c_1 : Int) (R : Ending → Mem → Prop) (m : Mem) (h : e0 s_0 c_1 R m) : HC P id #[.string s_0, .int .u8 c_1] m R := by
  refine HC_of (fn := fn) (c := body) (od := od) (tb := tb) Go.Proofs.Tryd.func77 (by kernel_rfl) (by kernel_rfl) follows (by kernel_rfl) (of_decide_eq_true (by kernel_rfl)) ?_
  have he : (e0A R).erase = body := by kernel_rfl
  rw [← he]
  refine acpt_sound (P := P) (e0A R) _ _ _ ⟨⟨True.intro, ⟨(fun ρ m h => l1_ok  R ρ m h), True.intro⟩⟩, True.intro⟩ ?_
  exact Eq.mp (e0_eq s_0 c_1 R m) h
end eyotref8_in
/-! ### (*eyot/regex.reader).atom -/
namespace regex_reader_atom
noncomputable def fn : Func := Go.Proofs.Tryd.f78
noncomputable def body : Code := fn.body.getD .skip
def od : Nat → Ord := fun _ => .done
def tb : Nat → Tab := fun _ => (0, [], [])
def e0 (a0 : Option Addr) (R : Ending → Mem → Prop) (m : Mem) : Prop :=
 NewC m #[.int .i64 0, .int .u64 0, .int .u64 0, .int .u64 0, .int .u64 0, .slice none 0 0] T_api_Rx fun b2 m1 =>
 HC P regex_reader_sees.id #[.pointer a0, .int .u8 40] m1 (Cont (fun v m2 =>
   UnB v fun x8 =>
   Br (!x8) (
    NilC a0 (fun x12b x12o =>
     LdV m2 x12b x12o fun v =>
     UnStr v fun x14 =>
     HC P class_Parse.id #[.string x14] m2 (Cont (fun v m3 =>
       UnTup v fun us0 =>
       UnCons us0 fun w us1 =>
       UnAgg w fun l =>
       UnCons l fun v l =>
       UnI v .u64 fun x15_0_0 =>
       UnCons l fun v l =>
       UnI v .u64 fun x15_0_1 =>
       UnCons l fun v l =>
       UnI v .u64 fun x15_0_2 =>
       UnCons l fun v l =>
       UnI v .u64 fun x15_0_3 =>
       UnNil l (
        UnCons us1 fun w us2 =>
        UnI w .i64 fun x15_1 =>
        UnCons us2 fun w us3 =>
        UnI w .i64 fun x15_2 =>
        UnNil us3 (
        NewC m3 #[.int .u64 0, .int .u64 0, .int .u64 0, .int .u64 0] T_api_Set fun b3 m4 =>
        St1 m4 b3 0 (.int .u64 x15_0_0) fun m5 =>
        St1 m5 b3 1 (.int .u64 x15_0_1) fun m6 =>
        St1 m6 b3 2 (.int .u64 x15_0_2) fun m7 =>
        St1 m7 b3 3 (.int .u64 x15_0_3) fun m8 =>
        Br (x15_2 != 0) (
        R (.panicked [{ v := .iface T_regex_refusal (.agg #[.int .i64 2]), recovered := false }]) m8) (
        NilC a0 (fun x25b x25o =>
        LdV m8 x25b x25o fun v =>
        UnStr v fun x27 =>
        SlB x27 x15_1 (x27.size : Int) fun x29 =>
        NilC a0 (fun x30b x30o =>
        St1 m8 x30b x30o (.string x29) fun m9 =>
        LdV m9 b3 0 fun v =>
        UnI v .u64 fun x32_0 =>
        LdV m9 b3 1 fun v =>
        UnI v .u64 fun x32_1 =>
        LdV m9 b3 2 fun v =>
        UnI v .u64 fun x32_2 =>
        LdV m9 b3 3 fun v =>
        UnI v .u64 fun x32_3 =>
        St1 m9 b2 0 (.int .i64 1) fun m10 =>
        St1 m10 b2 1 (.int .u64 x32_0) fun m11 =>
        St1 m11 b2 2 (.int .u64 x32_1) fun m12 =>
        St1 m12 b2 3 (.int .u64 x32_2) fun m13 =>
        St1 m13 b2 4 (.int .u64 x32_3) fun m14 =>
        St1 m14 b2 5 (.slice none 0 0) fun m15 =>
        LdV m15 b2 0 fun v =>
        UnI v .i64 fun res0_0 =>
        LdV m15 b2 1 fun v =>
        UnI v .u64 fun res0_1 =>
        LdV m15 b2 2 fun v =>
        UnI v .u64 fun res0_2 =>
        LdV m15 b2 3 fun v =>
        UnI v .u64 fun res0_3 =>
        LdV m15 b2 4 fun v =>
        UnI v .u64 fun res0_4 =>
        LdV m15 b2 5 fun v =>
        UnS v fun res0_5a res0_5l res0_5c =>
        R (.returned (.agg #[.int .i64 res0_0, .int .u64 res0_1, .int .u64 res0_2, .int .u64 res0_3, .int .u64 res0_4, .slice res0_5a res0_5l res0_5c])) m15) (R (.panicked (nilPanic P)) m8)) (R (.panicked (nilPanic P)) m8))))) (panicR R))) (R (.panicked (nilPanic P)) m2)) (
    NilC a0 (fun x35b x35o =>
     LdV m2 x35b (x35o + 1) fun v =>
     UnI v .i64 fun x37 =>
     NilC a0 (fun x39b x39o =>
      St1 m2 x39b (x39o + 1) (.int .i64 (IntKind.i64.wrap (x37 + 1))) fun m3 =>
      NilC a0 (fun x42b x42o =>
       LdV m3 x42b (x42o + 1) fun v =>
       UnI v .i64 fun x44 =>
       Br (decide (x44 > 13)) (
        R (.panicked [{ v := .iface T_regex_refusal (.agg #[.int .i64 6]), recovered := false }]) m3) (
        NilC a0 (fun x50b x50o =>
        LdV m3 x50b x50o fun v =>
        UnStr v fun x52 =>
        SlB x52 1 (x52.size : Int) fun x53 =>
        NilC a0 (fun x54b x54o =>
        St1 m3 x54b x54o (.string x53) fun m4 =>
        HC P regex_reader_alt.id #[.pointer a0] m4 (Cont (fun v m5 =>
        UnAgg v fun l =>
        UnCons l fun v l =>
        UnI v .i64 fun x57_0 =>
        UnCons l fun v l =>
        UnI v .u64 fun x57_1 =>
        UnCons l fun v l =>
        UnI v .u64 fun x57_2 =>
        UnCons l fun v l =>
        UnI v .u64 fun x57_3 =>
        UnCons l fun v l =>
        UnI v .u64 fun x57_4 =>
        UnCons l fun v l =>
        UnS v fun x57_5a x57_5l x57_5c =>
        UnNil l (
        NewC m5 #[.int .i64 0, .int .u64 0, .int .u64 0, .int .u64 0, .int .u64 0, .slice none 0 0] T_api_Rx fun b6 m6 =>
        St1 m6 b6 0 (.int .i64 x57_0) fun m7 =>
        St1 m7 b6 1 (.int .u64 x57_1) fun m8 =>
        St1 m8 b6 2 (.int .u64 x57_2) fun m9 =>
        St1 m9 b6 3 (.int .u64 x57_3) fun m10 =>
        St1 m10 b6 4 (.int .u64 x57_4) fun m11 =>
        St1 m11 b6 5 (.slice x57_5a x57_5l x57_5c) fun m12 =>
        HC P regex_reader_sees.id #[.pointer a0, .int .u8 41] m12 (Cont (fun v m13 =>
        UnB v fun x59 =>
        Br (!x59) (
        R (.panicked [{ v := .iface T_regex_refusal (.agg #[.int .i64 2]), recovered := false }]) m13) (
        NilC a0 (fun x65b x65o =>
        LdV m13 x65b x65o fun v =>
        UnStr v fun x67 =>
        SlB x67 1 (x67.size : Int) fun x68 =>
        NilC a0 (fun x69b x69o =>
        St1 m13 x69b x69o (.string x68) fun m14 =>
        NilC a0 (fun x72b x72o =>
        LdV m14 x72b (x72o + 1) fun v =>
        UnI v .i64 fun x74 =>
        NilC a0 (fun x76b x76o =>
        St1 m14 x76b (x76o + 1) (.int .i64 (IntKind.i64.wrap (x74 - 1))) fun m15 =>
        LdV m15 b6 0 fun v =>
        UnI v .i64 fun x78_0 =>
        LdV m15 b6 1 fun v =>
        UnI v .u64 fun x78_1 =>
        LdV m15 b6 2 fun v =>
        UnI v .u64 fun x78_2 =>
        LdV m15 b6 3 fun v =>
        UnI v .u64 fun x78_3 =>
        LdV m15 b6 4 fun v =>
        UnI v .u64 fun x78_4 =>
        LdV m15 b6 5 fun v =>
        UnS v fun x78_5a x78_5l x78_5c =>
        St1 m15 b2 0 (.int .i64 x78_0) fun m16 =>
        St1 m16 b2 1 (.int .u64 x78_1) fun m17 =>
        St1 m17 b2 2 (.int .u64 x78_2) fun m18 =>
        St1 m18 b2 3 (.int .u64 x78_3) fun m19 =>
        St1 m19 b2 4 (.int .u64 x78_4) fun m20 =>
        St1 m20 b2 5 (.slice x78_5a x78_5l x78_5c) fun m21 =>
        LdV m21 b2 0 fun v =>
        UnI v .i64 fun res0_0 =>
        LdV m21 b2 1 fun v =>
        UnI v .u64 fun res0_1 =>
        LdV m21 b2 2 fun v =>
        UnI v .u64 fun res0_2 =>
        LdV m21 b2 3 fun v =>
        UnI v .u64 fun res0_3 =>
        LdV m21 b2 4 fun v =>
        UnI v .u64 fun res0_4 =>
        LdV m21 b2 5 fun v =>
        UnS v fun res0_5a res0_5l res0_5c =>
        R (.returned (.agg #[.int .i64 res0_0, .int .u64 res0_1, .int .u64 res0_2, .int .u64 res0_3, .int .u64 res0_4, .slice res0_5a res0_5l res0_5c])) m21) (R (.panicked (nilPanic P)) m14)) (R (.panicked (nilPanic P)) m14)) (R (.panicked (nilPanic P)) m13)) (R (.panicked (nilPanic P)) m13))) (panicR R)))) (panicR R))) (R (.panicked (nilPanic P)) m3)) (R (.panicked (nilPanic P)) m3))) (R (.panicked (nilPanic P)) m3)) (R (.panicked (nilPanic P)) m2)) (R (.panicked (nilPanic P)) m2))) (panicR R))
noncomputable def e0A (R : Ending → Mem → Prop) : ACode := (.code (body))
theorem e0_eq (a0 : Option Addr) (R : Ending → Mem → Prop) (m : Mem) : e0 a0 R m = acpt P od (panicR R) (e0A R) (bodyQ P fn R) (argE (#[.pointer a0] : Array Value).toList) m := by kernel_rfl
theorem ok (a0 : Option Addr) (R : Ending → Mem → Prop) (m : Mem) (h : e0 a0 R m) : HC P id #[.pointer a0] m R := by
  refine HC_of (fn := fn) (c := body) (od := od) (tb := tb) Go.Proofs.Tryd.func78 (by kernel_rfl) (by kernel_rfl) follows (by kernel_rfl) (of_decide_eq_true (by kernel_rfl)) ?_
  have he : (e0A R).erase = body := by kernel_rfl
  rw [← he]
  refine acpt_sound (P := P) (e0A R) _ _ _ True.intro ?_
  exact Eq.mp (e0_eq a0 R m) h
end regex_reader_atom
/-! ### (*eyot/eyotref8.reader).atom -/
namespace eyotref8_reader_atom
noncomputable def fn : Func := Go.Proofs.Tryd.f79
noncomputable def body : Code := fn.body.getD .skip
def od : Nat → Ord := fun | 13 => ordL [(0, 3), (1, 3), (2, 3), (3, 1), (4, 3), (5, 3), (6, 3), (7, 1), (8, 3), (9, 3), (10, 3), (11, 1), (12, 3), (13, 3), (14, 3)] (.alt 15 2 (ordL [(16, 3), (17, 3), (18, 3), (19, 3), (20, 2), (21, 2), (22, 3), (23, 3)] .done) 20 0 (ordL [(15, 2), (16, 3), (17, 3), (18, 3), (19, 3), (21, 2), (22, 3), (23, 3)] .done)) | _ => .done
def tb : Nat → Tab := fun | 13 => (2129920, [0, 1, 3, 7, 0, 16, 48, 112, 0, 256, 768, 1792, 3840, 8176, 16383, 32767, 65535, 131071, 131071, 131071, 0, 1310719, 3670015, 8388607], [(0, 1, 55), (1, 18014398509481984, 56), (2, 36028797018963968, 57), (4, 72057594037927936, 58), (0, 1, 59), (16, 288230376151711744, 60), (32, 576460752303423488, 61), (64, 1152921504606846976, 62), (0, 1, 63), (256, 4611686018427387904, 64), (512, 9223372036854775808, 65), (1024, 18446744073709551616, 66), (2048, 36893488147419103232, 67), (4224, 76092819304051900416, 68), (8200, 147718067777752268800, 69), (16384, 295147905179352825856, 70), (32768, 590295810358705651712, 54), (65536, 9007199254740992, 71), (65536, 9007199254740992, 72), (65536, 9007199254740992, 73), (0, 0, 5), (1310719, 1180591620717411303440, 0), (3670015, 2361183241434822606848, 6), (8388607, 4722366482869645213696, 7)]) | _ => (0, [], [])
def k1E (K : Option Addr → Nat → Nat → Nat → Nat → Mem → Prop) : Env → Mem → Prop := fun ρ m => UnP (ρ 0) fun x0 => UnPA (ρ 2) fun x2b x2o => UnPA (ρ 3) fun x3b x3o => K x0 x2b x2o x3b x3o m
def k1  (x0 : Option Addr) (x2b : Nat) (x2o : Nat) (x3b : Nat) (x3o : Nat) (R : Ending → Mem → Prop) (m : Mem) : Prop :=
 NilC x0 (fun x39b x39o =>
  LdV m x39b (x39o + 1) fun v =>
  UnI v .i64 fun x41 =>
  NilC x0 (fun x43b x43o =>
   St1 m x43b (x43o + 1) (.int .i64 (IntKind.i64.wrap (x41 + 1))) fun m1 =>
   NilC x0 (fun x46b x46o =>
    LdV m1 x46b (x46o + 2) fun v =>
    UnI v .i64 fun x48 =>
    NilC x0 (fun x50b x50o =>
     St1 m1 x50b (x50o + 2) (.int .i64 (IntKind.i64.wrap (x48 - 1))) fun m2 =>
     LdV m2 x3b x3o fun v =>
     UnI v .i64 fun x52_0 =>
     LdV m2 x3b (x3o + 1) fun v =>
     UnI v .u64 fun x52_1 =>
     LdV m2 x3b (x3o + 2) fun v =>
     UnI v .u64 fun x52_2 =>
     LdV m2 x3b (x3o + 3) fun v =>
     UnI v .u64 fun x52_3 =>
     LdV m2 x3b (x3o + 4) fun v =>
     UnI v .u64 fun x52_4 =>
     LdV m2 x3b (x3o + 5) fun v =>
     UnS v fun x52_5a x52_5l x52_5c =>
     St1 m2 x2b x2o (.int .i64 x52_0) fun m3 =>
     St1 m3 x2b (x2o + 1) (.int .u64 x52_1) fun m4 =>
     St1 m4 x2b (x2o + 2) (.int .u64 x52_2) fun m5 =>
     St1 m5 x2b (x2o + 3) (.int .u64 x52_3) fun m6 =>
     St1 m6 x2b (x2o + 4) (.int .u64 x52_4) fun m7 =>
     St1 m7 x2b (x2o + 5) (.slice x52_5a x52_5l x52_5c) fun m8 =>
     LdV m8 x2b x2o fun v =>
     UnI v .i64 fun res0_0 =>
     LdV m8 x2b (x2o + 1) fun v =>
     UnI v .u64 fun res0_1 =>
     LdV m8 x2b (x2o + 2) fun v =>
     UnI v .u64 fun res0_2 =>
     LdV m8 x2b (x2o + 3) fun v =>
     UnI v .u64 fun res0_3 =>
     LdV m8 x2b (x2o + 4) fun v =>
     UnI v .u64 fun res0_4 =>
     LdV m8 x2b (x2o + 5) fun v =>
     UnS v fun res0_5a res0_5l res0_5c =>
     R (.returned (.agg #[.int .i64 res0_0, .int .u64 res0_1, .int .u64 res0_2, .int .u64 res0_3, .int .u64 res0_4, .slice res0_5a res0_5l res0_5c])) m8) (R (.panicked (nilPanic P)) m1)) (R (.panicked (nilPanic P)) m1)) (R (.panicked (nilPanic P)) m)) (R (.panicked (nilPanic P)) m)
noncomputable def k1A  (R : Ending → Mem → Prop) : ACode := (.code (sR (sR (sR (sR (sR (cT (sR (sL (sR (body)))))))))))
def k3E (K : Option Addr → Nat → Nat → Nat → Nat → Int → Mem → Prop) : Env → Mem → Prop := fun ρ m => UnP (ρ 0) fun x0 => UnPA (ρ 2) fun x2b x2o => UnPA (ρ 4) fun x4b x4o => UnI (ρ 5) .i64 fun x5 => K x0 x2b x2o x4b x4o x5 m
def k3  (x0 : Option Addr) (x2b : Nat) (x2o : Nat) (x4b : Nat) (x4o : Nat) (x5 : Int) (R : Ending → Mem → Prop) (m : Mem) : Prop :=
 NilC x0 (fun x80b x80o =>
  LdV m x80b (x80o + 1) fun v =>
  UnI v .i64 fun x82 =>
  NilC x0 (fun x85b x85o =>
   St1 m x85b (x85o + 1) (.int .i64 (IntKind.i64.wrap (x82 + x5))) fun m1 =>
   LdV m1 x4b x4o fun v =>
   UnI v .u64 fun x87_0 =>
   LdV m1 x4b (x4o + 1) fun v =>
   UnI v .u64 fun x87_1 =>
   LdV m1 x4b (x4o + 2) fun v =>
   UnI v .u64 fun x87_2 =>
   LdV m1 x4b (x4o + 3) fun v =>
   UnI v .u64 fun x87_3 =>
   St1 m1 x2b x2o (.int .i64 1) fun m2 =>
   St1 m2 x2b (x2o + 1) (.int .u64 x87_0) fun m3 =>
   St1 m3 x2b (x2o + 2) (.int .u64 x87_1) fun m4 =>
   St1 m4 x2b (x2o + 3) (.int .u64 x87_2) fun m5 =>
   St1 m5 x2b (x2o + 4) (.int .u64 x87_3) fun m6 =>
   St1 m6 x2b (x2o + 5) (.slice none 0 0) fun m7 =>
   LdV m7 x2b x2o fun v =>
   UnI v .i64 fun res0_0 =>
   LdV m7 x2b (x2o + 1) fun v =>
   UnI v .u64 fun res0_1 =>
   LdV m7 x2b (x2o + 2) fun v =>
   UnI v .u64 fun res0_2 =>
   LdV m7 x2b (x2o + 3) fun v =>
   UnI v .u64 fun res0_3 =>
   LdV m7 x2b (x2o + 4) fun v =>
   UnI v .u64 fun res0_4 =>
   LdV m7 x2b (x2o + 5) fun v =>
   UnS v fun res0_5a res0_5l res0_5c =>
   R (.returned (.agg #[.int .i64 res0_0, .int .u64 res0_1, .int .u64 res0_2, .int .u64 res0_3, .int .u64 res0_4, .slice res0_5a res0_5l res0_5c])) m7) (R (.panicked (nilPanic P)) m)) (R (.panicked (nilPanic P)) m)
noncomputable def k3A  (R : Ending → Mem → Prop) : ACode := (.code (sR (sR (sR (sR (body))))))
def k2E (K : Option Addr → Nat → Nat → Nat → Nat → Int → Int → Mem → Prop) : Env → Mem → Prop := fun ρ m => UnP (ρ 0) fun x0 => UnPA (ρ 2) fun x2b x2o => UnPA (ρ 4) fun x4b x4o => UnI (ρ 5) .i64 fun x5 => UnI (ρ 6) .i64 fun x6 => K x0 x2b x2o x4b x4o x5 x6 m
def k2  (x0 : Option Addr) (x2b : Nat) (x2o : Nat) (x4b : Nat) (x4o : Nat) (x5 : Int) (x6 : Int) (R : Ending → Mem → Prop) (m : Mem) : Prop :=
 Br (x6 != 0) (
  HC P eyotref8_reader_fail.id #[.pointer x0, .int .i64 x6] m (Cont (fun v m1 =>
    UnTup v fun us0 =>
    UnNil us0 (
     k3  x0 x2b x2o x4b x4o x5 R m1)) (panicR R))) (
  k3  x0 x2b x2o x4b x4o x5 R m)
noncomputable def k2A  (R : Ending → Mem → Prop) : ACode := (.seq (.code (sL (sR (sR (sR (body)))))) (.cut (k3E fun x0 x2b x2o x4b x4o x5 m => k3  x0 x2b x2o x4b x4o x5 R m) (sR (sR (sR (sR (body)))))))
def e0 (a0 : Option Addr) (R : Ending → Mem → Prop) (m : Mem) : Prop :=
 NewC m #[.int .i64 0, .int .u64 0, .int .u64 0, .int .u64 0, .int .u64 0, .slice none 0 0] T_api_Rx fun b2 m1 =>
 HC P eyotref8_reader_is.id #[.pointer a0, .int .u8 40] m1 (Cont (fun v m2 =>
   UnB v fun x8 =>
   Br x8 (
    NilC a0 (fun x10b x10o =>
     LdV m2 x10b (x10o + 2) fun v =>
     UnI v .i64 fun x12 =>
     Br (decide (x12 > 12)) (
      HC P eyotref8_reader_fail.id #[.pointer a0, .int .i64 6] m2 (Cont (fun v m3 =>
        UnTup v fun us0 =>
        UnNil us0 (
        St1 m3 b2 0 (.int .i64 0) fun m4 =>
        St1 m4 b2 1 (.int .u64 0) fun m5 =>
        St1 m5 b2 2 (.int .u64 0) fun m6 =>
        St1 m6 b2 3 (.int .u64 0) fun m7 =>
        St1 m7 b2 4 (.int .u64 0) fun m8 =>
        St1 m8 b2 5 (.slice none 0 0) fun m9 =>
        LdV m9 b2 0 fun v =>
        UnI v .i64 fun res0_0 =>
        LdV m9 b2 1 fun v =>
        UnI v .u64 fun res0_1 =>
        LdV m9 b2 2 fun v =>
        UnI v .u64 fun res0_2 =>
        LdV m9 b2 3 fun v =>
        UnI v .u64 fun res0_3 =>
        LdV m9 b2 4 fun v =>
        UnI v .u64 fun res0_4 =>
        LdV m9 b2 5 fun v =>
        UnS v fun res0_5a res0_5l res0_5c =>
        R (.returned (.agg #[.int .i64 res0_0, .int .u64 res0_1, .int .u64 res0_2, .int .u64 res0_3, .int .u64 res0_4, .slice res0_5a res0_5l res0_5c])) m9)) (panicR R))) (
      NilC a0 (fun x18b x18o =>
       LdV m2 x18b (x18o + 2) fun v =>
       UnI v .i64 fun x20 =>
       NilC a0 (fun x22b x22o =>
        St1 m2 x22b (x22o + 2) (.int .i64 (IntKind.i64.wrap (x20 + 1))) fun m3 =>
        NilC a0 (fun x25b x25o =>
        LdV m3 x25b (x25o + 1) fun v =>
        UnI v .i64 fun x27 =>
        NilC a0 (fun x29b x29o =>
        St1 m3 x29b (x29o + 1) (.int .i64 (IntKind.i64.wrap (x27 + 1))) fun m4 =>
        HC P eyotref8_reader_alt.id #[.pointer a0] m4 (Cont (fun v m5 =>
        UnAgg v fun l =>
        UnCons l fun v l =>
        UnI v .i64 fun x32_0 =>
        UnCons l fun v l =>
        UnI v .u64 fun x32_1 =>
        UnCons l fun v l =>
        UnI v .u64 fun x32_2 =>
        UnCons l fun v l =>
        UnI v .u64 fun x32_3 =>
        UnCons l fun v l =>
        UnI v .u64 fun x32_4 =>
        UnCons l fun v l =>
        UnS v fun x32_5a x32_5l x32_5c =>
        UnNil l (
        NewC m5 #[.int .i64 0, .int .u64 0, .int .u64 0, .int .u64 0, .int .u64 0, .slice none 0 0] T_api_Rx fun b3 m6 =>
        St1 m6 b3 0 (.int .i64 x32_0) fun m7 =>
        St1 m7 b3 1 (.int .u64 x32_1) fun m8 =>
        St1 m8 b3 2 (.int .u64 x32_2) fun m9 =>
        St1 m9 b3 3 (.int .u64 x32_3) fun m10 =>
        St1 m10 b3 4 (.int .u64 x32_4) fun m11 =>
        St1 m11 b3 5 (.slice x32_5a x32_5l x32_5c) fun m12 =>
        HC P eyotref8_reader_is.id #[.pointer a0, .int .u8 41] m12 (Cont (fun v m13 =>
        UnB v fun x34 =>
        Br (!x34) (
        HC P eyotref8_reader_fail.id #[.pointer a0, .int .i64 2] m13 (Cont (fun v m14 =>
        UnTup v fun us0 =>
        UnNil us0 (
        k1  a0 b2 0 b3 0 R m14)) (panicR R))) (
        k1  a0 b2 0 b3 0 R m13)) (panicR R)))) (panicR R))) (R (.panicked (nilPanic P)) m3)) (R (.panicked (nilPanic P)) m3)) (R (.panicked (nilPanic P)) m2)) (R (.panicked (nilPanic P)) m2))) (R (.panicked (nilPanic P)) m2)) (
    Sub m2 fun r3 =>
    NilC a0 (fun x55b x55o =>
     LdV r3 x55b x55o fun v =>
     UnStr v fun x57 =>
     NilC a0 (fun x59b x59o =>
      LdV r3 x59b (x59o + 1) fun v =>
      UnI v .i64 fun x61 =>
      NilC a0 (fun x63b x63o =>
       LdV r3 x63b x63o fun v =>
       UnStr v fun x65 =>
       SlB x57 (if (x65.size : Int) < x61 then (x65.size : Int) else x61) (x57.size : Int) fun x68 =>
       (
        HC P eyotref8_Class.id #[.string x68] m2 (Cont (fun v m4 =>
        UnTup v fun us0 =>
        UnCons us0 fun w us1 =>
        UnAgg w fun l =>
        UnCons l fun v l =>
        UnI v .u64 fun x69_0_0 =>
        UnCons l fun v l =>
        UnI v .u64 fun x69_0_1 =>
        UnCons l fun v l =>
        UnI v .u64 fun x69_0_2 =>
        UnCons l fun v l =>
        UnI v .u64 fun x69_0_3 =>
        UnNil l (
        UnCons us1 fun w us2 =>
        UnI w .i64 fun x69_1 =>
        UnCons us2 fun w us3 =>
        UnI w .i64 fun x69_2 =>
        UnNil us3 (
        NewC m4 #[.int .u64 0, .int .u64 0, .int .u64 0, .int .u64 0] T_api_Set fun b4 m5 =>
        St1 m5 b4 0 (.int .u64 x69_0_0) fun m6 =>
        St1 m6 b4 1 (.int .u64 x69_0_1) fun m7 =>
        St1 m7 b4 2 (.int .u64 x69_0_2) fun m8 =>
        St1 m8 b4 3 (.int .u64 x69_0_3) fun m9 =>
        k2  a0 b2 0 b4 0 x69_1 x69_2 R m9))) (panicR R))) ∧ (
        NewC m2 #[.int .u64 0, .int .u64 0, .int .u64 0, .int .u64 0] T_api_Set fun b4 m4 =>
        Lk r3 m4 fun r5 =>
        HC P eyotref8_Class.id #[.string x68] m4 (Cont (fun v m6 =>
        UnTup v fun us0 =>
        UnCons us0 fun w us1 =>
        UnAgg w fun l =>
        UnCons l fun v l =>
        UnI v .u64 fun x69_0_0 =>
        UnCons l fun v l =>
        UnI v .u64 fun x69_0_1 =>
        UnCons l fun v l =>
        UnI v .u64 fun x69_0_2 =>
        UnCons l fun v l =>
        UnI v .u64 fun x69_0_3 =>
        UnNil l (
        UnCons us1 fun w us2 =>
        UnI w .i64 fun x69_1 =>
        UnCons us2 fun w us3 =>
        UnI w .i64 fun x69_2 =>
        UnNil us3 (
        St1 m6 b4 0 (.int .u64 x69_0_0) fun m7 =>
        St1 m7 b4 1 (.int .u64 x69_0_1) fun m8 =>
        St1 m8 b4 2 (.int .u64 x69_0_2) fun m9 =>
        St1 m9 b4 3 (.int .u64 x69_0_3) fun m10 =>
        k2  a0 b2 0 b4 0 x69_1 x69_2 R m10))) (panicR R)))) (False)) (False)) (False))) (panicR R))
noncomputable def e0A (R : Ending → Mem → Prop) : ACode := (.seq (.code (sL (body))) (.seq (.seq (.code (sL (sL (sR (body))))) (.cond (.tmp 8) (.seq (.code (sL (cT (sR (sL (sR (body))))))) (.seq (.code (sL (sR (cT (sR (sL (sR (body)))))))) (.seq (.code (sL (sR (sR (cT (sR (sL (sR (body))))))))) (.seq (.code (sL (sR (sR (sR (cT (sR (sL (sR (body)))))))))) (.seq (.code (sL (sR (sR (sR (sR (cT (sR (sL (sR (body))))))))))) (.cut (k1E fun x0 x2b x2o x3b x3o m => k1  x0 x2b x2o x3b x3o R m) (sR (sR (sR (sR (sR (cT (sR (sL (sR (body)))))))))))))))) (.code (cE (sR (sL (sR (body)))))))) (.seq (.code (sL (sR (sR (body))))) (.cut (k2E fun x0 x2b x2o x4b x4o x5 x6 m => k2  x0 x2b x2o x4b x4o x5 x6 R m) (sR (sR (sR (body))))))))
abbrev k2Q  (R : Ending → Mem → Prop) : Exit → Env → Mem → Prop := (bodyQ P fn R)
abbrev k3Q  (R : Ending → Mem → Prop) : Exit → Env → Mem → Prop := (k2Q  R)
abbrev k1Q  (R : Ending → Mem → Prop) : Exit → Env → Mem → Prop := (thenQ (acpt P od (panicR R) (.seq (.code (sL (sR (sR (body))))) (.cut (k2E fun x0 x2b x2o x4b x4o x5 x6 m => k2  x0 x2b x2o x4b x4o x5 x6 R m) (sR (sR (sR (body)))))) (bodyQ P fn R)) (bodyQ P fn R))
theorem k1_eq  (R : Ending → Mem → Prop) (x0 : Option Addr) (x2b : Nat) (x2o : Nat) (x3b : Nat) (x3o : Nat) (ρ : Env) (m : Mem) : k1  x0 x2b x2o x3b x3o R m = acpt P od (panicR R) (k1A  R) (k1Q  R) (upd (upd (upd ρ 3 (.pointer (some ⟨x3b, x3o, none⟩))) 2 (.pointer (some ⟨x2b, x2o, none⟩))) 0 (.pointer x0)) m := by kernel_rfl
theorem k1_er  (R : Ending → Mem → Prop) : (k1A  R).erase = sR (sR (sR (sR (sR (cT (sR (sL (sR (body))))))))) := by kernel_rfl
theorem k1_ok  (R : Ending → Mem → Prop) (ρ : Env) (m : Mem) (h : (k1E fun x0 x2b x2o x3b x3o m => k1  x0 x2b x2o x3b x3o R m) ρ m) : cpt P od (panicR R) (sR (sR (sR (sR (sR (cT (sR (sL (sR (body)))))))))) (k1Q  R) ρ m := by
  unfold k1E at h
  obtain ⟨x0, e0, h⟩ := h.ex
  obtain ⟨x2b, x2o, e2, h⟩ := h.ex
  obtain ⟨x3b, x3o, e3, h⟩ := h.ex
  rw [← upd_self e0, ← upd_self e2, ← upd_self e3]
  rw [← k1_er  R]
  refine acpt_sound (P := P) (k1A  R) _ _ _ True.intro ?_
  exact Eq.mp (k1_eq  R x0 x2b x2o x3b x3o ρ m) h
theorem k3_eq  (R : Ending → Mem → Prop) (x0 : Option Addr) (x2b : Nat) (x2o : Nat) (x4b : Nat) (x4o : Nat) (x5 : Int) (ρ : Env) (m : Mem) : k3  x0 x2b x2o x4b x4o x5 R m = acpt P od (panicR R) (k3A  R) (k3Q  R) (upd (upd (upd (upd ρ 5 (.int .i64 x5)) 4 (.pointer (some ⟨x4b, x4o, none⟩))) 2 (.pointer (some ⟨x2b, x2o, none⟩))) 0 (.pointer x0)) m := by kernel_rfl
theorem k3_er  (R : Ending → Mem → Prop) : (k3A  R).erase = sR (sR (sR (sR (body)))) := by kernel_rfl
theorem k3_ok  (R : Ending → Mem → Prop) (ρ : Env) (m : Mem) (h : (k3E fun x0 x2b x2o x4b x4o x5 m => k3  x0 x2b x2o x4b x4o x5 R m) ρ m) : cpt P od (panicR R) (sR (sR (sR (sR (body))))) (k3Q  R) ρ m := by
  unfold k3E at h
  obtain ⟨x0, e0, h⟩ := h.ex
  obtain ⟨x2b, x2o, e2, h⟩ := h.ex
  obtain ⟨x4b, x4o, e4, h⟩ := h.ex
  obtain ⟨x5, e5, h⟩ := h.ex
  rw [← upd_self e0, ← upd_self e2, ← upd_self e4, ← upd_self e5]
  rw [← k3_er  R]
  refine acpt_sound (P := P) (k3A  R) _ _ _ True.intro ?_
  exact Eq.mp (k3_eq  R x0 x2b x2o x4b x4o x5 ρ m) h
theorem k2_eq  (R : Ending → Mem → Prop) (x0 : Option Addr) (x2b : Nat) (x2o : Nat) (x4b : Nat) (x4o : Nat) (x5 : Int) (x6 : Int) (ρ : Env) (m : Mem) : k2  x0 x2b x2o x4b x4o x5 x6 R m = acpt P od (panicR R) (k2A  R) (k2Q  R) (upd (upd (upd (upd (upd ρ 6 (.int .i64 x6)) 5 (.int .i64 x5)) 4 (.pointer (some ⟨x4b, x4o, none⟩))) 2 (.pointer (some ⟨x2b, x2o, none⟩))) 0 (.pointer x0)) m := by kernel_rfl
theorem k2_er  (R : Ending → Mem → Prop) : (k2A  R).erase = sR (sR (sR (body))) := by kernel_rfl
theorem k2_ok  (R : Ending → Mem → Prop) (ρ : Env) (m : Mem) (h : (k2E fun x0 x2b x2o x4b x4o x5 x6 m => k2  x0 x2b x2o x4b x4o x5 x6 R m) ρ m) : cpt P od (panicR R) (sR (sR (sR (body)))) (k2Q  R) ρ m := by
  unfold k2E at h
  obtain ⟨x0, e0, h⟩ := h.ex
  obtain ⟨x2b, x2o, e2, h⟩ := h.ex
  obtain ⟨x4b, x4o, e4, h⟩ := h.ex
  obtain ⟨x5, e5, h⟩ := h.ex
  obtain ⟨x6, e6, h⟩ := h.ex
  rw [← upd_self e0, ← upd_self e2, ← upd_self e4, ← upd_self e5, ← upd_self e6]
  rw [← k2_er  R]
  refine acpt_sound (P := P) (k2A  R) _ _ _ ⟨(fun ρ m h => k3_ok  R ρ m h), True.intro⟩ ?_
  exact Eq.mp (k2_eq  R x0 x2b x2o x4b x4o x5 x6 ρ m) h
theorem e0_eq (a0 : Option Addr) (R : Ending → Mem → Prop) (m : Mem) : e0 a0 R m = acpt P od (panicR R) (e0A R) (bodyQ P fn R) (argE (#[.pointer a0] : Array Value).toList) m := by kernel_rfl
theorem ok (a0 : Option Addr) (R : Ending → Mem → Prop) (m : Mem) (h : e0 a0 R m) : HC P id #[.pointer a0] m R := by
  refine HC_of (fn := fn) (c := body) (od := od) (tb := tb) Go.Proofs.Tryd.func79 (by kernel_rfl) (by kernel_rfl) follows (by kernel_rfl) (of_decide_eq_true (by kernel_rfl)) ?_
  have he : (e0A R).erase = body := by kernel_rfl
  rw [← he]
  refine acpt_sound (P := P) (e0A R) _ _ _ ⟨⟨⟨(fun ρ m h => k2_ok  R ρ m h), True.intro⟩, ⟨⟨⟨⟨⟨⟨⟨(fun ρ m h => k1_ok  R ρ m h), True.intro⟩, True.intro⟩, True.intro⟩, True.intro⟩, True.intro⟩, True.intro⟩, True.intro⟩⟩, True.intro⟩ ?_
  exact Eq.mp (e0_eq a0 R m) h
end eyotref8_reader_atom
/-! ### internal/stringslite.IndexByte -/
namespace internal_stringslite_IndexByte
noncomputable def fn : Func := Go.Proofs.Tryd.f80
noncomputable def body : Code := fn.body.getD .skip
def od : Nat → Ord := fun _ => .done
def tb : Nat → Tab := fun _ => (0, [], [])
def e0 (s_0 : ByteArray) (c_1 : Int) (R : Ending → Mem → Prop) (m : Mem) : Prop :=
 HC P internal_bytealg_IndexByteString.id #[.string s_0, .int .u8 c_1] m (Cont (fun v m1 =>
   UnI v .i64 fun x7 =>
   R (.returned (.int .i64 x7)) m1) (panicR R))
noncomputable def e0A (R : Ending → Mem → Prop) : ACode := (.code (body))
theorem e0_eq (s_0 : ByteArray) (c_1 : Int) (R : Ending → Mem → Prop) (m : Mem) : e0 s_0 c_1 R m = acpt P od (panicR R) (e0A R) (bodyQ P fn R) (argE (#[.string s_0, .int .u8 c_1] : Array Value).toList) m := by kernel_rfl
theorem ok (s_0 : ByteArray) (c_1 : Int) (R : Ending → Mem → Prop) (m : Mem) (h : e0 s_0 c_1 R m) : HC P id #[.string s_0, .int .u8 c_1] m R := by
  refine HC_of (fn := fn) (c := body) (od := od) (tb := tb) Go.Proofs.Tryd.func80 (by kernel_rfl) (by kernel_rfl) follows (by kernel_rfl) (of_decide_eq_true (by kernel_rfl)) ?_
  have he : (e0A R).erase = body := by kernel_rfl
  rw [← he]
  refine acpt_sound (P := P) (e0A R) _ _ _ True.intro ?_
  exact Eq.mp (e0_eq s_0 c_1 R m) h
end internal_stringslite_IndexByte
/-! ### eyot/class.Parse -/
namespace class_Parse
noncomputable def fn : Func := Go.Proofs.Tryd.f83
noncomputable def fnR : Func := { fn with results := #[] }
noncomputable def body : Code := fn.body.getD .skip
def od : Nat → Ord := fun | 7 => ordL [(0, 1), (1, 3), (2, 3), (3, 3), (4, 1), (5, 0), (6, 2), (7, 2)] .done | _ => .done
def tb : Nat → Tab := fun | 7 => (192, [0, 0, 2, 6, 14, 1, 63, 127], [(0, 4, 24), (0, 32, 25), (2, 16777216, 26), (4, 33554432, 27), (8, 67108864, 28), (1, 8388612, 0), (63, 134217736, 0), (127, 16, 0)]) | _ => (0, [], [])
def k1E (K : ByteArray → Nat → Nat → Nat → Nat → Nat → Nat → Mem → Prop) : Env → Mem → Prop := fun ρ m => UnStr (ρ 0) fun s_0 => UnPA (ρ 2) fun set_2b set_2o => UnPA (ρ 3) fun n_3b n_3o => UnPA (ρ 4) fun e_4b e_4o => K s_0 set_2b set_2o n_3b n_3o e_4b e_4o m
def k1  (s_0 : ByteArray) (set_2b : Nat) (set_2o : Nat) (n_3b : Nat) (n_3o : Nat) (e_4b : Nat) (e_4o : Nat) (R : Ending → Mem → Prop) (m : Mem) : Prop :=
 NewC m #[.string s_0, .int .i64 0] T_class_reader fun b11 m1 =>
 HC P class_reader_class.id #[.pointer (some ⟨b11, 0, none⟩)] m1 (Cont (fun v m2 =>
   UnAgg v fun l =>
   UnCons l fun v l =>
   UnI v .u64 fun x13_0 =>
   UnCons l fun v l =>
   UnI v .u64 fun x13_1 =>
   UnCons l fun v l =>
   UnI v .u64 fun x13_2 =>
   UnCons l fun v l =>
   UnI v .u64 fun x13_3 =>
   UnNil l (
    St1 m2 set_2b set_2o (.int .u64 x13_0) fun m3 =>
    St1 m3 set_2b (set_2o + 1) (.int .u64 x13_1) fun m4 =>
    St1 m4 set_2b (set_2o + 2) (.int .u64 x13_2) fun m5 =>
    St1 m5 set_2b (set_2o + 3) (.int .u64 x13_3) fun m6 =>
    LdV m6 set_2b set_2o fun v =>
    UnI v .u64 fun x15_0 =>
    LdV m6 set_2b (set_2o + 1) fun v =>
    UnI v .u64 fun x15_1 =>
    LdV m6 set_2b (set_2o + 2) fun v =>
    UnI v .u64 fun x15_2 =>
    LdV m6 set_2b (set_2o + 3) fun v =>
    UnI v .u64 fun x15_3 =>
    HC P class_Least.id #[.agg #[.int .u64 x15_0, .int .u64 x15_1, .int .u64 x15_2, .int .u64 x15_3]] m6 (Cont (fun v m7 =>
      UnTup v fun us0 =>
      UnCons us0 fun w us1 =>
      UnI w .u8 fun x16_0 =>
      UnCons us1 fun w us2 =>
      UnB w fun x16_1 =>
      UnNil us2 (
       Br (!x16_1) (
        R (.panicked [{ v := .iface T_class_refusal (.agg #[]), recovered := false }]) m7) (
        Sub m7 fun r8 =>
        LdV r8 set_2b set_2o fun v =>
        UnI v .u64 fun x23_0 =>
        LdV r8 set_2b (set_2o + 1) fun v =>
        UnI v .u64 fun x23_1 =>
        LdV r8 set_2b (set_2o + 2) fun v =>
        UnI v .u64 fun x23_2 =>
        LdV r8 set_2b (set_2o + 3) fun v =>
        UnI v .u64 fun x23_3 =>
        LdV r8 b11 1 fun v =>
        UnI v .i64 fun x27 =>
        St1 m7 set_2b set_2o (.int .u64 x23_0) fun m9 =>
        St1 m9 set_2b (set_2o + 1) (.int .u64 x23_1) fun m10 =>
        St1 m10 set_2b (set_2o + 2) (.int .u64 x23_2) fun m11 =>
        St1 m11 set_2b (set_2o + 3) (.int .u64 x23_3) fun m12 =>
        Lk r8 m12 fun r13 =>
        St1 m12 n_3b n_3o (.int .i64 x27) fun m14 =>
        St1 m14 e_4b e_4o (.int .i64 0) fun m15 =>
        R (.returned (.tuple #[])) m15))) (panicR R)))) (panicR R))
noncomputable def k1A  (R : Ending → Mem → Prop) : ACode := (.code (sR (sR (body))))
abbrev k1Q  (R : Ending → Mem → Prop) : Exit → Env → Mem → Prop := (bodyQ P fnR R)
theorem k1_eq  (R : Ending → Mem → Prop) (s_0 : ByteArray) (set_2b : Nat) (set_2o : Nat) (n_3b : Nat) (n_3o : Nat) (e_4b : Nat) (e_4o : Nat) (ρ : Env) (m : Mem) : k1  s_0 set_2b set_2o n_3b n_3o e_4b e_4o R m = acpt P od (panicR R) (k1A  R) (k1Q  R) (upd (upd (upd (upd ρ 4 (.pointer (some ⟨e_4b, e_4o, none⟩))) 3 (.pointer (some ⟨n_3b, n_3o, none⟩))) 2 (.pointer (some ⟨set_2b, set_2o, none⟩))) 0 (.string s_0)) m := by kernel_rfl
theorem k1_er  (R : Ending → Mem → Prop) : (k1A  R).erase = sR (sR (body)) := by kernel_rfl
theorem k1_ok  (R : Ending → Mem → Prop) (ρ : Env) (m : Mem) (h : (k1E fun s_0 set_2b set_2o n_3b n_3o e_4b e_4o m => k1  s_0 set_2b set_2o n_3b n_3o e_4b e_4o R m) ρ m) : cpt P od (panicR R) (sR (sR (body))) (k1Q  R) ρ m := by
  unfold k1E at h
  obtain ⟨s_0, e0, h⟩ := h.ex
  obtain ⟨set_2b, set_2o, e2, h⟩ := h.ex
  obtain ⟨n_3b, n_3o, e3, h⟩ := h.ex
  obtain ⟨e_4b, e_4o, e4, h⟩ := h.ex
  rw [← upd_self e0, ← upd_self e2, ← upd_self e3, ← upd_self e4]
  rw [← k1_er  R]
  refine acpt_sound (P := P) (k1A  R) _ _ _ True.intro ?_
  exact Eq.mp (k1_eq  R s_0 set_2b set_2o n_3b n_3o e_4b e_4o ρ m) h
/-- Reading the results. -/
def out (d2b : Nat) (d2o : Nat) (d3b : Nat) (d3o : Nat) (d4b : Nat) (d4o : Nat) (R : Ending → Mem → Prop) (m : Mem) : Prop :=
 LdV m d2b d2o fun v =>
 UnI v .u64 fun res0_0 =>
 LdV m d2b (d2o + 1) fun v =>
 UnI v .u64 fun res0_1 =>
 LdV m d2b (d2o + 2) fun v =>
 UnI v .u64 fun res0_2 =>
 LdV m d2b (d2o + 3) fun v =>
 UnI v .u64 fun res0_3 =>
 LdV m d3b d3o fun v =>
 UnI v .i64 fun res1 =>
 LdV m d4b d4o fun v =>
 UnI v .i64 fun res2 =>
 R (.returned (.tuple #[.agg #[.int .u64 res0_0, .int .u64 res0_1, .int .u64 res0_2, .int .u64 res0_3], .int .i64 res1, .int .i64 res2])) m
def p0 (s_0 : ByteArray) (R : Ending → Mem → Prop) (KK : ByteArray → Nat → Nat → Nat → Nat → Nat → Nat → Mem → Prop) (m : Mem) : Prop :=
 NewC m #[.int .u64 0, .int .u64 0, .int .u64 0, .int .u64 0] T_api_Set fun b_set_2 m1 =>
 NewC m1 #[.int .i64 0] T_int fun b_n_3 m2 =>
 NewC m2 #[.int .i64 0] T_api_Errno fun b_e_4 m3 =>
 KK s_0 b_set_2 0 b_n_3 0 b_e_4 0 m3
/-- The rest, its end told by the deferred call. -/
def rest0 (s_0 : ByteArray) (set_2b : Nat) (set_2o : Nat) (n_3b : Nat) (n_3o : Nat) (e_4b : Nat) (e_4o : Nat) (R : Ending → Mem → Prop) (m : Mem) : Prop := k1 s_0 set_2b set_2o n_3b n_3o e_4b e_4o (DefR P class_Parse_1.id #[.pointer (some ⟨set_2b, set_2o, none⟩), .pointer (some ⟨n_3b, n_3o, none⟩), .pointer (some ⟨e_4b, e_4o, none⟩)] (out set_2b set_2o n_3b n_3o e_4b e_4o R)) m
theorem p0_eq (s_0 : ByteArray) (R : Ending → Mem → Prop) (KK : ByteArray → Nat → Nat → Nat → Nat → Nat → Nat → Mem → Prop) (m : Mem) : p0 s_0 R KK m = cpt P od (panicR R) (sL (body)) (aheadQ P fn R (k1E KK)) (argE (#[.string s_0] : Array Value).toList) m := by kernel_rfl
theorem cok : codeOk P od tb 5 fn.ntmps (sR (sR (body))) = true := by kernel_rfl
theorem rest_eq (s_0 : ByteArray) (set_2b : Nat) (set_2o : Nat) (n_3b : Nat) (n_3o : Nat) (e_4b : Nat) (e_4o : Nat) (R : Ending → Mem → Prop) (ρ : Env) (m : Mem) : rest0 s_0 set_2b set_2o n_3b n_3o e_4b e_4o R m = (k1E fun us_0 uset_2b uset_2o un_3b un_3o ue_4b ue_4o m => k1 us_0 uset_2b uset_2o un_3b un_3o ue_4b ue_4o (DefR P class_Parse_1.id #[.pointer (some ⟨set_2b, set_2o, none⟩), .pointer (some ⟨n_3b, n_3o, none⟩), .pointer (some ⟨e_4b, e_4o, none⟩)] (out set_2b set_2o n_3b n_3o e_4b e_4o R)) m) (upd (upd (upd (upd (upd ρ 4 (.pointer (some ⟨e_4b, e_4o, none⟩))) 3 (.pointer (some ⟨n_3b, n_3o, none⟩))) 2 (.pointer (some ⟨set_2b, set_2o, none⟩))) 0 (.string s_0)) 8 (.func (.func 86) #[] #[.pointer (some ⟨set_2b, set_2o, none⟩), .pointer (some ⟨n_3b, n_3o, none⟩), .pointer (some ⟨e_4b, e_4o, none⟩)])) m := by kernel_rfl
theorem rest_ok (s_0 : ByteArray) (set_2b : Nat) (set_2o : Nat) (n_3b : Nat) (n_3o : Nat) (e_4b : Nat) (e_4o : Nat) (R : Ending → Mem → Prop) (ρ : Env) (m : Mem) (h : rest0 s_0 set_2b set_2o n_3b n_3o e_4b e_4o R m) : cpt P od (panicR (DefR P class_Parse_1.id #[.pointer (some ⟨set_2b, set_2o, none⟩), .pointer (some ⟨n_3b, n_3o, none⟩), .pointer (some ⟨e_4b, e_4o, none⟩)] (out set_2b set_2o n_3b n_3o e_4b e_4o R))) (sR (sR (body))) (bodyQ P fnR (DefR P class_Parse_1.id #[.pointer (some ⟨set_2b, set_2o, none⟩), .pointer (some ⟨n_3b, n_3o, none⟩), .pointer (some ⟨e_4b, e_4o, none⟩)] (out set_2b set_2o n_3b n_3o e_4b e_4o R))) (upd (upd (upd (upd (upd ρ 4 (.pointer (some ⟨e_4b, e_4o, none⟩))) 3 (.pointer (some ⟨n_3b, n_3o, none⟩))) 2 (.pointer (some ⟨set_2b, set_2o, none⟩))) 0 (.string s_0)) 8 (.func (.func 86) #[] #[.pointer (some ⟨set_2b, set_2o, none⟩), .pointer (some ⟨n_3b, n_3o, none⟩), .pointer (some ⟨e_4b, e_4o, none⟩)])) m := k1_ok (DefR P class_Parse_1.id #[.pointer (some ⟨set_2b, set_2o, none⟩), .pointer (some ⟨n_3b, n_3o, none⟩), .pointer (some ⟨e_4b, e_4o, none⟩)] (out set_2b set_2o n_3b n_3o e_4b e_4o R)) (upd (upd (upd (upd (upd ρ 4 (.pointer (some ⟨e_4b, e_4o, none⟩))) 3 (.pointer (some ⟨n_3b, n_3o, none⟩))) 2 (.pointer (some ⟨set_2b, set_2o, none⟩))) 0 (.string s_0)) 8 (.func (.func 86) #[] #[.pointer (some ⟨set_2b, set_2o, none⟩), .pointer (some ⟨n_3b, n_3o, none⟩), .pointer (some ⟨e_4b, e_4o, none⟩)])) m (Eq.mp (rest_eq s_0 set_2b set_2o n_3b n_3o e_4b e_4o R ρ m) h)
theorem rest_eq2 (s_0 : ByteArray) (set_2b : Nat) (set_2o : Nat) (n_3b : Nat) (n_3o : Nat) (e_4b : Nat) (e_4o : Nat) (R : Ending → Mem → Prop) (ρ : Env) (m : Mem) : cpt P od (panicR (DefR P class_Parse_1.id #[.pointer (some ⟨set_2b, set_2o, none⟩), .pointer (some ⟨n_3b, n_3o, none⟩), .pointer (some ⟨e_4b, e_4o, none⟩)] (out set_2b set_2o n_3b n_3o e_4b e_4o R))) (sR (sR (body))) (bodyQ P fnR (DefR P class_Parse_1.id #[.pointer (some ⟨set_2b, set_2o, none⟩), .pointer (some ⟨n_3b, n_3o, none⟩), .pointer (some ⟨e_4b, e_4o, none⟩)] (out set_2b set_2o n_3b n_3o e_4b e_4o R))) (upd (upd (upd (upd (upd ρ 4 (.pointer (some ⟨e_4b, e_4o, none⟩))) 3 (.pointer (some ⟨n_3b, n_3o, none⟩))) 2 (.pointer (some ⟨set_2b, set_2o, none⟩))) 0 (.string s_0)) 8 (.func (.func 86) #[] #[.pointer (some ⟨set_2b, set_2o, none⟩), .pointer (some ⟨n_3b, n_3o, none⟩), .pointer (some ⟨e_4b, e_4o, none⟩)])) m = restP P od fn (sR (sR (body))) 86 ((#[.tmp 2, .tmp 3, .tmp 4] : Array Operand).map (evr (upd (upd (upd (upd ρ 4 (.pointer (some ⟨e_4b, e_4o, none⟩))) 3 (.pointer (some ⟨n_3b, n_3o, none⟩))) 2 (.pointer (some ⟨set_2b, set_2o, none⟩))) 0 (.string s_0)))) R (upd (upd (upd (upd (upd ρ 4 (.pointer (some ⟨e_4b, e_4o, none⟩))) 3 (.pointer (some ⟨n_3b, n_3o, none⟩))) 2 (.pointer (some ⟨set_2b, set_2o, none⟩))) 0 (.string s_0)) 8 (.func (.func 86) #[] ((#[.tmp 2, .tmp 3, .tmp 4] : Array Operand).map (evr (upd (upd (upd (upd ρ 4 (.pointer (some ⟨e_4b, e_4o, none⟩))) 3 (.pointer (some ⟨n_3b, n_3o, none⟩))) 2 (.pointer (some ⟨set_2b, set_2o, none⟩))) 0 (.string s_0)))))) m := by kernel_rfl
theorem ok (s_0 : ByteArray) (R : Ending → Mem → Prop) (m : Mem) (h : p0 s_0 R (fun s_0 set_2b set_2o n_3b n_3o e_4b e_4o m => rest0 s_0 set_2b set_2o n_3b n_3o e_4b e_4o R m) m) : HC P id #[.string s_0] m R := by
  have h := Eq.mp (p0_eq s_0 R (fun s_0 set_2b set_2o n_3b n_3o e_4b e_4o m => rest0 s_0 set_2b set_2o n_3b n_3o e_4b e_4o R m) m) h
  refine HC_of_DW (fn := fn) (c := (.seq (sL (body)) (.seq (.region 1 #[⟨some 8, .makeFunc (.func 86) #[] #[.tmp 2, .tmp 3, .tmp 4], 1, "class.go:166", #[], none⟩, ⟨none, .defer ⟨.value (.tmp 8), #[], #[]⟩, 0, "class.go:166", #[⟨0, .data⟩], none⟩] false) (sR (sR (body)))))) Go.Proofs.Tryd.func83 (by kernel_rfl) (by kernel_rfl) (of_decide_eq_true (by kernel_rfl)) ?_
  refine DW_seq (tb := tb) (od := od) follows (by kernel_rfl) ?_
  refine cpt_mono (P := P) (sL (body)) (Q := aheadQ P fn R (k1E (fun s_0 set_2b set_2o n_3b n_3o e_4b e_4o m => rest0 s_0 set_2b set_2o n_3b n_3o e_4b e_4o R m))) (fun e ρ m h => ?_) _ _ h
  cases e with
  | normal =>
    have h : k1E (fun s_0 set_2b set_2o n_3b n_3o e_4b e_4o m => rest0 s_0 set_2b set_2o n_3b n_3o e_4b e_4o R m) ρ m := h
    unfold k1E at h
    obtain ⟨s_0, e0, h⟩ := h.ex
    obtain ⟨set_2b, set_2o, e2, h⟩ := h.ex
    obtain ⟨n_3b, n_3o, e3, h⟩ := h.ex
    obtain ⟨e_4b, e_4o, e4, h⟩ := h.ex
    rw [← upd_self e0, ← upd_self e2, ← upd_self e3, ← upd_self e4]
    refine DW_defer (tb := tb) (od := od) (gn := Go.Proofs.Tryd.f86) (lo := 5) Go.Proofs.Tryd.func86 (by kernel_rfl) (by kernel_rfl) follows cok (by kernel_rfl) (by kernel_rfl) ?_
    exact Eq.mp (rest_eq2 s_0 set_2b set_2o n_3b n_3o e_4b e_4o R ρ m) (rest_ok s_0 set_2b set_2o n_3b n_3o e_4b e_4o R ρ m h)
  | _ => exact h
end class_Parse
end
end Go.E
set_option linter.unusedVariables false
set_option maxRecDepth 100000
namespace Go.E
open Go.H
noncomputable section
/-! ### eyot/class.Parse$1 -/
namespace class_Parse_1
noncomputable def fn : Func := Go.Proofs.Tryd.f86
noncomputable def body : Code := fn.body.getD .skip
noncomputable def ops : Array Oper := rgOps (sL body)
def od : Nat → Ord := fun _ => .done
def tb : Nat → Tab := fun _ => (0, [], [])
def tnone (c0b : Nat) (c1b : Nat) (c2b : Nat)  (K : Mem → Prop) (m : Mem) : Prop :=
 NewC m #[] T_class_refusal fun b3 m1 =>
 K m1
theorem df_none (c0b : Nat) (c1b : Nat) (c2b : Nat)  (K : Mem → Prop) (m : Mem) (h : tnone c0b c1b c2b  K m) : DF P id #[.pointer (some ⟨c0b, 0, none⟩), .pointer (some ⟨c1b, 0, none⟩), .pointer (some ⟨c2b, 0, none⟩)] none m K := by
  refine DF_of (tb := tb) (od := od) (gn := fn) (id := 0) (d := 6) (ops := ops) (ol := ops.toList.tail) (rest := sR body) (tys := #[]) (ty := 20) (pos := "class.go:167") (af := #[])
    Go.Proofs.Tryd.func86 (by kernel_rfl) follows (by kernel_rfl) (by kernel_rfl) (by kernel_rfl) (of_decide_eq_true (by kernel_rfl)) (by kernel_rfl) ?_
  have e : tnone c0b c1b c2b  K m = hops P ops (fun ρ m => cpt P od (fun _ _ => False) (sR body) (doneQ K) ρ m) (fun _ _ => False) ops.toList.tail (upd (argE (#[.pointer (some ⟨c0b, 0, none⟩), .pointer (some ⟨c1b, 0, none⟩), .pointer (some ⟨c2b, 0, none⟩)] : Array Value).toList) 6 (recV none)) m := by kernel_rfl
  exact Eq.mp e h
def tsome (c0b : Nat) (c1b : Nat) (c2b : Nat)  (K : Mem → Prop) (m : Mem) : Prop :=
 NewC m #[] T_class_refusal fun b3 m1 =>
 St1 m1 c0b 0 (.int .u64 0) fun m2 =>
 St1 m2 c0b 1 (.int .u64 0) fun m3 =>
 St1 m3 c0b 2 (.int .u64 0) fun m4 =>
 St1 m4 c0b 3 (.int .u64 0) fun m5 =>
 St1 m5 c1b 0 (.int .i64 0) fun m6 =>
 St1 m6 c2b 0 (.int .i64 2) fun m7 =>
 K m7
theorem df_some (c0b : Nat) (c1b : Nat) (c2b : Nat)  (K : Mem → Prop) (m : Mem) (h : tsome c0b c1b c2b  K m) : DF P id #[.pointer (some ⟨c0b, 0, none⟩), .pointer (some ⟨c1b, 0, none⟩), .pointer (some ⟨c2b, 0, none⟩)] (some (.iface T_class_refusal (.agg #[]))) m K := by
  refine DF_of (tb := tb) (od := od) (gn := fn) (id := 0) (d := 6) (ops := ops) (ol := ops.toList.tail) (rest := sR body) (tys := #[]) (ty := 20) (pos := "class.go:167") (af := #[])
    Go.Proofs.Tryd.func86 (by kernel_rfl) follows (by kernel_rfl) (by kernel_rfl) (by kernel_rfl) (of_decide_eq_true (by kernel_rfl)) (by kernel_rfl) ?_
  have e : tsome c0b c1b c2b  K m = hops P ops (fun ρ m => cpt P od (fun _ _ => False) (sR body) (doneQ K) ρ m) (fun _ _ => False) ops.toList.tail (upd (argE (#[.pointer (some ⟨c0b, 0, none⟩), .pointer (some ⟨c1b, 0, none⟩), .pointer (some ⟨c2b, 0, none⟩)] : Array Value).toList) 6 (recV (some (.iface T_class_refusal (.agg #[]))))) m := by kernel_rfl
  exact Eq.mp e h
end class_Parse_1
end
end Go.E
set_option linter.unusedVariables false
set_option maxRecDepth 100000
namespace Go.E
open Go.H
noncomputable section
/-! ### (*eyot/class.reader).class -/
namespace class_reader_class
noncomputable def fn : Func := Go.Proofs.Tryd.f87
noncomputable def body : Code := fn.body.getD .skip
def od : Nat → Ord := fun | 14 => ordL [(0, 1), (1, 3), (2, 0), (3, 2), (4, 2)] .done | _ => .done
def tb : Nat → Tab := fun | 14 => (24, [0, 0, 2, 7, 15], [(0, 32, 35), (0, 1, 36), (2, 34359738368, 37), (5, 85899345920, 38), (15, 137438953504, 0)]) | _ => (0, [], [])
def k3E (K : Option Addr → Nat → Nat → Bool → Nat → Nat → Mem → Prop) : Env → Mem → Prop := fun ρ m => UnP (ρ 0) fun r_0 => UnPA (ρ 2) fun x2b x2o => UnB (ρ 4) fun other_4 => UnPA (ρ 5) fun s_5b s_5o => K r_0 x2b x2o other_4 s_5b s_5o m
def k3  (r_0 : Option Addr) (x2b : Nat) (x2o : Nat) (other_4 : Bool) (s_5b : Nat) (s_5o : Nat) (R : Ending → Mem → Prop) (m : Mem) : Prop :=
 HC P class_reader_take.id #[.pointer r_0] m (Cont (fun v m1 =>
   UnI v .u8 fun x39 =>
   Br other_4 (
    LdV m1 s_5b s_5o fun v =>
    UnI v .u64 fun x41_0 =>
    LdV m1 s_5b (s_5o + 1) fun v =>
    UnI v .u64 fun x41_1 =>
    LdV m1 s_5b (s_5o + 2) fun v =>
    UnI v .u64 fun x41_2 =>
    LdV m1 s_5b (s_5o + 3) fun v =>
    UnI v .u64 fun x41_3 =>
    HC P class_Not.id #[.agg #[.int .u64 x41_0, .int .u64 x41_1, .int .u64 x41_2, .int .u64 x41_3]] m1 (Cont (fun v m2 =>
      UnAgg v fun l =>
      UnCons l fun v l =>
      UnI v .u64 fun x42_0 =>
      UnCons l fun v l =>
      UnI v .u64 fun x42_1 =>
      UnCons l fun v l =>
      UnI v .u64 fun x42_2 =>
      UnCons l fun v l =>
      UnI v .u64 fun x42_3 =>
      UnNil l (
       St1 m2 s_5b s_5o (.int .u64 x42_0) fun m3 =>
       St1 m3 s_5b (s_5o + 1) (.int .u64 x42_1) fun m4 =>
       St1 m4 s_5b (s_5o + 2) (.int .u64 x42_2) fun m5 =>
       St1 m5 s_5b (s_5o + 3) (.int .u64 x42_3) fun m6 =>
       LdV m6 s_5b s_5o fun v =>
       UnI v .u64 fun x43_0 =>
       LdV m6 s_5b (s_5o + 1) fun v =>
       UnI v .u64 fun x43_1 =>
       LdV m6 s_5b (s_5o + 2) fun v =>
       UnI v .u64 fun x43_2 =>
       LdV m6 s_5b (s_5o + 3) fun v =>
       UnI v .u64 fun x43_3 =>
       St1 m6 x2b x2o (.int .u64 x43_0) fun m7 =>
       St1 m7 x2b (x2o + 1) (.int .u64 x43_1) fun m8 =>
       St1 m8 x2b (x2o + 2) (.int .u64 x43_2) fun m9 =>
       St1 m9 x2b (x2o + 3) (.int .u64 x43_3) fun m10 =>
       LdV m10 x2b x2o fun v =>
       UnI v .u64 fun res0_0 =>
       LdV m10 x2b (x2o + 1) fun v =>
       UnI v .u64 fun res0_1 =>
       LdV m10 x2b (x2o + 2) fun v =>
       UnI v .u64 fun res0_2 =>
       LdV m10 x2b (x2o + 3) fun v =>
       UnI v .u64 fun res0_3 =>
       R (.returned (.agg #[.int .u64 res0_0, .int .u64 res0_1, .int .u64 res0_2, .int .u64 res0_3])) m10)) (panicR R))) (
    LdV m1 s_5b s_5o fun v =>
    UnI v .u64 fun x43_0 =>
    LdV m1 s_5b (s_5o + 1) fun v =>
    UnI v .u64 fun x43_1 =>
    LdV m1 s_5b (s_5o + 2) fun v =>
    UnI v .u64 fun x43_2 =>
    LdV m1 s_5b (s_5o + 3) fun v =>
    UnI v .u64 fun x43_3 =>
    St1 m1 x2b x2o (.int .u64 x43_0) fun m2 =>
    St1 m2 x2b (x2o + 1) (.int .u64 x43_1) fun m3 =>
    St1 m3 x2b (x2o + 2) (.int .u64 x43_2) fun m4 =>
    St1 m4 x2b (x2o + 3) (.int .u64 x43_3) fun m5 =>
    LdV m5 x2b x2o fun v =>
    UnI v .u64 fun res0_0 =>
    LdV m5 x2b (x2o + 1) fun v =>
    UnI v .u64 fun res0_1 =>
    LdV m5 x2b (x2o + 2) fun v =>
    UnI v .u64 fun res0_2 =>
    LdV m5 x2b (x2o + 3) fun v =>
    UnI v .u64 fun res0_3 =>
    R (.returned (.agg #[.int .u64 res0_0, .int .u64 res0_1, .int .u64 res0_2, .int .u64 res0_3])) m5)) (panicR R))
noncomputable def k3A  (R : Ending → Mem → Prop) : ACode := (.code (sR (sR (sR (sR (sR (sR (sR (body)))))))))
def l2E (K : Option Addr → Nat → Nat → Bool → Nat → Nat → Mem → Prop) : Env → Mem → Prop := fun ρ m => UnP (ρ 0) fun r_0 => UnPA (ρ 2) fun x2b x2o => UnB (ρ 4) fun other_4 => UnPA (ρ 5) fun s_5b s_5o => K r_0 x2b x2o other_4 s_5b s_5o m
def l2B  (K2 : Option Addr → Nat → Nat → Bool → Nat → Nat → Mem → Prop) (r_0 : Option Addr) (x2b : Nat) (x2o : Nat) (other_4 : Bool) (s_5b : Nat) (s_5o : Nat) (R : Ending → Mem → Prop) (m : Mem) : Prop :=
 HC P class_reader_next.id #[.pointer r_0] m (Cont (fun v m1 =>
   UnI v .u8 fun x32 =>
   Br (x32 != 93) (
    Sub m1 fun r2 =>
    LdV r2 s_5b s_5o fun v =>
    UnI v .u64 fun x34_0 =>
    LdV r2 s_5b (s_5o + 1) fun v =>
    UnI v .u64 fun x34_1 =>
    LdV r2 s_5b (s_5o + 2) fun v =>
    UnI v .u64 fun x34_2 =>
    LdV r2 s_5b (s_5o + 3) fun v =>
    UnI v .u64 fun x34_3 =>
    HC P class_reader_part.id #[.pointer r_0] m1 (Cont (fun v m3 =>
      UnAgg v fun l =>
      UnCons l fun v l =>
      UnI v .u64 fun x36_0 =>
      UnCons l fun v l =>
      UnI v .u64 fun x36_1 =>
      UnCons l fun v l =>
      UnI v .u64 fun x36_2 =>
      UnCons l fun v l =>
      UnI v .u64 fun x36_3 =>
      UnNil l (
       Lk r2 m3 fun r4 =>
       HC P class_Or.id #[.agg #[.int .u64 x34_0, .int .u64 x34_1, .int .u64 x34_2, .int .u64 x34_3], .agg #[.int .u64 x36_0, .int .u64 x36_1, .int .u64 x36_2, .int .u64 x36_3]] m3 (Cont (fun v m5 =>
        UnAgg v fun l =>
        UnCons l fun v l =>
        UnI v .u64 fun x37_0 =>
        UnCons l fun v l =>
        UnI v .u64 fun x37_1 =>
        UnCons l fun v l =>
        UnI v .u64 fun x37_2 =>
        UnCons l fun v l =>
        UnI v .u64 fun x37_3 =>
        UnNil l (
        St1 m5 s_5b s_5o (.int .u64 x37_0) fun m6 =>
        St1 m6 s_5b (s_5o + 1) (.int .u64 x37_1) fun m7 =>
        St1 m7 s_5b (s_5o + 2) (.int .u64 x37_2) fun m8 =>
        St1 m8 s_5b (s_5o + 3) (.int .u64 x37_3) fun m9 =>
        K2 r_0 x2b x2o other_4 s_5b s_5o m9)) (panicR R)))) (panicR R))) (
    k3  r_0 x2b x2o other_4 s_5b s_5o R m1)) (panicR R))
def l2  (r_0 : Option Addr) (x2b : Nat) (x2o : Nat) (other_4 : Bool) (s_5b : Nat) (s_5o : Nat) (R : Ending → Mem → Prop) (m : Mem) : Prop :=
  ∃ (I : Nat → Option Addr → Nat → Nat → Bool → Nat → Nat → Mem → Prop) (N : Nat), I N r_0 x2b x2o other_4 s_5b s_5o m ∧ ∀ N r_0 x2b x2o other_4 s_5b s_5o m, I N r_0 x2b x2o other_4 s_5b s_5o m → l2B  (fun r_0 x2b x2o other_4 s_5b s_5o m => ∃ N1, N1 < N ∧ I N1 r_0 x2b x2o other_4 s_5b s_5o m) r_0 x2b x2o other_4 s_5b s_5o R m
noncomputable def l2A  (K2 : Option Addr → Nat → Nat → Bool → Nat → Nat → Mem → Prop) (R : Ending → Mem → Prop) : ACode := (.code (lP (bB (sL (sR (sR (sR (sR (sR (sR (body)))))))))))
def k1E (K : Option Addr → Nat → Nat → Bool → Mem → Prop) : Env → Mem → Prop := fun ρ m => UnP (ρ 0) fun r_0 => UnPA (ρ 2) fun x2b x2o => UnB (ρ 4) fun other_4 => K r_0 x2b x2o other_4 m
def k1  (r_0 : Option Addr) (x2b : Nat) (x2o : Nat) (other_4 : Bool) (R : Ending → Mem → Prop) (m : Mem) : Prop :=
 HC P class_reader_part.id #[.pointer r_0] m (Cont (fun v m1 =>
   UnAgg v fun l =>
   UnCons l fun v l =>
   UnI v .u64 fun x30_0 =>
   UnCons l fun v l =>
   UnI v .u64 fun x30_1 =>
   UnCons l fun v l =>
   UnI v .u64 fun x30_2 =>
   UnCons l fun v l =>
   UnI v .u64 fun x30_3 =>
   UnNil l (
    NewC m1 #[.int .u64 0, .int .u64 0, .int .u64 0, .int .u64 0] T_api_Set fun b_s_5 m2 =>
    St1 m2 b_s_5 0 (.int .u64 x30_0) fun m3 =>
    St1 m3 b_s_5 1 (.int .u64 x30_1) fun m4 =>
    St1 m4 b_s_5 2 (.int .u64 x30_2) fun m5 =>
    St1 m5 b_s_5 3 (.int .u64 x30_3) fun m6 =>
    l2  r_0 x2b x2o other_4 b_s_5 0 R m6)) (panicR R))
noncomputable def k1A  (R : Ending → Mem → Prop) : ACode := (.seq (.code (sL (sR (sR (sR (sR (sR (body)))))))) (.seq (.block 1 (.cut (l2E fun r_0 x2b x2o other_4 s_5b s_5o m => l2  r_0 x2b x2o other_4 s_5b s_5o R m) (.loop (lP (bB (sL (sR (sR (sR (sR (sR (sR (body))))))))))))) (.cut (k3E fun r_0 x2b x2o other_4 s_5b s_5o m => k3  r_0 x2b x2o other_4 s_5b s_5o R m) (sR (sR (sR (sR (sR (sR (sR (body)))))))))))
def e0 (r_0 : Option Addr) (R : Ending → Mem → Prop) (m : Mem) : Prop :=
 NewC m #[.int .u64 0, .int .u64 0, .int .u64 0, .int .u64 0] T_api_Set fun b2 m1 =>
 HC P class_reader_next.id #[.pointer r_0] m1 (Cont (fun v m2 =>
   UnI v .u8 fun x7 =>
   Br (x7 == 46) (
    HC P class_reader_take.id #[.pointer r_0] m2 (Cont (fun v m3 =>
      UnI v .u8 fun x16 =>
      HC P class_Not.id #[.agg #[.int .u64 0, .int .u64 0, .int .u64 0, .int .u64 0]] m3 (Cont (fun v m4 =>
        UnAgg v fun l =>
        UnCons l fun v l =>
        UnI v .u64 fun x18_0 =>
        UnCons l fun v l =>
        UnI v .u64 fun x18_1 =>
        UnCons l fun v l =>
        UnI v .u64 fun x18_2 =>
        UnCons l fun v l =>
        UnI v .u64 fun x18_3 =>
        UnNil l (
        St1 m4 b2 0 (.int .u64 x18_0) fun m5 =>
        St1 m5 b2 1 (.int .u64 x18_1) fun m6 =>
        St1 m6 b2 2 (.int .u64 x18_2) fun m7 =>
        St1 m7 b2 3 (.int .u64 x18_3) fun m8 =>
        LdV m8 b2 0 fun v =>
        UnI v .u64 fun res0_0 =>
        LdV m8 b2 1 fun v =>
        UnI v .u64 fun res0_1 =>
        LdV m8 b2 2 fun v =>
        UnI v .u64 fun res0_2 =>
        LdV m8 b2 3 fun v =>
        UnI v .u64 fun res0_3 =>
        R (.returned (.agg #[.int .u64 res0_0, .int .u64 res0_1, .int .u64 res0_2, .int .u64 res0_3])) m8)) (panicR R))) (panicR R))) (
    Br (x7 == 91) (
     HC P class_reader_take.id #[.pointer r_0] m2 (Cont (fun v m3 =>
       UnI v .u8 fun x22 =>
       HC P class_reader_next.id #[.pointer r_0] m3 (Cont (fun v m4 =>
        UnI v .u8 fun x24 =>
        Br (x24 == 94) (
        HC P class_reader_take.id #[.pointer r_0] m4 (Cont (fun v m5 =>
        UnI v .u8 fun x28 =>
        k1  r_0 b2 0 (x24 == 94) R m5) (panicR R))) (
        k1  r_0 b2 0 (x24 == 94) R m4)) (panicR R))) (panicR R))) (
     HC P class_reader_sign.id #[.pointer r_0] m2 (Cont (fun v m3 =>
       UnI v .u8 fun x9 =>
       HC P class_run.id #[.int .u8 x9, .int .u8 x9] m3 (Cont (fun v m4 =>
        UnAgg v fun l =>
        UnCons l fun v l =>
        UnI v .u64 fun x12_0 =>
        UnCons l fun v l =>
        UnI v .u64 fun x12_1 =>
        UnCons l fun v l =>
        UnI v .u64 fun x12_2 =>
        UnCons l fun v l =>
        UnI v .u64 fun x12_3 =>
        UnNil l (
        St1 m4 b2 0 (.int .u64 x12_0) fun m5 =>
        St1 m5 b2 1 (.int .u64 x12_1) fun m6 =>
        St1 m6 b2 2 (.int .u64 x12_2) fun m7 =>
        St1 m7 b2 3 (.int .u64 x12_3) fun m8 =>
        LdV m8 b2 0 fun v =>
        UnI v .u64 fun res0_0 =>
        LdV m8 b2 1 fun v =>
        UnI v .u64 fun res0_1 =>
        LdV m8 b2 2 fun v =>
        UnI v .u64 fun res0_2 =>
        LdV m8 b2 3 fun v =>
        UnI v .u64 fun res0_3 =>
        R (.returned (.agg #[.int .u64 res0_0, .int .u64 res0_1, .int .u64 res0_2, .int .u64 res0_3])) m8)) (panicR R))) (panicR R))))) (panicR R))
noncomputable def e0A (R : Ending → Mem → Prop) : ACode := (.seq (.code (sL (body))) (.seq (.code (sL (sR (body)))) (.seq (.code (sL (sR (sR (body))))) (.seq (.code (sL (sR (sR (sR (body)))))) (.seq (.code (sL (sR (sR (sR (sR (body))))))) (.cut (k1E fun r_0 x2b x2o other_4 m => k1  r_0 x2b x2o other_4 R m) (sR (sR (sR (sR (sR (body))))))))))))
abbrev k1Q  (R : Ending → Mem → Prop) : Exit → Env → Mem → Prop := (bodyQ P fn R)
abbrev k3Q  (R : Ending → Mem → Prop) : Exit → Env → Mem → Prop := (k1Q  R)
abbrev l2Q  (R : Ending → Mem → Prop) : Exit → Env → Mem → Prop := (blockQ 1 (thenQ (acpt P od (panicR R) (.cut (k3E fun r_0 x2b x2o other_4 s_5b s_5o m => k3  r_0 x2b x2o other_4 s_5b s_5o R m) (sR (sR (sR (sR (sR (sR (sR (body))))))))) (k1Q  R)) (k1Q  R)))
theorem k3_eq  (R : Ending → Mem → Prop) (r_0 : Option Addr) (x2b : Nat) (x2o : Nat) (other_4 : Bool) (s_5b : Nat) (s_5o : Nat) (ρ : Env) (m : Mem) : k3  r_0 x2b x2o other_4 s_5b s_5o R m = acpt P od (panicR R) (k3A  R) (k3Q  R) (upd (upd (upd (upd ρ 5 (.pointer (some ⟨s_5b, s_5o, none⟩))) 4 (.bool other_4)) 2 (.pointer (some ⟨x2b, x2o, none⟩))) 0 (.pointer r_0)) m := by kernel_rfl
theorem k3_er  (R : Ending → Mem → Prop) : (k3A  R).erase = sR (sR (sR (sR (sR (sR (sR (body))))))) := by kernel_rfl
theorem k3_ok  (R : Ending → Mem → Prop) (ρ : Env) (m : Mem) (h : (k3E fun r_0 x2b x2o other_4 s_5b s_5o m => k3  r_0 x2b x2o other_4 s_5b s_5o R m) ρ m) : cpt P od (panicR R) (sR (sR (sR (sR (sR (sR (sR (body)))))))) (k3Q  R) ρ m := by
  unfold k3E at h
  obtain ⟨r_0, e0, h⟩ := h.ex
  obtain ⟨x2b, x2o, e2, h⟩ := h.ex
  obtain ⟨other_4, e4, h⟩ := h.ex
  obtain ⟨s_5b, s_5o, e5, h⟩ := h.ex
  rw [← upd_self e0, ← upd_self e2, ← upd_self e4, ← upd_self e5]
  rw [← k3_er  R]
  refine acpt_sound (P := P) (k3A  R) _ _ _ True.intro ?_
  exact Eq.mp (k3_eq  R r_0 x2b x2o other_4 s_5b s_5o ρ m) h
theorem l2_eq  (K2 : Option Addr → Nat → Nat → Bool → Nat → Nat → Mem → Prop) (R : Ending → Mem → Prop) (r_0 : Option Addr) (x2b : Nat) (x2o : Nat) (other_4 : Bool) (s_5b : Nat) (s_5o : Nat) (ρ : Env) (m : Mem) : l2B  K2 r_0 x2b x2o other_4 s_5b s_5o R m = acpt P od (panicR R) (l2A  K2 R) (thenQ (l2E K2) (l2Q  R)) (upd (upd (upd (upd ρ 5 (.pointer (some ⟨s_5b, s_5o, none⟩))) 4 (.bool other_4)) 2 (.pointer (some ⟨x2b, x2o, none⟩))) 0 (.pointer r_0)) m := by kernel_rfl
theorem l2_er  (K2 : Option Addr → Nat → Nat → Bool → Nat → Nat → Mem → Prop) (R : Ending → Mem → Prop) : (l2A  K2 R).erase = lP (bB (sL (sR (sR (sR (sR (sR (sR (body))))))))) := by kernel_rfl
theorem l2_ok  (R : Ending → Mem → Prop) (ρ : Env) (m : Mem) (h : (l2E fun r_0 x2b x2o other_4 s_5b s_5o m => l2  r_0 x2b x2o other_4 s_5b s_5o R m) ρ m) : cpt P od (panicR R) (.loop (lP (bB (sL (sR (sR (sR (sR (sR (sR (body))))))))))) (l2Q  R) ρ m := by
  unfold l2E at h
  obtain ⟨r_0, e0, h⟩ := h.ex
  obtain ⟨x2b, x2o, e2, h⟩ := h.ex
  obtain ⟨other_4, e4, h⟩ := h.ex
  obtain ⟨s_5b, s_5o, e5, h⟩ := h.ex
  obtain ⟨I, N, h0, hs⟩ := h
  refine ⟨fun N => l2E (I N), N, (by show l2E (I N) ρ m; unfold l2E; rw [e0, e2, e4, e5]; exact h0), ?_⟩
  clear h0 e0 e2 e4 e5
  intro N ρ m h
  unfold l2E at h
  obtain ⟨r_0, e0, h⟩ := h.ex
  obtain ⟨x2b, x2o, e2, h⟩ := h.ex
  obtain ⟨other_4, e4, h⟩ := h.ex
  obtain ⟨s_5b, s_5o, e5, h⟩ := h.ex
  refine cpt_mono (P := P) (lP (bB (sL (sR (sR (sR (sR (sR (sR (body)))))))))) (Q := thenQ (l2E fun r_0 x2b x2o other_4 s_5b s_5o m => ∃ N1, N1 < N ∧ I N1 r_0 x2b x2o other_4 s_5b s_5o m) (l2Q  R)) (fun e ρ m h => ?_) ρ m ?_
  · cases e with
    | normal =>
      have h : l2E (fun r_0 x2b x2o other_4 s_5b s_5o m => ∃ N1, N1 < N ∧ I N1 r_0 x2b x2o other_4 s_5b s_5o m) ρ m := h
      unfold l2E at h
      obtain ⟨r_0, e0, h⟩ := h.ex
      obtain ⟨x2b, x2o, e2, h⟩ := h.ex
      obtain ⟨other_4, e4, h⟩ := h.ex
      obtain ⟨s_5b, s_5o, e5, h⟩ := h.ex
      obtain ⟨N1, hlt, h⟩ := h
      exact ⟨N1, hlt, (by show l2E (I N1) ρ m; unfold l2E; rw [e0, e2, e4, e5]; exact h)⟩
    | _ => exact h
  have hh := hs N r_0 x2b x2o other_4 s_5b s_5o m h
  generalize (fun r_0 x2b x2o other_4 s_5b s_5o m => ∃ N1, N1 < N ∧ I N1 r_0 x2b x2o other_4 s_5b s_5o m : Option Addr → Nat → Nat → Bool → Nat → Nat → Mem → Prop) = K2 at hh ⊢
  rw [← upd_self e0, ← upd_self e2, ← upd_self e4, ← upd_self e5]
  rw [← l2_er  K2 R]
  refine acpt_sound (P := P) (l2A  K2 R) _ _ _ True.intro ?_
  exact Eq.mp (l2_eq  K2 R r_0 x2b x2o other_4 s_5b s_5o ρ m) hh
theorem k1_eq  (R : Ending → Mem → Prop) (r_0 : Option Addr) (x2b : Nat) (x2o : Nat) (other_4 : Bool) (ρ : Env) (m : Mem) : k1  r_0 x2b x2o other_4 R m = acpt P od (panicR R) (k1A  R) (k1Q  R) (upd (upd (upd ρ 4 (.bool other_4)) 2 (.pointer (some ⟨x2b, x2o, none⟩))) 0 (.pointer r_0)) m := by kernel_rfl
theorem k1_er  (R : Ending → Mem → Prop) : (k1A  R).erase = sR (sR (sR (sR (sR (body))))) := by kernel_rfl
theorem k1_ok  (R : Ending → Mem → Prop) (ρ : Env) (m : Mem) (h : (k1E fun r_0 x2b x2o other_4 m => k1  r_0 x2b x2o other_4 R m) ρ m) : cpt P od (panicR R) (sR (sR (sR (sR (sR (body)))))) (k1Q  R) ρ m := by
  unfold k1E at h
  obtain ⟨r_0, e0, h⟩ := h.ex
  obtain ⟨x2b, x2o, e2, h⟩ := h.ex
  obtain ⟨other_4, e4, h⟩ := h.ex
  rw [← upd_self e0, ← upd_self e2, ← upd_self e4]
  rw [← k1_er  R]
  refine acpt_sound (P := P) (k1A  R) _ _ _ ⟨⟨(fun ρ m h => k3_ok  R ρ m h), (fun ρ m h => l2_ok  R ρ m h)⟩, True.intro⟩ ?_
  exact Eq.mp (k1_eq  R r_0 x2b x2o other_4 ρ m) h
theorem e0_eq (r_0 : Option Addr) (R : Ending → Mem → Prop) (m : Mem) : e0 r_0 R m = acpt P od (panicR R) (e0A R) (bodyQ P fn R) (argE (#[.pointer r_0] : Array Value).toList) m := by kernel_rfl
theorem ok (r_0 : Option Addr) (R : Ending → Mem → Prop) (m : Mem) (h : e0 r_0 R m) : HC P id #[.pointer r_0] m R := by
  refine HC_of (fn := fn) (c := body) (od := od) (tb := tb) Go.Proofs.Tryd.func87 (by kernel_rfl) (by kernel_rfl) follows (by kernel_rfl) (of_decide_eq_true (by kernel_rfl)) ?_
  have he : (e0A R).erase = body := by kernel_rfl
  rw [← he]
  refine acpt_sound (P := P) (e0A R) _ _ _ ⟨⟨⟨⟨⟨(fun ρ m h => k1_ok  R ρ m h), True.intro⟩, True.intro⟩, True.intro⟩, True.intro⟩, True.intro⟩ ?_
  exact Eq.mp (e0_eq r_0 R m) h
end class_reader_class
/-! ### eyot/class.Least -/
namespace class_Least
noncomputable def fn : Func := Go.Proofs.Tryd.f88
noncomputable def body : Code := fn.body.getD .skip
def od : Nat → Ord := fun _ => .done
def tb : Nat → Tab := fun _ => (0, [], [])
def l1E (K : Int → Int → Int → Int → Int → Mem → Prop) : Env → Mem → Prop := fun ρ m => UnAgg (ρ 6) fun l => UnCons l fun v l => UnI v .u64 fun x6_0 => UnCons l fun v l => UnI v .u64 fun x6_1 => UnCons l fun v l => UnI v .u64 fun x6_2 => UnCons l fun v l => UnI v .u64 fun x6_3 => UnNil l (UnI (ρ 7) .i64 fun x7 => K x6_0 x6_1 x6_2 x6_3 x7 m)
def l1B  (K1 : Int → Int → Int → Int → Int → Mem → Prop) (x6_0 : Int) (x6_1 : Int) (x6_2 : Int) (x6_3 : Int) (x7 : Int) (R : Ending → Mem → Prop) (m : Mem) : Prop :=
 Br (decide (x7 < 4)) (
  IxI [x6_0, x6_1, x6_2, x6_3] x7 fun x10 =>
  Br (x10 != 0) (
   HC P math_bits_TrailingZeros64.id #[.int .u64 x10] m (Cont (fun v m1 =>
     UnI v .i64 fun x16 =>
     R (.returned (.tuple #[.int .u8 (IntKind.u8.wrap (IntKind.i64.wrap ((IntKind.i64.wrap (64 * x7)) + x16))), .bool true])) m1) (panicR R))) (
   K1 x6_0 x6_1 x6_2 x6_3 (IntKind.i64.wrap (x7 + 1)) m)) (
  R (.returned (.tuple #[.int .u8 0, .bool false])) m)
def l1  (x6_0 : Int) (x6_1 : Int) (x6_2 : Int) (x6_3 : Int) (x7 : Int) (R : Ending → Mem → Prop) (m : Mem) : Prop :=
  ∃ (I : Nat → Int → Int → Int → Int → Int → Mem → Prop) (N : Nat), I N x6_0 x6_1 x6_2 x6_3 x7 m ∧ ∀ N x6_0 x6_1 x6_2 x6_3 x7 m, I N x6_0 x6_1 x6_2 x6_3 x7 m → l1B  (fun x6_0 x6_1 x6_2 x6_3 x7 m => ∃ N1, N1 < N ∧ I N1 x6_0 x6_1 x6_2 x6_3 x7 m) x6_0 x6_1 x6_2 x6_3 x7 R m
noncomputable def l1A  (K1 : Int → Int → Int → Int → Int → Mem → Prop) (R : Ending → Mem → Prop) : ACode := (.code (lP (bB (sR (sL (sR (body)))))))
def e0 (s_0_0 : Int) (s_0_1 : Int) (s_0_2 : Int) (s_0_3 : Int) (R : Ending → Mem → Prop) (m : Mem) : Prop :=
 NewC m #[.int .u64 s_0_0, .int .u64 s_0_1, .int .u64 s_0_2, .int .u64 s_0_3] T_api_Set fun b_s_1 m1 =>
 LdV m1 b_s_1 0 fun v =>
 UnI v .u64 fun x6_0 =>
 LdV m1 b_s_1 1 fun v =>
 UnI v .u64 fun x6_1 =>
 LdV m1 b_s_1 2 fun v =>
 UnI v .u64 fun x6_2 =>
 LdV m1 b_s_1 3 fun v =>
 UnI v .u64 fun x6_3 =>
 l1  x6_0 x6_1 x6_2 x6_3 0 R m1
noncomputable def e0A (R : Ending → Mem → Prop) : ACode := (.seq (.code (sL (body))) (.seq (.seq (.code (sL (sL (sR (body))))) (.block 0 (.cut (l1E fun x6_0 x6_1 x6_2 x6_3 x7 m => l1  x6_0 x6_1 x6_2 x6_3 x7 R m) (.loop (lP (bB (sR (sL (sR (body)))))))))) (.code (sR (sR (body))))))
abbrev l1Q  (R : Ending → Mem → Prop) : Exit → Env → Mem → Prop := (blockQ 0 (thenQ (acpt P od (panicR R) (.code (sR (sR (body)))) (bodyQ P fn R)) (bodyQ P fn R)))
theorem l1_eq  (K1 : Int → Int → Int → Int → Int → Mem → Prop) (R : Ending → Mem → Prop) (x6_0 : Int) (x6_1 : Int) (x6_2 : Int) (x6_3 : Int) (x7 : Int) (ρ : Env) (m : Mem) : l1B  K1 x6_0 x6_1 x6_2 x6_3 x7 R m = acpt P od (panicR R) (l1A  K1 R) (thenQ (l1E K1) (l1Q  R)) (upd (upd ρ 7 (.int .i64 x7)) 6 (.agg [.int .u64 x6_0, .int .u64 x6_1, .int .u64 x6_2, .int .u64 x6_3].toArray)) m := by kernel_rfl
theorem l1_er  (K1 : Int → Int → Int → Int → Int → Mem → Prop) (R : Ending → Mem → Prop) : (l1A  K1 R).erase = lP (bB (sR (sL (sR (body))))) := by kernel_rfl
theorem l1_ok  (R : Ending → Mem → Prop) (ρ : Env) (m : Mem) (h : (l1E fun x6_0 x6_1 x6_2 x6_3 x7 m => l1  x6_0 x6_1 x6_2 x6_3 x7 R m) ρ m) : cpt P od (panicR R) (.loop (lP (bB (sR (sL (sR (body))))))) (l1Q  R) ρ m := by
  unfold l1E at h
  obtain ⟨lst6, e6, hq6_1⟩ := UnAgg.ex h; clear h
  obtain ⟨w6_0, t6_0, q6, hq6_2⟩ := UnCons.ex hq6_1; clear hq6_1; subst q6
  obtain ⟨x6_0, q6, hq6_3⟩ := UnI.ex hq6_2; clear hq6_2; subst q6
  obtain ⟨w6_1, t6_1, q6, hq6_4⟩ := UnCons.ex hq6_3; clear hq6_3; subst q6
  obtain ⟨x6_1, q6, hq6_5⟩ := UnI.ex hq6_4; clear hq6_4; subst q6
  obtain ⟨w6_2, t6_2, q6, hq6_6⟩ := UnCons.ex hq6_5; clear hq6_5; subst q6
  obtain ⟨x6_2, q6, hq6_7⟩ := UnI.ex hq6_6; clear hq6_6; subst q6
  obtain ⟨w6_3, t6_3, q6, hq6_8⟩ := UnCons.ex hq6_7; clear hq6_7; subst q6
  obtain ⟨x6_3, q6, hq6_9⟩ := UnI.ex hq6_8; clear hq6_8; subst q6
  obtain ⟨q6, hq6_10⟩ := UnNil.ex hq6_9; clear hq6_9; subst q6
  have h := hq6_10; clear hq6_10
  obtain ⟨x7, e7, h⟩ := h.ex
  obtain ⟨I, N, h0, hs⟩ := h
  refine ⟨fun N => l1E (I N), N, (by show l1E (I N) ρ m; unfold l1E; rw [e6, e7]; exact h0), ?_⟩
  clear h0 e6 e7
  intro N ρ m h
  unfold l1E at h
  obtain ⟨lst6, e6, hq6_1⟩ := UnAgg.ex h; clear h
  obtain ⟨w6_0, t6_0, q6, hq6_2⟩ := UnCons.ex hq6_1; clear hq6_1; subst q6
  obtain ⟨x6_0, q6, hq6_3⟩ := UnI.ex hq6_2; clear hq6_2; subst q6
  obtain ⟨w6_1, t6_1, q6, hq6_4⟩ := UnCons.ex hq6_3; clear hq6_3; subst q6
  obtain ⟨x6_1, q6, hq6_5⟩ := UnI.ex hq6_4; clear hq6_4; subst q6
  obtain ⟨w6_2, t6_2, q6, hq6_6⟩ := UnCons.ex hq6_5; clear hq6_5; subst q6
  obtain ⟨x6_2, q6, hq6_7⟩ := UnI.ex hq6_6; clear hq6_6; subst q6
  obtain ⟨w6_3, t6_3, q6, hq6_8⟩ := UnCons.ex hq6_7; clear hq6_7; subst q6
  obtain ⟨x6_3, q6, hq6_9⟩ := UnI.ex hq6_8; clear hq6_8; subst q6
  obtain ⟨q6, hq6_10⟩ := UnNil.ex hq6_9; clear hq6_9; subst q6
  have h := hq6_10; clear hq6_10
  obtain ⟨x7, e7, h⟩ := h.ex
  refine cpt_mono (P := P) (lP (bB (sR (sL (sR (body)))))) (Q := thenQ (l1E fun x6_0 x6_1 x6_2 x6_3 x7 m => ∃ N1, N1 < N ∧ I N1 x6_0 x6_1 x6_2 x6_3 x7 m) (l1Q  R)) (fun e ρ m h => ?_) ρ m ?_
  · cases e with
    | normal =>
      have h : l1E (fun x6_0 x6_1 x6_2 x6_3 x7 m => ∃ N1, N1 < N ∧ I N1 x6_0 x6_1 x6_2 x6_3 x7 m) ρ m := h
      unfold l1E at h
      obtain ⟨lst6, e6, hq6_1⟩ := UnAgg.ex h; clear h
      obtain ⟨w6_0, t6_0, q6, hq6_2⟩ := UnCons.ex hq6_1; clear hq6_1; subst q6
      obtain ⟨x6_0, q6, hq6_3⟩ := UnI.ex hq6_2; clear hq6_2; subst q6
      obtain ⟨w6_1, t6_1, q6, hq6_4⟩ := UnCons.ex hq6_3; clear hq6_3; subst q6
      obtain ⟨x6_1, q6, hq6_5⟩ := UnI.ex hq6_4; clear hq6_4; subst q6
      obtain ⟨w6_2, t6_2, q6, hq6_6⟩ := UnCons.ex hq6_5; clear hq6_5; subst q6
      obtain ⟨x6_2, q6, hq6_7⟩ := UnI.ex hq6_6; clear hq6_6; subst q6
      obtain ⟨w6_3, t6_3, q6, hq6_8⟩ := UnCons.ex hq6_7; clear hq6_7; subst q6
      obtain ⟨x6_3, q6, hq6_9⟩ := UnI.ex hq6_8; clear hq6_8; subst q6
      obtain ⟨q6, hq6_10⟩ := UnNil.ex hq6_9; clear hq6_9; subst q6
      have h := hq6_10; clear hq6_10
      obtain ⟨x7, e7, h⟩ := h.ex
      obtain ⟨N1, hlt, h⟩ := h
      exact ⟨N1, hlt, (by show l1E (I N1) ρ m; unfold l1E; rw [e6, e7]; exact h)⟩
    | _ => exact h
  have hh := hs N x6_0 x6_1 x6_2 x6_3 x7 m h
  generalize (fun x6_0 x6_1 x6_2 x6_3 x7 m => ∃ N1, N1 < N ∧ I N1 x6_0 x6_1 x6_2 x6_3 x7 m : Int → Int → Int → Int → Int → Mem → Prop) = K1 at hh ⊢
  rw [← upd_self e6, ← upd_self e7]
  rw [← l1_er  K1 R]
  refine acpt_sound (P := P) (l1A  K1 R) _ _ _ True.intro ?_
  exact Eq.mp (l1_eq  K1 R x6_0 x6_1 x6_2 x6_3 x7 ρ m) hh
theorem e0_eq (s_0_0 : Int) (s_0_1 : Int) (s_0_2 : Int) (s_0_3 : Int) (R : Ending → Mem → Prop) (m : Mem) : e0 s_0_0 s_0_1 s_0_2 s_0_3 R m = acpt P od (panicR R) (e0A R) (bodyQ P fn R) (argE (#[.agg #[.int .u64 s_0_0, .int .u64 s_0_1, .int .u64 s_0_2, .int .u64 s_0_3]] : Array Value).toList) m := by kernel_rfl
theorem ok (s_0_0 : Int) (s_0_1 : Int) (s_0_2 : Int) (s_0_3 : Int) (R : Ending → Mem → Prop) (m : Mem) (h : e0 s_0_0 s_0_1 s_0_2 s_0_3 R m) : HC P id #[.agg #[.int .u64 s_0_0, .int .u64 s_0_1, .int .u64 s_0_2, .int .u64 s_0_3]] m R := by
  refine HC_of (fn := fn) (c := body) (od := od) (tb := tb) Go.Proofs.Tryd.func88 (by kernel_rfl) (by kernel_rfl) follows (by kernel_rfl) (of_decide_eq_true (by kernel_rfl)) ?_
  have he : (e0A R).erase = body := by kernel_rfl
  rw [← he]
  refine acpt_sound (P := P) (e0A R) _ _ _ ⟨⟨True.intro, ⟨(fun ρ m h => l1_ok  R ρ m h), True.intro⟩⟩, True.intro⟩ ?_
  exact Eq.mp (e0_eq s_0_0 s_0_1 s_0_2 s_0_3 R m) h
end class_Least
/-! ### (*eyot/class.reader).next -/
namespace class_reader_next
noncomputable def fn : Func := Go.Proofs.Tryd.f90
noncomputable def body : Code := fn.body.getD .skip
def od : Nat → Ord := fun | 1 => ordL [(0, 3), (1, 3), (2, 3), (3, 1), (4, 3), (5, 3), (6, 3), (7, 0), (8, 3), (9, 3)] .done | 2 => ordL [(0, 3), (1, 3), (2, 3), (3, 1), (4, 3), (5, 3), (6, 3), (7, 0), (8, 3), (9, 3)] .done | _ => .done
def tb : Nat → Tab := fun | 1 => (0, [0, 1, 3, 7, 0, 16, 48, 112, 240, 511], [(0, 1, 4), (1, 8, 5), (2, 16, 6), (4, 32, 7), (0, 1, 8), (16, 128, 9), (32, 256, 10), (64, 512, 11), (128, 1024, 12), (264, 2112, 13)]) | 2 => (0, [0, 1, 3, 7, 0, 16, 48, 112, 255, 511], [(0, 1, 14), (1, 8192, 15), (2, 16384, 16), (4, 32768, 17), (0, 1, 18), (16, 131072, 19), (32, 262144, 20), (64, 524288, 21), (136, 1114112, 22), (511, 2097152, 3)]) | _ => (0, [], [])
def e0 (r_0 : Option Addr) (R : Ending → Mem → Prop) (m : Mem) : Prop :=
 Sub m fun r1 =>
 NilC r_0 (fun x4b x4o =>
  LdV r1 x4b (x4o + 1) fun v =>
  UnI v .i64 fun x6 =>
  NilC r_0 (fun x8b x8o =>
   LdV m x8b x8o fun v =>
   UnStr v fun x10 =>
   Br (decide (x6 < (x10.size : Int))) (
    Sub m fun r2 =>
    NilC r_0 (fun x14b x14o =>
     LdV r2 x14b x14o fun v =>
     UnStr v fun x16 =>
     NilC r_0 (fun x18b x18o =>
      LdV m x18b (x18o + 1) fun v =>
      UnI v .i64 fun x20 =>
      IxB x16 x20 fun x21 =>
      R (.returned (.int .u8 x21)) m) (False)) (False)) (
    R (.returned (.int .u8 0)) m)) (False)) (False)
noncomputable def e0A (R : Ending → Mem → Prop) : ACode := (.code (body))
theorem e0_eq (r_0 : Option Addr) (R : Ending → Mem → Prop) (m : Mem) : e0 r_0 R m = acpt P od (panicR R) (e0A R) (bodyQ P fn R) (argE (#[.pointer r_0] : Array Value).toList) m := by kernel_rfl
theorem ok (r_0 : Option Addr) (R : Ending → Mem → Prop) (m : Mem) (h : e0 r_0 R m) : HC P id #[.pointer r_0] m R := by
  refine HC_of (fn := fn) (c := body) (od := od) (tb := tb) Go.Proofs.Tryd.func90 (by kernel_rfl) (by kernel_rfl) follows (by kernel_rfl) (of_decide_eq_true (by kernel_rfl)) ?_
  have he : (e0A R).erase = body := by kernel_rfl
  rw [← he]
  refine acpt_sound (P := P) (e0A R) _ _ _ True.intro ?_
  exact Eq.mp (e0_eq r_0 R m) h
end class_reader_next
/-! ### (*eyot/class.reader).take -/
namespace class_reader_take
noncomputable def fn : Func := Go.Proofs.Tryd.f91
noncomputable def body : Code := fn.body.getD .skip
def od : Nat → Ord := fun | 1 => ordL [(0, 3), (1, 3), (2, 3), (3, 1), (4, 3), (5, 3), (6, 3), (7, 0), (8, 3), (9, 3)] .done | 4 => ordL [(0, 3), (1, 3), (2, 3), (3, 1), (4, 3), (5, 3), (6, 3), (7, 0), (8, 3), (9, 3), (10, 3)] .done | _ => .done
def tb : Nat → Tab := fun | 1 => (0, [0, 1, 3, 7, 0, 16, 48, 112, 240, 511], [(0, 1, 4), (1, 8, 5), (2, 16, 6), (4, 32, 7), (0, 1, 8), (16, 128, 9), (32, 256, 10), (64, 512, 11), (128, 1024, 12), (264, 2112, 13)]) | 4 => (0, [0, 1, 3, 7, 0, 16, 48, 112, 240, 511, 1023], [(0, 1, 23), (1, 4194304, 24), (2, 8388608, 25), (4, 16777216, 26), (0, 1, 27), (16, 67108864, 28), (32, 134217728, 29), (64, 268435456, 30), (128, 536870912, 31), (264, 1107296256, 32), (1023, 2147483648, 3)]) | _ => (0, [], [])
def e0 (r_0 : Option Addr) (R : Ending → Mem → Prop) (m : Mem) : Prop :=
 Sub m fun r1 =>
 NilC r_0 (fun x4b x4o =>
  LdV r1 x4b (x4o + 1) fun v =>
  UnI v .i64 fun x6 =>
  NilC r_0 (fun x8b x8o =>
   LdV m x8b x8o fun v =>
   UnStr v fun x10 =>
   Br (decide (x6 ≥ (x10.size : Int))) (
    R (.panicked [{ v := .iface T_class_refusal (.agg #[]), recovered := false }]) m) (
    NilC r_0 (fun x16b x16o =>
     LdV m x16b (x16o + 1) fun v =>
     UnI v .i64 fun x18 =>
     NilC r_0 (fun x20b x20o =>
      St1 m x20b (x20o + 1) (.int .i64 (IntKind.i64.wrap (x18 + 1))) fun m2 =>
      Sub m2 fun r3 =>
      NilC r_0 (fun x23b x23o =>
       LdV r3 x23b x23o fun v =>
       UnStr v fun x25 =>
       NilC r_0 (fun x27b x27o =>
        LdV m2 x27b (x27o + 1) fun v =>
        UnI v .i64 fun x29 =>
        IxB x25 (IntKind.i64.wrap (x29 - 1)) fun x31 =>
        R (.returned (.int .u8 x31)) m2) (False)) (False)) (R (.panicked (nilPanic P)) m)) (R (.panicked (nilPanic P)) m))) (False)) (False)
noncomputable def e0A (R : Ending → Mem → Prop) : ACode := (.code (body))
theorem e0_eq (r_0 : Option Addr) (R : Ending → Mem → Prop) (m : Mem) : e0 r_0 R m = acpt P od (panicR R) (e0A R) (bodyQ P fn R) (argE (#[.pointer r_0] : Array Value).toList) m := by kernel_rfl
theorem ok (r_0 : Option Addr) (R : Ending → Mem → Prop) (m : Mem) (h : e0 r_0 R m) : HC P id #[.pointer r_0] m R := by
  refine HC_of (fn := fn) (c := body) (od := od) (tb := tb) Go.Proofs.Tryd.func91 (by kernel_rfl) (by kernel_rfl) follows (by kernel_rfl) (of_decide_eq_true (by kernel_rfl)) ?_
  have he : (e0A R).erase = body := by kernel_rfl
  rw [← he]
  refine acpt_sound (P := P) (e0A R) _ _ _ True.intro ?_
  exact Eq.mp (e0_eq r_0 R m) h
end class_reader_take
/-! ### (*eyot/class.reader).sign -/
namespace class_reader_sign
noncomputable def fn : Func := Go.Proofs.Tryd.f92
noncomputable def body : Code := fn.body.getD .skip
def od : Nat → Ord := fun _ => .done
def tb : Nat → Tab := fun _ => (0, [], [])
def e0 (r_0 : Option Addr) (R : Ending → Mem → Prop) (m : Mem) : Prop :=
 HC P class_reader_take.id #[.pointer r_0] m (Cont (fun v m1 =>
   UnI v .u8 fun x6 =>
   Br (x6 != 92) (
    Br (decide (x6 < 33)) (
     R (.panicked [{ v := .iface T_class_refusal (.agg #[]), recovered := false }]) m1) (
     Br (decide (x6 > 126)) (
      R (.panicked [{ v := .iface T_class_refusal (.agg #[]), recovered := false }]) m1) (
      HC P strings_IndexByte.id #[.string (ByteArray.mk #[92, 124, 42, 43, 63, 40, 41, 91, 93, 46, 94, 45]), .int .u8 x6] m1 (Cont (fun v m2 =>
        UnI v .i64 fun x17 =>
        Br (decide (x17 ≥ 0)) (
        R (.panicked [{ v := .iface T_class_refusal (.agg #[]), recovered := false }]) m2) (
        R (.returned (.int .u8 x6)) m2)) (panicR R))))) (
    HC P class_reader_take.id #[.pointer r_0] m1 (Cont (fun v m2 =>
      UnI v .u8 fun x24 =>
      Br (x24 == 120) (
       HC P class_reader_digit.id #[.pointer r_0] m2 (Cont (fun v m3 =>
        UnI v .u8 fun x28 =>
        HC P class_reader_digit.id #[.pointer r_0] m3 (Cont (fun v m4 =>
        UnI v .u8 fun x32 =>
        R (.returned (.int .u8 (bitsV .or .u8 (shlV .u8 x28 4) x32))) m4) (panicR R))) (panicR R))) (
       HC P strings_IndexByte.id #[.string (ByteArray.mk #[92, 124, 42, 43, 63, 40, 41, 91, 93, 46, 94, 45]), .int .u8 x24] m2 (Cont (fun v m3 =>
        UnI v .i64 fun x35 =>
        Br (decide (x35 < 0)) (
        R (.panicked [{ v := .iface T_class_refusal (.agg #[]), recovered := false }]) m3) (
        R (.returned (.int .u8 x24)) m3)) (panicR R)))) (panicR R)))) (panicR R))
noncomputable def e0A (R : Ending → Mem → Prop) : ACode := (.code (body))
theorem e0_eq (r_0 : Option Addr) (R : Ending → Mem → Prop) (m : Mem) : e0 r_0 R m = acpt P od (panicR R) (e0A R) (bodyQ P fn R) (argE (#[.pointer r_0] : Array Value).toList) m := by kernel_rfl
theorem ok (r_0 : Option Addr) (R : Ending → Mem → Prop) (m : Mem) (h : e0 r_0 R m) : HC P id #[.pointer r_0] m R := by
  refine HC_of (fn := fn) (c := body) (od := od) (tb := tb) Go.Proofs.Tryd.func92 (by kernel_rfl) (by kernel_rfl) follows (by kernel_rfl) (of_decide_eq_true (by kernel_rfl)) ?_
  have he : (e0A R).erase = body := by kernel_rfl
  rw [← he]
  refine acpt_sound (P := P) (e0A R) _ _ _ True.intro ?_
  exact Eq.mp (e0_eq r_0 R m) h
end class_reader_sign
/-! ### eyot/class.run -/
namespace class_run
noncomputable def fn : Func := Go.Proofs.Tryd.f93
noncomputable def body : Code := fn.body.getD .skip
def od : Nat → Ord := fun _ => .done
def tb : Nat → Tab := fun _ => (0, [], [])
def l1E (K : Int → Nat → Nat → Option Addr → Nat → Nat → Int → Mem → Prop) : Env → Mem → Prop := fun ρ m => UnI (ρ 1) .u8 fun b_1 => UnPA (ρ 4) fun x4b x4o => UnS (ρ 5) fun l_5a l_5l l_5c => UnI (ρ 6) .i64 fun c_6 => K b_1 x4b x4o l_5a l_5l l_5c c_6 m
def l1B  (K1 : Int → Nat → Nat → Option Addr → Nat → Nat → Int → Mem → Prop) (b_1 : Int) (x4b : Nat) (x4o : Nat) (l_5a : Option Addr) (l_5l : Nat) (l_5c : Nat) (c_6 : Int) (R : Ending → Mem → Prop) (m : Mem) : Prop :=
 Br (decide (c_6 ≤ (IntKind.i64.wrap b_1))) (
  NewC m #[.int .u8 (IntKind.u8.wrap c_6)] T_uint8 fun b18 m1 =>
  BiN P .append #[T_sl_uint8, T_sl_uint8] T_sl_uint8 #[false, false] #[.slice l_5a l_5l l_5c, .slice (some ⟨b18, 0, none⟩) 1 1] m1 (fun w m2 =>
   UnS w fun x19a x19l x19c =>
   K1 b_1 x4b x4o x19a x19l x19c (IntKind.i64.wrap (c_6 + 1)) m2) (panicR R)) (
  HC P class_Of.id #[.slice l_5a l_5l l_5c] m (Cont (fun v m1 =>
    UnAgg v fun l =>
    UnCons l fun v l =>
    UnI v .u64 fun x21_0 =>
    UnCons l fun v l =>
    UnI v .u64 fun x21_1 =>
    UnCons l fun v l =>
    UnI v .u64 fun x21_2 =>
    UnCons l fun v l =>
    UnI v .u64 fun x21_3 =>
    UnNil l (
     St1 m1 x4b x4o (.int .u64 x21_0) fun m2 =>
     St1 m2 x4b (x4o + 1) (.int .u64 x21_1) fun m3 =>
     St1 m3 x4b (x4o + 2) (.int .u64 x21_2) fun m4 =>
     St1 m4 x4b (x4o + 3) (.int .u64 x21_3) fun m5 =>
     LdV m5 x4b x4o fun v =>
     UnI v .u64 fun res0_0 =>
     LdV m5 x4b (x4o + 1) fun v =>
     UnI v .u64 fun res0_1 =>
     LdV m5 x4b (x4o + 2) fun v =>
     UnI v .u64 fun res0_2 =>
     LdV m5 x4b (x4o + 3) fun v =>
     UnI v .u64 fun res0_3 =>
     R (.returned (.agg #[.int .u64 res0_0, .int .u64 res0_1, .int .u64 res0_2, .int .u64 res0_3])) m5)) (panicR R)))
def l1  (b_1 : Int) (x4b : Nat) (x4o : Nat) (l_5a : Option Addr) (l_5l : Nat) (l_5c : Nat) (c_6 : Int) (R : Ending → Mem → Prop) (m : Mem) : Prop :=
  ∃ (I : Nat → Int → Nat → Nat → Option Addr → Nat → Nat → Int → Mem → Prop) (N : Nat), I N b_1 x4b x4o l_5a l_5l l_5c c_6 m ∧ ∀ N b_1 x4b x4o l_5a l_5l l_5c c_6 m, I N b_1 x4b x4o l_5a l_5l l_5c c_6 m → l1B  (fun b_1 x4b x4o l_5a l_5l l_5c c_6 m => ∃ N1, N1 < N ∧ I N1 b_1 x4b x4o l_5a l_5l l_5c c_6 m) b_1 x4b x4o l_5a l_5l l_5c c_6 R m
noncomputable def l1A  (K1 : Int → Nat → Nat → Option Addr → Nat → Nat → Int → Mem → Prop) (R : Ending → Mem → Prop) : ACode := (.code (lP (bB (sR (sL (sR (sR (body))))))))
def e0 (a_0 : Int) (b_1 : Int) (R : Ending → Mem → Prop) (m : Mem) : Prop :=
 NewC m #[.int .u64 0, .int .u64 0, .int .u64 0, .int .u64 0] T_api_Set fun b4 m1 =>
 l1  b_1 b4 0 none 0 0 (IntKind.i64.wrap a_0) R m1
noncomputable def e0A (R : Ending → Mem → Prop) : ACode := (.seq (.code (sL (body))) (.seq (.code (sL (sR (body)))) (.seq (.seq (.code (sL (sL (sR (sR (body)))))) (.block 0 (.cut (l1E fun b_1 x4b x4o l_5a l_5l l_5c c_6 m => l1  b_1 x4b x4o l_5a l_5l l_5c c_6 R m) (.loop (lP (bB (sR (sL (sR (sR (body))))))))))) (.code (sR (sR (sR (body))))))))
abbrev l1Q  (R : Ending → Mem → Prop) : Exit → Env → Mem → Prop := (blockQ 0 (thenQ (acpt P od (panicR R) (.code (sR (sR (sR (body))))) (bodyQ P fn R)) (bodyQ P fn R)))
theorem l1_eq  (K1 : Int → Nat → Nat → Option Addr → Nat → Nat → Int → Mem → Prop) (R : Ending → Mem → Prop) (b_1 : Int) (x4b : Nat) (x4o : Nat) (l_5a : Option Addr) (l_5l : Nat) (l_5c : Nat) (c_6 : Int) (ρ : Env) (m : Mem) : l1B  K1 b_1 x4b x4o l_5a l_5l l_5c c_6 R m = acpt P od (panicR R) (l1A  K1 R) (thenQ (l1E K1) (l1Q  R)) (upd (upd (upd (upd ρ 6 (.int .i64 c_6)) 5 (.slice l_5a l_5l l_5c)) 4 (.pointer (some ⟨x4b, x4o, none⟩))) 1 (.int .u8 b_1)) m := by kernel_rfl
theorem l1_er  (K1 : Int → Nat → Nat → Option Addr → Nat → Nat → Int → Mem → Prop) (R : Ending → Mem → Prop) : (l1A  K1 R).erase = lP (bB (sR (sL (sR (sR (body)))))) := by kernel_rfl
theorem l1_ok  (R : Ending → Mem → Prop) (ρ : Env) (m : Mem) (h : (l1E fun b_1 x4b x4o l_5a l_5l l_5c c_6 m => l1  b_1 x4b x4o l_5a l_5l l_5c c_6 R m) ρ m) : cpt P od (panicR R) (.loop (lP (bB (sR (sL (sR (sR (body)))))))) (l1Q  R) ρ m := by
  unfold l1E at h
  obtain ⟨b_1, e1, h⟩ := h.ex
  obtain ⟨x4b, x4o, e4, h⟩ := h.ex
  obtain ⟨l_5a, l_5l, l_5c, e5, h⟩ := h.ex
  obtain ⟨c_6, e6, h⟩ := h.ex
  obtain ⟨I, N, h0, hs⟩ := h
  refine ⟨fun N => l1E (I N), N, (by show l1E (I N) ρ m; unfold l1E; rw [e1, e4, e5, e6]; exact h0), ?_⟩
  clear h0 e1 e4 e5 e6
  intro N ρ m h
  unfold l1E at h
  obtain ⟨b_1, e1, h⟩ := h.ex
  obtain ⟨x4b, x4o, e4, h⟩ := h.ex
  obtain ⟨l_5a, l_5l, l_5c, e5, h⟩ := h.ex
  obtain ⟨c_6, e6, h⟩ := h.ex
  refine cpt_mono (P := P) (lP (bB (sR (sL (sR (sR (body))))))) (Q := thenQ (l1E fun b_1 x4b x4o l_5a l_5l l_5c c_6 m => ∃ N1, N1 < N ∧ I N1 b_1 x4b x4o l_5a l_5l l_5c c_6 m) (l1Q  R)) (fun e ρ m h => ?_) ρ m ?_
  · cases e with
    | normal =>
      have h : l1E (fun b_1 x4b x4o l_5a l_5l l_5c c_6 m => ∃ N1, N1 < N ∧ I N1 b_1 x4b x4o l_5a l_5l l_5c c_6 m) ρ m := h
      unfold l1E at h
      obtain ⟨b_1, e1, h⟩ := h.ex
      obtain ⟨x4b, x4o, e4, h⟩ := h.ex
      obtain ⟨l_5a, l_5l, l_5c, e5, h⟩ := h.ex
      obtain ⟨c_6, e6, h⟩ := h.ex
      obtain ⟨N1, hlt, h⟩ := h
      exact ⟨N1, hlt, (by show l1E (I N1) ρ m; unfold l1E; rw [e1, e4, e5, e6]; exact h)⟩
    | _ => exact h
  have hh := hs N b_1 x4b x4o l_5a l_5l l_5c c_6 m h
  generalize (fun b_1 x4b x4o l_5a l_5l l_5c c_6 m => ∃ N1, N1 < N ∧ I N1 b_1 x4b x4o l_5a l_5l l_5c c_6 m : Int → Nat → Nat → Option Addr → Nat → Nat → Int → Mem → Prop) = K1 at hh ⊢
  rw [← upd_self e1, ← upd_self e4, ← upd_self e5, ← upd_self e6]
  rw [← l1_er  K1 R]
  refine acpt_sound (P := P) (l1A  K1 R) _ _ _ True.intro ?_
  exact Eq.mp (l1_eq  K1 R b_1 x4b x4o l_5a l_5l l_5c c_6 ρ m) hh
theorem e0_eq (a_0 : Int) (b_1 : Int) (R : Ending → Mem → Prop) (m : Mem) : e0 a_0 b_1 R m = acpt P od (panicR R) (e0A R) (bodyQ P fn R) (argE (#[.int .u8 a_0, .int .u8 b_1] : Array Value).toList) m := by kernel_rfl
theorem ok (a_0 : Int) (b_1 : Int) (R : Ending → Mem → Prop) (m : Mem) (h : e0 a_0 b_1 R m) : HC P id #[.int .u8 a_0, .int .u8 b_1] m R := by
  refine HC_of (fn := fn) (c := body) (od := od) (tb := tb) Go.Proofs.Tryd.func93 (by kernel_rfl) (by kernel_rfl) follows (by kernel_rfl) (of_decide_eq_true (by kernel_rfl)) ?_
  have he : (e0A R).erase = body := by kernel_rfl
  rw [← he]
  refine acpt_sound (P := P) (e0A R) _ _ _ ⟨⟨⟨True.intro, ⟨(fun ρ m h => l1_ok  R ρ m h), True.intro⟩⟩, True.intro⟩, True.intro⟩ ?_
  exact Eq.mp (e0_eq a_0 b_1 R m) h
end class_run
/-! ### (*eyot/class.reader).part -/
namespace class_reader_part
noncomputable def fn : Func := Go.Proofs.Tryd.f94
noncomputable def body : Code := fn.body.getD .skip
def od : Nat → Ord := fun _ => .done
def tb : Nat → Tab := fun _ => (0, [], [])
def e0 (r_0 : Option Addr) (R : Ending → Mem → Prop) (m : Mem) : Prop :=
 NewC m #[.int .u64 0, .int .u64 0, .int .u64 0, .int .u64 0] T_api_Set fun b2 m1 =>
 HC P class_reader_sign.id #[.pointer r_0] m1 (Cont (fun v m2 =>
   UnI v .u8 fun x6 =>
   HC P class_reader_next.id #[.pointer r_0] m2 (Cont (fun v m3 =>
     UnI v .u8 fun x8 =>
     Br (x8 != 45) (
      HC P class_run.id #[.int .u8 x6, .int .u8 x6] m3 (Cont (fun v m4 =>
        UnAgg v fun l =>
        UnCons l fun v l =>
        UnI v .u64 fun x12_0 =>
        UnCons l fun v l =>
        UnI v .u64 fun x12_1 =>
        UnCons l fun v l =>
        UnI v .u64 fun x12_2 =>
        UnCons l fun v l =>
        UnI v .u64 fun x12_3 =>
        UnNil l (
        St1 m4 b2 0 (.int .u64 x12_0) fun m5 =>
        St1 m5 b2 1 (.int .u64 x12_1) fun m6 =>
        St1 m6 b2 2 (.int .u64 x12_2) fun m7 =>
        St1 m7 b2 3 (.int .u64 x12_3) fun m8 =>
        LdV m8 b2 0 fun v =>
        UnI v .u64 fun res0_0 =>
        LdV m8 b2 1 fun v =>
        UnI v .u64 fun res0_1 =>
        LdV m8 b2 2 fun v =>
        UnI v .u64 fun res0_2 =>
        LdV m8 b2 3 fun v =>
        UnI v .u64 fun res0_3 =>
        R (.returned (.agg #[.int .u64 res0_0, .int .u64 res0_1, .int .u64 res0_2, .int .u64 res0_3])) m8)) (panicR R))) (
      HC P class_reader_take.id #[.pointer r_0] m3 (Cont (fun v m4 =>
        UnI v .u8 fun x14 =>
        HC P class_reader_sign.id #[.pointer r_0] m4 (Cont (fun v m5 =>
        UnI v .u8 fun x16 =>
        Br (decide (x16 < x6)) (
        R (.panicked [{ v := .iface T_class_refusal (.agg #[]), recovered := false }]) m5) (
        HC P class_run.id #[.int .u8 x6, .int .u8 x16] m5 (Cont (fun v m6 =>
        UnAgg v fun l =>
        UnCons l fun v l =>
        UnI v .u64 fun x24_0 =>
        UnCons l fun v l =>
        UnI v .u64 fun x24_1 =>
        UnCons l fun v l =>
        UnI v .u64 fun x24_2 =>
        UnCons l fun v l =>
        UnI v .u64 fun x24_3 =>
        UnNil l (
        St1 m6 b2 0 (.int .u64 x24_0) fun m7 =>
        St1 m7 b2 1 (.int .u64 x24_1) fun m8 =>
        St1 m8 b2 2 (.int .u64 x24_2) fun m9 =>
        St1 m9 b2 3 (.int .u64 x24_3) fun m10 =>
        LdV m10 b2 0 fun v =>
        UnI v .u64 fun res0_0 =>
        LdV m10 b2 1 fun v =>
        UnI v .u64 fun res0_1 =>
        LdV m10 b2 2 fun v =>
        UnI v .u64 fun res0_2 =>
        LdV m10 b2 3 fun v =>
        UnI v .u64 fun res0_3 =>
        R (.returned (.agg #[.int .u64 res0_0, .int .u64 res0_1, .int .u64 res0_2, .int .u64 res0_3])) m10)) (panicR R)))) (panicR R))) (panicR R)))) (panicR R))) (panicR R))
noncomputable def e0A (R : Ending → Mem → Prop) : ACode := (.code (body))
theorem e0_eq (r_0 : Option Addr) (R : Ending → Mem → Prop) (m : Mem) : e0 r_0 R m = acpt P od (panicR R) (e0A R) (bodyQ P fn R) (argE (#[.pointer r_0] : Array Value).toList) m := by kernel_rfl
theorem ok (r_0 : Option Addr) (R : Ending → Mem → Prop) (m : Mem) (h : e0 r_0 R m) : HC P id #[.pointer r_0] m R := by
  refine HC_of (fn := fn) (c := body) (od := od) (tb := tb) Go.Proofs.Tryd.func94 (by kernel_rfl) (by kernel_rfl) follows (by kernel_rfl) (of_decide_eq_true (by kernel_rfl)) ?_
  have he : (e0A R).erase = body := by kernel_rfl
  rw [← he]
  refine acpt_sound (P := P) (e0A R) _ _ _ True.intro ?_
  exact Eq.mp (e0_eq r_0 R m) h
end class_reader_part
/-! ### eyot/class.Or -/
namespace class_Or
noncomputable def fn : Func := Go.Proofs.Tryd.f95
noncomputable def body : Code := fn.body.getD .skip
def od : Nat → Ord := fun _ => .done
def tb : Nat → Tab := fun _ => (0, [], [])
def e0 (a_0_0 : Int) (a_0_1 : Int) (a_0_2 : Int) (a_0_3 : Int) (b_1_0 : Int) (b_1_1 : Int) (b_1_2 : Int) (b_1_3 : Int) (R : Ending → Mem → Prop) (m : Mem) : Prop :=
 NewC m #[.int .u64 a_0_0, .int .u64 a_0_1, .int .u64 a_0_2, .int .u64 a_0_3] T_api_Set fun b_a_2 m1 =>
 NewC m1 #[.int .u64 b_1_0, .int .u64 b_1_1, .int .u64 b_1_2, .int .u64 b_1_3] T_api_Set fun b_3 m2 =>
 NewC m2 #[.int .u64 0, .int .u64 0, .int .u64 0, .int .u64 0] T_api_Set fun b4 m3 =>
 LdV m3 b_a_2 0 fun v =>
 UnI v .u64 fun x5_0 =>
 LdV m3 b_a_2 1 fun v =>
 UnI v .u64 fun x5_1 =>
 LdV m3 b_a_2 2 fun v =>
 UnI v .u64 fun x5_2 =>
 LdV m3 b_a_2 3 fun v =>
 UnI v .u64 fun x5_3 =>
 LdV m3 b_3 0 fun v =>
 UnI v .u64 fun x6_0 =>
 LdV m3 b_3 1 fun v =>
 UnI v .u64 fun x6_1 =>
 LdV m3 b_3 2 fun v =>
 UnI v .u64 fun x6_2 =>
 LdV m3 b_3 3 fun v =>
 UnI v .u64 fun x6_3 =>
 HC P class_with.id #[.agg #[.int .u64 x5_0, .int .u64 x5_1, .int .u64 x5_2, .int .u64 x5_3], .agg #[.int .u64 x6_0, .int .u64 x6_1, .int .u64 x6_2, .int .u64 x6_3], .func (.func class_Or_1.id) #[] #[]] m3 (Cont (fun v m4 =>
   UnAgg v fun l =>
   UnCons l fun v l =>
   UnI v .u64 fun x7_0 =>
   UnCons l fun v l =>
   UnI v .u64 fun x7_1 =>
   UnCons l fun v l =>
   UnI v .u64 fun x7_2 =>
   UnCons l fun v l =>
   UnI v .u64 fun x7_3 =>
   UnNil l (
    St1 m4 b4 0 (.int .u64 x7_0) fun m5 =>
    St1 m5 b4 1 (.int .u64 x7_1) fun m6 =>
    St1 m6 b4 2 (.int .u64 x7_2) fun m7 =>
    St1 m7 b4 3 (.int .u64 x7_3) fun m8 =>
    LdV m8 b4 0 fun v =>
    UnI v .u64 fun res0_0 =>
    LdV m8 b4 1 fun v =>
    UnI v .u64 fun res0_1 =>
    LdV m8 b4 2 fun v =>
    UnI v .u64 fun res0_2 =>
    LdV m8 b4 3 fun v =>
    UnI v .u64 fun res0_3 =>
    R (.returned (.agg #[.int .u64 res0_0, .int .u64 res0_1, .int .u64 res0_2, .int .u64 res0_3])) m8)) (panicR R))
noncomputable def e0A (R : Ending → Mem → Prop) : ACode := (.code (body))
theorem e0_eq (a_0_0 : Int) (a_0_1 : Int) (a_0_2 : Int) (a_0_3 : Int) (b_1_0 : Int) (b_1_1 : Int) (b_1_2 : Int) (b_1_3 : Int) (R : Ending → Mem → Prop) (m : Mem) : e0 a_0_0 a_0_1 a_0_2 a_0_3 b_1_0 b_1_1 b_1_2 b_1_3 R m = acpt P od (panicR R) (e0A R) (bodyQ P fn R) (argE (#[.agg #[.int .u64 a_0_0, .int .u64 a_0_1, .int .u64 a_0_2, .int .u64 a_0_3], .agg #[.int .u64 b_1_0, .int .u64 b_1_1, .int .u64 b_1_2, .int .u64 b_1_3]] : Array Value).toList) m := by kernel_rfl
theorem ok (a_0_0 : Int) (a_0_1 : Int) (a_0_2 : Int) (a_0_3 : Int) (b_1_0 : Int) (b_1_1 : Int) (b_1_2 : Int) (b_1_3 : Int) (R : Ending → Mem → Prop) (m : Mem) (h : e0 a_0_0 a_0_1 a_0_2 a_0_3 b_1_0 b_1_1 b_1_2 b_1_3 R m) : HC P id #[.agg #[.int .u64 a_0_0, .int .u64 a_0_1, .int .u64 a_0_2, .int .u64 a_0_3], .agg #[.int .u64 b_1_0, .int .u64 b_1_1, .int .u64 b_1_2, .int .u64 b_1_3]] m R := by
  refine HC_of (fn := fn) (c := body) (od := od) (tb := tb) Go.Proofs.Tryd.func95 (by kernel_rfl) (by kernel_rfl) follows (by kernel_rfl) (of_decide_eq_true (by kernel_rfl)) ?_
  have he : (e0A R).erase = body := by kernel_rfl
  rw [← he]
  refine acpt_sound (P := P) (e0A R) _ _ _ True.intro ?_
  exact Eq.mp (e0_eq a_0_0 a_0_1 a_0_2 a_0_3 b_1_0 b_1_1 b_1_2 b_1_3 R m) h
end class_Or
/-! ### math/bits.TrailingZeros64 -/
namespace math_bits_TrailingZeros64
noncomputable def fn : Func := Go.Proofs.Tryd.f96
noncomputable def body : Code := fn.body.getD .skip
def od : Nat → Ord := fun _ => .done
def tb : Nat → Tab := fun _ => (0, [], [])
def e0 (x_0 : Int) (R : Ending → Mem → Prop) (m : Mem) : Prop :=
 Br (x_0 == 0) (
  R (.returned (.int .i64 64)) m) (
  0 ≤ (shrV .u64 (IntKind.u64.wrap ((bitsV .and .u64 x_0 (IntKind.u64.wrap (0 - x_0))) * 285870213051353865)) 58 : Int) ∧ (shrV .u64 (IntKind.u64.wrap ((bitsV .and .u64 x_0 (IntKind.u64.wrap (0 - x_0))) * 285870213051353865)) 58 : Int) < (64 : Nat) ∧ (
   LdV m 1 (0 + (shrV .u64 (IntKind.u64.wrap ((bitsV .and .u64 x_0 (IntKind.u64.wrap (0 - x_0))) * 285870213051353865)) 58 : Int).toNat * 1) fun v =>
   UnI v .u8 fun x12 =>
   R (.returned (.int .i64 (IntKind.i64.wrap x12))) m))
noncomputable def e0A (R : Ending → Mem → Prop) : ACode := (.code (body))
theorem e0_eq (x_0 : Int) (R : Ending → Mem → Prop) (m : Mem) : e0 x_0 R m = acpt P od (panicR R) (e0A R) (bodyQ P fn R) (argE (#[.int .u64 x_0] : Array Value).toList) m := by kernel_rfl
theorem ok (x_0 : Int) (R : Ending → Mem → Prop) (m : Mem) (h : e0 x_0 R m) : HC P id #[.int .u64 x_0] m R := by
  refine HC_of (fn := fn) (c := body) (od := od) (tb := tb) Go.Proofs.Tryd.func96 (by kernel_rfl) (by kernel_rfl) follows (by kernel_rfl) (of_decide_eq_true (by kernel_rfl)) ?_
  have he : (e0A R).erase = body := by kernel_rfl
  rw [← he]
  refine acpt_sound (P := P) (e0A R) _ _ _ True.intro ?_
  exact Eq.mp (e0_eq x_0 R m) h
end math_bits_TrailingZeros64
end
end Go.E
set_option linter.unusedVariables false
set_option maxRecDepth 100000
namespace Go.E
open Go.H
noncomputable section
/-! ### (*eyot/class.reader).digit -/
namespace class_reader_digit
noncomputable def fn : Func := Go.Proofs.Tryd.f98
noncomputable def body : Code := fn.body.getD .skip
def od : Nat → Ord := fun _ => .done
def tb : Nat → Tab := fun _ => (0, [], [])
def e0 (r_0 : Option Addr) (R : Ending → Mem → Prop) (m : Mem) : Prop :=
 HC P class_reader_take.id #[.pointer r_0] m (Cont (fun v m1 =>
   UnI v .u8 fun x5 =>
   HC P strings_IndexByte.id #[.string (ByteArray.mk #[48, 49, 50, 51, 52, 53, 54, 55, 56, 57, 97, 98, 99, 100, 101, 102]), .int .u8 x5] m1 (Cont (fun v m2 =>
     UnI v .i64 fun x6 =>
     Br (decide (x6 < 0)) (
      R (.panicked [{ v := .iface T_class_refusal (.agg #[]), recovered := false }]) m2) (
      R (.returned (.int .u8 (IntKind.u8.wrap x6))) m2)) (panicR R))) (panicR R))
noncomputable def e0A (R : Ending → Mem → Prop) : ACode := (.code (body))
theorem e0_eq (r_0 : Option Addr) (R : Ending → Mem → Prop) (m : Mem) : e0 r_0 R m = acpt P od (panicR R) (e0A R) (bodyQ P fn R) (argE (#[.pointer r_0] : Array Value).toList) m := by kernel_rfl
theorem ok (r_0 : Option Addr) (R : Ending → Mem → Prop) (m : Mem) (h : e0 r_0 R m) : HC P id #[.pointer r_0] m R := by
  refine HC_of (fn := fn) (c := body) (od := od) (tb := tb) Go.Proofs.Tryd.func98 (by kernel_rfl) (by kernel_rfl) follows (by kernel_rfl) (of_decide_eq_true (by kernel_rfl)) ?_
  have he : (e0A R).erase = body := by kernel_rfl
  rw [← he]
  refine acpt_sound (P := P) (e0A R) _ _ _ True.intro ?_
  exact Eq.mp (e0_eq r_0 R m) h
end class_reader_digit
/-! ### eyot/class.Of -/
namespace class_Of
noncomputable def fn : Func := Go.Proofs.Tryd.f99
noncomputable def body : Code := fn.body.getD .skip
def od : Nat → Ord := fun _ => .done
def tb : Nat → Tab := fun _ => (0, [], [])
def l1E (K : Nat → Nat → Nat → Nat → Option Addr → Nat → Nat → Int → Int → Mem → Prop) : Env → Mem → Prop := fun ρ m => UnPA (ρ 2) fun x2b x2o => UnPA (ρ 3) fun s_3b s_3o => UnS (ρ 6) fun x6a x6l x6c => UnI (ρ 7) .i64 fun x7 => UnI (ρ 8) .i64 fun x8 => K x2b x2o s_3b s_3o x6a x6l x6c x7 x8 m
def l1B  (K1 : Nat → Nat → Nat → Nat → Option Addr → Nat → Nat → Int → Int → Mem → Prop) (x2b : Nat) (x2o : Nat) (s_3b : Nat) (s_3o : Nat) (x6a : Option Addr) (x6l : Nat) (x6c : Nat) (x7 : Int) (x8 : Int) (R : Ending → Mem → Prop) (m : Mem) : Prop :=
 Br (decide (x8 < x7)) (
  IxS x6a x6l x8 1 fun x10b x10o =>
  LdV m x10b x10o fun v =>
  UnI v .u8 fun x11 =>
  0 ≤ (IntKind.u8.wrap (Int.tdiv x11 64) : Int) ∧ (IntKind.u8.wrap (Int.tdiv x11 64) : Int) < (4 : Nat) ∧ (
   LdV m s_3b (s_3o + (IntKind.u8.wrap (Int.tdiv x11 64) : Int).toNat * 1) fun v =>
   UnI v .u64 fun x15 =>
   NnI (Int.tmod x11 64) (
    0 ≤ (IntKind.u8.wrap (Int.tdiv x11 64) : Int) ∧ (IntKind.u8.wrap (Int.tdiv x11 64) : Int) < (4 : Nat) ∧ (
     St1 m s_3b (s_3o + (IntKind.u8.wrap (Int.tdiv x11 64) : Int).toNat * 1) (.int .u64 (bitsV .or .u64 x15 (shlV .u64 1 (Int.tmod x11 64)))) fun m1 =>
     K1 x2b x2o s_3b s_3o x6a x6l x6c x7 (IntKind.i64.wrap (x8 + 1)) m1)))) (
  LdV m s_3b s_3o fun v =>
  UnI v .u64 fun x22_0 =>
  LdV m s_3b (s_3o + 1) fun v =>
  UnI v .u64 fun x22_1 =>
  LdV m s_3b (s_3o + 2) fun v =>
  UnI v .u64 fun x22_2 =>
  LdV m s_3b (s_3o + 3) fun v =>
  UnI v .u64 fun x22_3 =>
  St1 m x2b x2o (.int .u64 x22_0) fun m1 =>
  St1 m1 x2b (x2o + 1) (.int .u64 x22_1) fun m2 =>
  St1 m2 x2b (x2o + 2) (.int .u64 x22_2) fun m3 =>
  St1 m3 x2b (x2o + 3) (.int .u64 x22_3) fun m4 =>
  LdV m4 x2b x2o fun v =>
  UnI v .u64 fun res0_0 =>
  LdV m4 x2b (x2o + 1) fun v =>
  UnI v .u64 fun res0_1 =>
  LdV m4 x2b (x2o + 2) fun v =>
  UnI v .u64 fun res0_2 =>
  LdV m4 x2b (x2o + 3) fun v =>
  UnI v .u64 fun res0_3 =>
  R (.returned (.agg #[.int .u64 res0_0, .int .u64 res0_1, .int .u64 res0_2, .int .u64 res0_3])) m4)
def l1  (x2b : Nat) (x2o : Nat) (s_3b : Nat) (s_3o : Nat) (x6a : Option Addr) (x6l : Nat) (x6c : Nat) (x7 : Int) (x8 : Int) (R : Ending → Mem → Prop) (m : Mem) : Prop :=
  ∃ (I : Nat → Nat → Nat → Nat → Nat → Option Addr → Nat → Nat → Int → Int → Mem → Prop) (N : Nat), I N x2b x2o s_3b s_3o x6a x6l x6c x7 x8 m ∧ ∀ N x2b x2o s_3b s_3o x6a x6l x6c x7 x8 m, I N x2b x2o s_3b s_3o x6a x6l x6c x7 x8 m → l1B  (fun x2b x2o s_3b s_3o x6a x6l x6c x7 x8 m => ∃ N1, N1 < N ∧ I N1 x2b x2o s_3b s_3o x6a x6l x6c x7 x8 m) x2b x2o s_3b s_3o x6a x6l x6c x7 x8 R m
noncomputable def l1A  (K1 : Nat → Nat → Nat → Nat → Option Addr → Nat → Nat → Int → Int → Mem → Prop) (R : Ending → Mem → Prop) : ACode := (.code (lP (bB (sR (sL (sR (sR (body))))))))
def e0 (l_0a : Option Addr) (l_0l : Nat) (l_0c : Nat) (R : Ending → Mem → Prop) (m : Mem) : Prop :=
 NewC m #[.int .u64 0, .int .u64 0, .int .u64 0, .int .u64 0] T_api_Set fun b2 m1 =>
 NewC m1 #[.int .u64 0, .int .u64 0, .int .u64 0, .int .u64 0] T_api_Set fun b_s_3 m2 =>
 l1  b2 0 b_s_3 0 l_0a l_0l l_0c ((l_0l : Nat) : Int) 0 R m2
noncomputable def e0A (R : Ending → Mem → Prop) : ACode := (.seq (.code (sL (body))) (.seq (.code (sL (sR (body)))) (.seq (.seq (.code (sL (sL (sR (sR (body)))))) (.block 0 (.cut (l1E fun x2b x2o s_3b s_3o x6a x6l x6c x7 x8 m => l1  x2b x2o s_3b s_3o x6a x6l x6c x7 x8 R m) (.loop (lP (bB (sR (sL (sR (sR (body))))))))))) (.code (sR (sR (sR (body))))))))
abbrev l1Q  (R : Ending → Mem → Prop) : Exit → Env → Mem → Prop := (blockQ 0 (thenQ (acpt P od (panicR R) (.code (sR (sR (sR (body))))) (bodyQ P fn R)) (bodyQ P fn R)))
theorem l1_eq  (K1 : Nat → Nat → Nat → Nat → Option Addr → Nat → Nat → Int → Int → Mem → Prop) (R : Ending → Mem → Prop) (x2b : Nat) (x2o : Nat) (s_3b : Nat) (s_3o : Nat) (x6a : Option Addr) (x6l : Nat) (x6c : Nat) (x7 : Int) (x8 : Int) (ρ : Env) (m : Mem) : l1B  K1 x2b x2o s_3b s_3o x6a x6l x6c x7 x8 R m = acpt P od (panicR R) (l1A  K1 R) (thenQ (l1E K1) (l1Q  R)) (upd (upd (upd (upd (upd ρ 8 (.int .i64 x8)) 7 (.int .i64 x7)) 6 (.slice x6a x6l x6c)) 3 (.pointer (some ⟨s_3b, s_3o, none⟩))) 2 (.pointer (some ⟨x2b, x2o, none⟩))) m := by kernel_rfl
theorem l1_er  (K1 : Nat → Nat → Nat → Nat → Option Addr → Nat → Nat → Int → Int → Mem → Prop) (R : Ending → Mem → Prop) : (l1A  K1 R).erase = lP (bB (sR (sL (sR (sR (body)))))) := by kernel_rfl
theorem l1_ok  (R : Ending → Mem → Prop) (ρ : Env) (m : Mem) (h : (l1E fun x2b x2o s_3b s_3o x6a x6l x6c x7 x8 m => l1  x2b x2o s_3b s_3o x6a x6l x6c x7 x8 R m) ρ m) : cpt P od (panicR R) (.loop (lP (bB (sR (sL (sR (sR (body)))))))) (l1Q  R) ρ m := by
  unfold l1E at h
  obtain ⟨x2b, x2o, e2, h⟩ := h.ex
  obtain ⟨s_3b, s_3o, e3, h⟩ := h.ex
  obtain ⟨x6a, x6l, x6c, e6, h⟩ := h.ex
  obtain ⟨x7, e7, h⟩ := h.ex
  obtain ⟨x8, e8, h⟩ := h.ex
  obtain ⟨I, N, h0, hs⟩ := h
  refine ⟨fun N => l1E (I N), N, (by show l1E (I N) ρ m; unfold l1E; rw [e2, e3, e6, e7, e8]; exact h0), ?_⟩
  clear h0 e2 e3 e6 e7 e8
  intro N ρ m h
  unfold l1E at h
  obtain ⟨x2b, x2o, e2, h⟩ := h.ex
  obtain ⟨s_3b, s_3o, e3, h⟩ := h.ex
  obtain ⟨x6a, x6l, x6c, e6, h⟩ := h.ex
  obtain ⟨x7, e7, h⟩ := h.ex
  obtain ⟨x8, e8, h⟩ := h.ex
  refine cpt_mono (P := P) (lP (bB (sR (sL (sR (sR (body))))))) (Q := thenQ (l1E fun x2b x2o s_3b s_3o x6a x6l x6c x7 x8 m => ∃ N1, N1 < N ∧ I N1 x2b x2o s_3b s_3o x6a x6l x6c x7 x8 m) (l1Q  R)) (fun e ρ m h => ?_) ρ m ?_
  · cases e with
    | normal =>
      have h : l1E (fun x2b x2o s_3b s_3o x6a x6l x6c x7 x8 m => ∃ N1, N1 < N ∧ I N1 x2b x2o s_3b s_3o x6a x6l x6c x7 x8 m) ρ m := h
      unfold l1E at h
      obtain ⟨x2b, x2o, e2, h⟩ := h.ex
      obtain ⟨s_3b, s_3o, e3, h⟩ := h.ex
      obtain ⟨x6a, x6l, x6c, e6, h⟩ := h.ex
      obtain ⟨x7, e7, h⟩ := h.ex
      obtain ⟨x8, e8, h⟩ := h.ex
      obtain ⟨N1, hlt, h⟩ := h
      exact ⟨N1, hlt, (by show l1E (I N1) ρ m; unfold l1E; rw [e2, e3, e6, e7, e8]; exact h)⟩
    | _ => exact h
  have hh := hs N x2b x2o s_3b s_3o x6a x6l x6c x7 x8 m h
  generalize (fun x2b x2o s_3b s_3o x6a x6l x6c x7 x8 m => ∃ N1, N1 < N ∧ I N1 x2b x2o s_3b s_3o x6a x6l x6c x7 x8 m : Nat → Nat → Nat → Nat → Option Addr → Nat → Nat → Int → Int → Mem → Prop) = K1 at hh ⊢
  rw [← upd_self e2, ← upd_self e3, ← upd_self e6, ← upd_self e7, ← upd_self e8]
  rw [← l1_er  K1 R]
  refine acpt_sound (P := P) (l1A  K1 R) _ _ _ True.intro ?_
  exact Eq.mp (l1_eq  K1 R x2b x2o s_3b s_3o x6a x6l x6c x7 x8 ρ m) hh
theorem e0_eq (l_0a : Option Addr) (l_0l : Nat) (l_0c : Nat) (R : Ending → Mem → Prop) (m : Mem) : e0 l_0a l_0l l_0c R m = acpt P od (panicR R) (e0A R) (bodyQ P fn R) (argE (#[.slice l_0a l_0l l_0c] : Array Value).toList) m := by kernel_rfl
theorem ok (l_0a : Option Addr) (l_0l : Nat) (l_0c : Nat) (R : Ending → Mem → Prop) (m : Mem) (h : e0 l_0a l_0l l_0c R m) : HC P id #[.slice l_0a l_0l l_0c] m R := by
  refine HC_of (fn := fn) (c := body) (od := od) (tb := tb) Go.Proofs.Tryd.func99 (by kernel_rfl) (by kernel_rfl) follows (by kernel_rfl) (of_decide_eq_true (by kernel_rfl)) ?_
  have he : (e0A R).erase = body := by kernel_rfl
  rw [← he]
  refine acpt_sound (P := P) (e0A R) _ _ _ ⟨⟨⟨True.intro, ⟨(fun ρ m h => l1_ok  R ρ m h), True.intro⟩⟩, True.intro⟩, True.intro⟩ ?_
  exact Eq.mp (e0_eq l_0a l_0l l_0c R m) h
end class_Of
/-! ### eyot/class.Or$1 -/
namespace class_Or_1
noncomputable def fn : Func := Go.Proofs.Tryd.f100
noncomputable def body : Code := fn.body.getD .skip
def od : Nat → Ord := fun _ => .done
def tb : Nat → Tab := fun _ => (0, [], [])
def e0 (x_0 : Int) (y_1 : Int) (R : Ending → Mem → Prop) (m : Mem) : Prop :=
 R (.returned (.int .u64 (bitsV .or .u64 x_0 y_1))) m
noncomputable def e0A (R : Ending → Mem → Prop) : ACode := (.code (body))
theorem e0_eq (x_0 : Int) (y_1 : Int) (R : Ending → Mem → Prop) (m : Mem) : e0 x_0 y_1 R m = acpt P od (panicR R) (e0A R) (bodyQ P fn R) (argE (#[.int .u64 x_0, .int .u64 y_1] : Array Value).toList) m := by kernel_rfl
theorem ok (x_0 : Int) (y_1 : Int) (R : Ending → Mem → Prop) (m : Mem) (h : e0 x_0 y_1 R m) : HC P id #[.int .u64 x_0, .int .u64 y_1] m R := by
  refine HC_of (fn := fn) (c := body) (od := od) (tb := tb) Go.Proofs.Tryd.func100 (by kernel_rfl) (by kernel_rfl) follows (by kernel_rfl) (of_decide_eq_true (by kernel_rfl)) ?_
  have he : (e0A R).erase = body := by kernel_rfl
  rw [← he]
  refine acpt_sound (P := P) (e0A R) _ _ _ True.intro ?_
  exact Eq.mp (e0_eq x_0 y_1 R m) h
end class_Or_1
end
end Go.E
set_option linter.unusedVariables false
namespace Go.E
open Go.H
theorem eU8 : ElemOK P T_sl_uint8 T_uint8 (.int .u8 0) 1 1 := .of (by kernel_rfl) (by kernel_rfl) rfl
end Go.E
set_option linter.unusedVariables false
set_option linter.unusedSimpArgs false
namespace Go.E
open Go.H
attribute [local irreducible] BiN MkS ConvN LookN MapUpN CallV HC
theorem St1.four {m : Mem} {b : Nat} {x0 x1 x2 x3 u0 u1 u2 u3 : Value} {e : TypeId} {K : Mem → Prop} (h : m b = some (.cells #[x0, x1, x2, x3] e (0, 0))) (h0 : notOne u0 = false) (h1 : notOne u1 = false) (h2 : notOne u2 = false) (h3 : notOne u3 = false)
    (k : K (m.set b (.cells #[u0, u1, u2, u3] e (0, 0)))) : St1 m b 0 u0 fun m1 => St1 m1 b 1 u1 fun m2 => St1 m2 b 2 u2 fun m3 => St1 m3 b 3 u3 K := by
  refine St1.to #[u0, x1, x2, x3] h (by simp) h0 rfl ?_
  refine St1.to #[u0, u1, x2, x3] (set_same _ _ _) (by simp) h1 rfl ?_
  rw [set_set]
  refine St1.to #[u0, u1, u2, x3] (set_same _ _ _) (by simp) h2 rfl ?_
  rw [set_set]
  refine St1.to #[u0, u1, u2, u3] (set_same _ _ _) (by simp) h3 rfl ?_
  rw [set_set]
  exact k
theorem get4 {m : Mem} {b : Nat} {u0 u1 u2 u3 : Int} {e : TypeId} {fr : Nat × Nat} {K : Int → Int → Int → Int → Prop} (h : m b = some (.cells #[.int .u64 u0, .int .u64 u1, .int .u64 u2, .int .u64 u3] e fr)) (k : K u0 u1 u2 u3) :
    LdV m b 0 fun v => UnI v .u64 fun x0 => LdV m b 1 fun v => UnI v .u64 fun x1 => LdV m b 2 fun v => UnI v .u64 fun x2 => LdV m b 3 fun v => UnI v .u64 fun x3 => K x0 x1 x2 x3 :=
  LdV.s0 h (LdV.s1 h (LdV.s2 h (LdV.s3 h k)))
theorem put4 {m : Mem} {b : Nat} {x0 x1 x2 x3 : Value} {u0 u1 u2 u3 : Int} {e : TypeId} {K : Mem → Prop} (h : m b = some (.cells #[x0, x1, x2, x3] e (0, 0)))
    (k : K (m.set b (.cells #[.int .u64 u0, .int .u64 u1, .int .u64 u2, .int .u64 u3] e (0, 0)))) : St1 m b 0 (.int .u64 u0) fun m1 => St1 m1 b 1 (.int .u64 u1) fun m2 => St1 m2 b 2 (.int .u64 u2) fun m3 => St1 m3 b 3 (.int .u64 u3) K :=
  St1.four h rfl rfl rfl rfl k
/-- A result is stored into its own place and read back. -/
theorem out4 {m : Mem} {b : Nat} {x0 x1 x2 x3 : Value} {u0 u1 u2 u3 : Int} {e : TypeId} {K : Int → Int → Int → Int → Mem → Prop} (h : m b = some (.cells #[x0, x1, x2, x3] e (0, 0)))
    (k : K u0 u1 u2 u3 (m.set b (.cells #[.int .u64 u0, .int .u64 u1, .int .u64 u2, .int .u64 u3] e (0, 0)))) :
    St1 m b 0 (.int .u64 u0) fun m1 => St1 m1 b 1 (.int .u64 u1) fun m2 => St1 m2 b 2 (.int .u64 u2) fun m3 => St1 m3 b 3 (.int .u64 u3) fun m4 =>
    LdV m4 b 0 fun v => UnI v .u64 fun x0 => LdV m4 b 1 fun v => UnI v .u64 fun x1 => LdV m4 b 2 fun v => UnI v .u64 fun x2 => LdV m4 b 3 fun v => UnI v .u64 fun x3 => K x0 x1 x2 x3 m4 :=
  put4 h (get4 (set_same _ _ _) k)
theorem UnSet.mk {u0 u1 u2 u3 : Int} {K : Int → Int → Int → Int → Prop} (k : K u0 u1 u2 u3) :
    UnAgg (.agg #[.int .u64 u0, .int .u64 u1, .int .u64 u2, .int .u64 u3]) fun l => UnCons l fun v l => UnI v .u64 fun x0 => UnCons l fun v l => UnI v .u64 fun x1 => UnCons l fun v l => UnI v .u64 fun x2 => UnCons l fun v l => UnI v .u64 fun x3 => UnNil l (K x0 x1 x2 x3) := k
theorem ContSet.mk {u0 u1 u2 u3 : Int} {K : Int → Int → Int → Int → Mem → Prop} {Pn : List PanicEntry → Mem → Prop} {m : Mem} (k : K u0 u1 u2 u3 m) :
    Cont (fun v m => UnAgg v fun l => UnCons l fun v l => UnI v .u64 fun x0 => UnCons l fun v l => UnI v .u64 fun x1 => UnCons l fun v l => UnI v .u64 fun x2 => UnCons l fun v l => UnI v .u64 fun x3 => UnNil l (K x0 x1 x2 x3 m)) Pn
      (.returned (.agg #[.int .u64 u0, .int .u64 u1, .int .u64 u2, .int .u64 u3])) m := k
theorem with_spec {fid : FuncId} {op : Int → Int → Int} (hop : ∀ (m : Mem) (x y : Int) (R : Ending → Mem → Prop), R (.returned (.int .u64 (op x y))) m → HC P fid #[.int .u64 x, .int .u64 y] m R)
    {a0 a1 a2 a3 b0 b1 b2 b3 : Int} {m : Mem} {R : Ending → Mem → Prop}
    (h : ∀ m', Le m m' → R (.returned (.agg #[.int .u64 (op a0 b0), .int .u64 (op a1 b1), .int .u64 (op a2 b2), .int .u64 (op a3 b3)])) m') :
    HC P class_with.id #[.agg #[.int .u64 a0, .int .u64 a1, .int .u64 a2, .int .u64 a3], .agg #[.int .u64 b0, .int .u64 b1, .int .u64 b2, .int .u64 b3], .func (.func fid) #[] #[]] m R := by
  refine class_with.ok _ _ _ _ _ _ _ _ _ _ _ ?_
  intro ba hba bb hbb b6 hb6
  have hx1 : Le m (m.set ba (.cells #[.int .u64 a0, .int .u64 a1, .int .u64 a2, .int .u64 a3] T_api_Set (0, 0))) := Le.set hba _
  have hne1 : bb ≠ ba := fun e => by subst e; rw [set_same] at hbb; cases hbb
  have hne2 : b6 ≠ bb := fun e => by subst e; rw [set_same] at hb6; cases hb6
  have hne3 : b6 ≠ ba := fun e => by subst e; rw [set_other _ _ hne1.symm, set_same] at hb6; cases hb6
  have hmb : m bb = none := by rw [set_other _ _ hne1] at hbb; exact hbb
  have hm6 : m b6 = none := by rw [set_other _ _ hne2, set_other _ _ hne3] at hb6; exact hb6
  let W : Nat → Nat → Int → Int → Int := fun i j x y => if j < i then op x y else x
  refine ⟨fun N f a3b a3o b4b b4o x6b x6o i mm => f = .func (.func fid) #[] #[] ∧ a3b = ba ∧ a3o = 0 ∧ b4b = bb ∧ b4o = 0 ∧ x6b = b6 ∧ x6o = 0 ∧ ∃ k : Nat, i = k ∧ N = 4 - k ∧ k ≤ 4 ∧
    mm ba = some (.cells #[.int .u64 (W k 0 a0 b0), .int .u64 (W k 1 a1 b1), .int .u64 (W k 2 a2 b2), .int .u64 (W k 3 a3 b3)] T_api_Set (0, 0)) ∧
    mm bb = some (.cells #[.int .u64 b0, .int .u64 b1, .int .u64 b2, .int .u64 b3] T_api_Set (0, 0)) ∧ mm b6 = some (.cells #[.int .u64 0, .int .u64 0, .int .u64 0, .int .u64 0] T_api_Set (0, 0)) ∧ Le m mm, 4,
    ⟨rfl, rfl, rfl, rfl, rfl, rfl, rfl, 0, rfl, rfl, by omega, ?_, ?_, set_same _ _ _, ?_⟩, ?_⟩
  · rw [set_other _ _ hne3.symm, set_other _ _ hne1.symm, set_same]; rfl
  · rw [set_other _ _ hne2.symm, set_same]
  · exact (hx1.trans (Le.set hbb _)).trans (Le.set hb6 _)
  rintro N f a3b a3o b4b b4o x6b x6o i mm ⟨rfl, rfl, rfl, rfl, rfl, rfl, rfl, k, rfl, rfl, hk4, hA, hB, h6, hle⟩
  refine BrD (fun hlt => ?_) (fun hge => ?_)
  · have hk : k < 4 := by omega
    refine ⟨mm, Le.refl _, ?_⟩
    refine ⟨by omega, by omega, ?_⟩
    have hk' : k = 0 ∨ k = 1 ∨ k = 2 ∨ k = 3 := by omega
    rcases hk' with rfl | rfl | rfl | rfl
    · refine LdV.of hA rfl ?_
      refine ⟨by omega, by omega, ?_⟩
      refine LdV.of hB rfl ?_
      refine CallV.of ?_
      refine hop _ _ _ _ ?_
      refine ⟨by omega, by omega, ?_⟩
      refine St1.to #[.int .u64 (W 1 0 a0 b0), .int .u64 (W 1 1 a1 b1), .int .u64 (W 1 2 a2 b2), .int .u64 (W 1 3 a3 b3)] hA (by simp) rfl rfl ?_
      refine ⟨_, ?_, rfl, rfl, rfl, rfl, rfl, rfl, rfl, 1, ?_, rfl, by omega, set_same _ _ _, ?_, ?_, ?_⟩
      · omega
      · rw [wi (by omega) (by omega)]; rfl
      · rw [set_other _ _ hne1]; exact hB
      · rw [set_other _ _ hne3]; exact h6
      · exact Chg.to_le (Chg.set mm _ _) hle (fun b e => by rw [show b = a3b from e]; exact hba)
    · refine LdV.of hA rfl ?_
      refine ⟨by omega, by omega, ?_⟩
      refine LdV.of hB rfl ?_
      refine CallV.of ?_
      refine hop _ _ _ _ ?_
      refine ⟨by omega, by omega, ?_⟩
      refine St1.to #[.int .u64 (W 2 0 a0 b0), .int .u64 (W 2 1 a1 b1), .int .u64 (W 2 2 a2 b2), .int .u64 (W 2 3 a3 b3)] hA (by simp) rfl rfl ?_
      refine ⟨_, ?_, rfl, rfl, rfl, rfl, rfl, rfl, rfl, 2, ?_, rfl, by omega, set_same _ _ _, ?_, ?_, ?_⟩
      · omega
      · rw [wi (by omega) (by omega)]; rfl
      · rw [set_other _ _ hne1]; exact hB
      · rw [set_other _ _ hne3]; exact h6
      · exact Chg.to_le (Chg.set mm _ _) hle (fun b e => by rw [show b = a3b from e]; exact hba)
    · refine LdV.of hA rfl ?_
      refine ⟨by omega, by omega, ?_⟩
      refine LdV.of hB rfl ?_
      refine CallV.of ?_
      refine hop _ _ _ _ ?_
      refine ⟨by omega, by omega, ?_⟩
      refine St1.to #[.int .u64 (W 3 0 a0 b0), .int .u64 (W 3 1 a1 b1), .int .u64 (W 3 2 a2 b2), .int .u64 (W 3 3 a3 b3)] hA (by simp) rfl rfl ?_
      refine ⟨_, ?_, rfl, rfl, rfl, rfl, rfl, rfl, rfl, 3, ?_, rfl, by omega, set_same _ _ _, ?_, ?_, ?_⟩
      · omega
      · rw [wi (by omega) (by omega)]; rfl
      · rw [set_other _ _ hne1]; exact hB
      · rw [set_other _ _ hne3]; exact h6
      · exact Chg.to_le (Chg.set mm _ _) hle (fun b e => by rw [show b = a3b from e]; exact hba)
    · refine LdV.of hA rfl ?_
      refine ⟨by omega, by omega, ?_⟩
      refine LdV.of hB rfl ?_
      refine CallV.of ?_
      refine hop _ _ _ _ ?_
      refine ⟨by omega, by omega, ?_⟩
      refine St1.to #[.int .u64 (W 4 0 a0 b0), .int .u64 (W 4 1 a1 b1), .int .u64 (W 4 2 a2 b2), .int .u64 (W 4 3 a3 b3)] hA (by simp) rfl rfl ?_
      refine ⟨_, ?_, rfl, rfl, rfl, rfl, rfl, rfl, rfl, 4, ?_, rfl, by omega, set_same _ _ _, ?_, ?_, ?_⟩
      · omega
      · rw [wi (by omega) (by omega)]; rfl
      · rw [set_other _ _ hne1]; exact hB
      · rw [set_other _ _ hne3]; exact h6
      · exact Chg.to_le (Chg.set mm _ _) hle (fun b e => by rw [show b = a3b from e]; exact hba)
  · have hk : k = 4 := by omega
    subst hk
    refine get4 hA ?_
    refine out4 h6 ?_
    exact h _ (Chg.to_le (Chg.set mm _ _) hle (fun b e => by rw [show b = x6b from e]; exact hm6))
theorem Or_spec {f g : Nat → Bool} {m : Mem} {R : Ending → Mem → Prop} (h : ∀ m', Le m m' → R (.returned (setv fun b => f b || g b)) m') : HC P class_Or.id #[setv f, setv g] m R := by
  refine class_Or.ok _ _ _ _ _ _ _ _ _ _ ?_
  intro ba hba bb hbb b4 hb4
  have hne : bb ≠ ba := fun e => by subst e; rw [set_same] at hbb; cases hbb
  have hne2 : b4 ≠ bb := fun e => by subst e; rw [set_same] at hb4; cases hb4
  have hne3 : b4 ≠ ba := fun e => by subst e; rw [set_other _ _ hne.symm, set_same] at hb4; cases hb4
  have hm4 : m b4 = none := by rw [set_other _ _ hne2, set_other _ _ hne3] at hb4; exact hb4
  have hle := ((Le.set hba (.cells #[.int .u64 (L f 0), .int .u64 (L f 1), .int .u64 (L f 2), .int .u64 (L f 3)] T_api_Set (0, 0))).trans (Le.set hbb (.cells #[.int .u64 (L g 0), .int .u64 (L g 1), .int .u64 (L g 2), .int .u64 (L g 3)] T_api_Set (0, 0)))).trans (Le.set hb4 (.cells #[.int .u64 0, .int .u64 0, .int .u64 0, .int .u64 0] T_api_Set (0, 0)))
  refine get4 (by rw [set_other _ _ hne3.symm, set_other _ _ hne.symm, set_same]) ?_
  refine get4 (by rw [set_other _ _ hne2.symm, set_same]) ?_
  refine with_spec (op := bitsV .or .u64) (fun m x y R k => class_Or_1.ok _ _ _ _ k) ?_
  intro m' hle'
  refine ContSet.mk ?_
  refine out4 (hle' _ _ (set_same _ _ _)) ?_
  have hk := h _ (Chg.to_le (Chg.set m' b4 (.cells #[.int .u64 (bitsV .or .u64 (L f 0) (L g 0)), .int .u64 (bitsV .or .u64 (L f 1) (L g 1)), .int .u64 (bitsV .or .u64 (L f 2) (L g 2)), .int .u64 (bitsV .or .u64 (L f 3) (L g 3))] T_api_Set (0, 0))) (hle.trans hle') (fun b e => by rw [show b = b4 from e]; exact hm4))
  simp only [L_or] at hk ⊢
  exact hk
theorem Not_spec {f : Nat → Bool} {m : Mem} {R : Ending → Mem → Prop} (h : ∀ m', Le m m' → R (.returned (setv fun b => !f b)) m') : HC P class_Not.id #[setv f] m R := by
  refine class_Not.ok _ _ _ _ _ _ ?_
  intro ba hba b4 hb4
  have hne3 : b4 ≠ ba := fun e => by subst e; rw [set_same] at hb4; cases hb4
  have hm4 : m b4 = none := by rw [set_other _ _ hne3] at hb4; exact hb4
  have hle := (Le.set hba (.cells #[.int .u64 (L f 0), .int .u64 (L f 1), .int .u64 (L f 2), .int .u64 (L f 3)] T_api_Set (0, 0))).trans (Le.set hb4 (.cells #[.int .u64 0, .int .u64 0, .int .u64 0, .int .u64 0] T_api_Set (0, 0)))
  refine get4 (by rw [set_other _ _ hne3.symm, set_same]) ?_
  refine get4 (by rw [set_other _ _ hne3.symm, set_same]) ?_
  refine with_spec (op := fun x _ => bitsV .xor .u64 18446744073709551615 x) (fun m x y R k => class_Not_1.ok _ _ _ _ k) ?_
  intro m' hle'
  refine ContSet.mk ?_
  refine out4 (hle' _ _ (set_same _ _ _)) ?_
  have hk := h _ (Chg.to_le (Chg.set m' b4 (.cells #[.int .u64 (bitsV .xor .u64 18446744073709551615 (L f 0)), .int .u64 (bitsV .xor .u64 18446744073709551615 (L f 1)), .int .u64 (bitsV .xor .u64 18446744073709551615 (L f 2)), .int .u64 (bitsV .xor .u64 18446744073709551615 (L f 3))] T_api_Set (0, 0))) (hle.trans hle') (fun b e => by rw [show b = b4 from e]; exact hm4))
  simp only [L_not] at hk ⊢
  exact hk
theorem byte_div {b : Nat} (hb : b < 256) : IntKind.u8.wrap (Int.tdiv (b : Int) 64) = ((b / 64 : Nat) : Int) := by
  rw [Int.tdiv_eq_ediv_of_nonneg (by omega), IntKind.wrap_u8]; omega
theorem byte_mod {b : Nat} : Int.tmod (b : Int) 64 = ((b % 64 : Nat) : Int) := by
  rw [Int.tmod_eq_emod_of_nonneg (by omega)]; omega
theorem limb_get {f : Nat → Bool} {k : Nat} (hk : k < 4) : (#[Value.int .u64 (L f 0), .int .u64 (L f 1), .int .u64 (L f 2), .int .u64 (L f 3)] : Array Value)[k]? = some (.int .u64 (L f k)) := by
  have : k = 0 ∨ k = 1 ∨ k = 2 ∨ k = 3 := by omega
  rcases this with rfl | rfl | rfl | rfl <;> rfl
theorem Has_spec {f : Nat → Bool} {b : Nat} (hb : b < 256) {m : Mem} {R : Ending → Mem → Prop} (h : ∀ m', Le m m' → R (.returned (.bool (f b))) m') : HC P class_Has.id #[setv f, .int .u8 (b : Int)] m R := by
  refine class_Has.ok _ _ _ _ _ _ _ ?_
  intro ba hba
  rw [byte_div hb, byte_mod]
  refine ⟨by omega, by omega, ?_⟩
  refine LdV.of (set_same _ _ _) (v := .int .u64 (L f (b / 64))) (by rw [show 0 + ((b / 64 : Nat) : Int).toNat * 1 = b / 64 by omega]; exact limb_get (by omega)) ?_
  refine UnI.mk (NnI.mk (by omega) ?_)
  rw [L_has _ _ (by omega), show 64 * (b / 64) + b % 64 = b by omega]
  exact h _ (Le.set hba _)
theorem RHas_spec {f : Nat → Bool} {b : Nat} (hb : b < 256) {m : Mem} {R : Ending → Mem → Prop} (h : ∀ m', Le m m' → R (.returned (.bool (f b))) m') : HC P eyotref8_Has.id #[setv f, .int .u8 (b : Int)] m R := by
  refine eyotref8_Has.ok _ _ _ _ _ _ _ ?_
  intro ba hba
  rw [byte_div hb, byte_mod]
  refine ⟨by omega, by omega, ?_⟩
  refine LdV.of (set_same _ _ _) (v := .int .u64 (L f (b / 64))) (by rw [show 0 + ((b / 64 : Nat) : Int).toNat * 1 = b / 64 by omega]; exact limb_get (by omega)) ?_
  refine UnI.mk (NnI.mk (by omega) ?_)
  rw [L_has _ _ (by omega), show 64 * (b / 64) + b % 64 = b by omega]
  exact h _ (Le.set hba _)
end Go.E
set_option linter.unusedVariables false
set_option linter.unusedSimpArgs false
namespace Go.E
open Go.H
attribute [local irreducible] BiN MkS ConvN LookN MapUpN CallV HC
abbrev cells4 (f : Nat → Bool) : Array Value := #[.int .u64 (L f 0), .int .u64 (L f 1), .int .u64 (L f 2), .int .u64 (L f 3)]
theorem limb_set (F : Nat → Bool) {c : Nat} (hc : c < 256) :
    (cells4 F).setIfInBounds (c / 64) (.int .u64 (bitsV .or .u64 (L F (c / 64)) (shlV .u64 1 ((c % 64 : Nat) : Int)))) = cells4 fun b => F b || b == c := by
  have hm : c % 64 < 64 := by omega
  rw [L_add F (c / 64) hm]
  have e : 64 * (c / 64) + c % 64 = c := by omega
  have ne : ∀ k', k' ≠ c / 64 → L (fun b => F b || b == c) k' = L F k' := by
    intro k' hk
    have := L_add_ne F (k := c / 64) (k' := k') hm hk
    rw [e] at this
    exact this
  rw [e]
  have : c / 64 = 0 ∨ c / 64 = 1 ∨ c / 64 = 2 ∨ c / 64 = 3 := by omega
  rcases this with h | h | h | h <;> rw [h] at ne ⊢
  · show #[Value.int .u64 _, Value.int .u64 (L F 1), Value.int .u64 (L F 2), Value.int .u64 (L F 3)] = cells4 _
    unfold cells4
    rw [ne 1 (by omega), ne 2 (by omega), ne 3 (by omega)]
  · unfold cells4
    rw [ne 0 (by omega), ne 2 (by omega), ne 3 (by omega)]
    rfl
  · unfold cells4
    rw [ne 0 (by omega), ne 1 (by omega), ne 3 (by omega)]
    rfl
  · unfold cells4
    rw [ne 0 (by omega), ne 1 (by omega), ne 2 (by omega)]
    rfl
/-- The bytes of a list, as a set. -/
def inB (bs : List UInt8) (b : Nat) : Bool := bs.any fun c => b == c.toNat
theorem inB_take {bs : List UInt8} {k : Nat} (h : k < bs.length) : (fun b => inB (bs.take k) b || b == bs[k].toNat) = inB (bs.take (k + 1)) := by
  funext b
  unfold inB
  rw [List.take_add_one, List.any_append, List.getElem?_eq_getElem h]
  simp
theorem zero4 : cells4 (inB []) = #[.int .u64 0, .int .u64 0, .int .u64 0, .int .u64 0] := by
  have : inB [] = fun _ => false := rfl
  unfold cells4
  rw [this, L_zero, L_zero, L_zero, L_zero]
theorem Of_spec {m : Mem} {a : Option Addr} {l c : Nat} {bs : List UInt8} (hb : CellsAt m a (u8s bs)) (hl : bs.length = l) (hmax : bs.length < 2 ^ 62) {R : Ending → Mem → Prop}
    (h : ∀ m', Le m m' → R (.returned (setv (inB bs))) m') : HC P class_Of.id #[.slice a l c] m R := by
  refine class_Of.ok _ _ _ _ _ ?_
  intro b2 hb2 b3 hb3
  have hne : b3 ≠ b2 := fun e => by subst e; rw [set_same] at hb3; cases hb3
  have hm3 : m b3 = none := by rw [set_other _ _ hne] at hb3; exact hb3
  refine ⟨fun N x2b x2o s3b s3o xa xl xc x7 x8 mm => x2b = b2 ∧ x2o = 0 ∧ s3b = b3 ∧ s3o = 0 ∧ xa = a ∧ xl = l ∧ xc = c ∧ x7 = (l : Int) ∧ ∃ k : Nat, x8 = k ∧ N = l - k ∧ k ≤ l ∧
    mm b3 = some (.cells (cells4 (inB (bs.take k))) T_api_Set (0, 0)) ∧ mm b2 = some (.cells #[.int .u64 0, .int .u64 0, .int .u64 0, .int .u64 0] T_api_Set (0, 0)) ∧ Le m mm, l,
    ⟨rfl, rfl, rfl, rfl, rfl, rfl, rfl, rfl, 0, rfl, rfl, by omega, ?_, ?_, ?_⟩, ?_⟩
  · rw [set_same]; rw [List.take_zero, zero4]
  · rw [set_other _ _ hne.symm, set_same]
  · exact (Le.set hb2 _).trans (Le.set hb3 _)
  rintro N x2b x2o s3b s3o xa xl xc x7 x8 mm ⟨rfl, rfl, rfl, rfl, rfl, rfl, rfl, rfl, k, rfl, rfl, hk, hs, h2, hle⟩
  refine BrD (fun hlt => ?_) (fun hge => ?_)
  · have hk' : k < bs.length := by omega
    have hcl : bs[k].toNat < 256 := by have := UInt8.toNat_lt bs[k]; omega
    refine IxS.u8s (hb.le hle) hl (by omega) (by omega) ?_
    intro x hx
    rw [Int.toNat_natCast, List.getElem?_eq_getElem hk'] at hx
    cases hx
    refine UnI.mk ?_
    rw [byte_div hcl, byte_mod]
    refine ⟨by omega, by omega, ?_⟩
    refine LdV.of hs (v := .int .u64 (L (inB (bs.take k)) (bs[k].toNat / 64))) (by rw [show 0 + ((bs[k].toNat / 64 : Nat) : Int).toNat * 1 = bs[k].toNat / 64 by omega]; exact limb_get (by omega)) ?_
    refine UnI.mk (NnI.mk (by omega) ⟨by omega, by omega, ?_⟩)
    refine St1.to (cells4 (inB (bs.take (k + 1)))) hs (by show _ < 4; omega) rfl ?_ ?_
    · rw [show 0 + ((bs[k].toNat / 64 : Nat) : Int).toNat * 1 = bs[k].toNat / 64 by omega, limb_set _ hcl, inB_take hk']
    refine ⟨_, ?_, rfl, rfl, rfl, rfl, rfl, rfl, rfl, rfl, k + 1, ?_, rfl, by omega, set_same _ _ _, ?_, ?_⟩
    · omega
    · rw [wi (by omega) (by omega)]; omega
    · rw [set_other _ _ hne.symm]; exact h2
    · exact Chg.to_le (Chg.set mm _ _) hle (fun b e => by rw [show b = s3b from e]; exact hm3)
  · have : k = bs.length := by omega
    subst this
    rw [List.take_length] at hs
    refine get4 hs ?_
    refine out4 h2 ?_
    exact h _ (Chg.to_le (Chg.set mm _ _) hle (fun b e => by rw [show b = x2b from e]; exact hb2))
theorem ROf_spec {m : Mem} {a : Option Addr} {l c : Nat} {bs : List UInt8} (hb : CellsAt m a (u8s bs)) (hl : bs.length = l) (hmax : bs.length < 2 ^ 62) {R : Ending → Mem → Prop}
    (h : ∀ m', Le m m' → R (.returned (setv (inB bs))) m') : HC P eyotref8_Of.id #[.slice a l c] m R := by
  refine eyotref8_Of.ok _ _ _ _ _ ?_
  intro b2 hb2 b3 hb3
  have hne : b3 ≠ b2 := fun e => by subst e; rw [set_same] at hb3; cases hb3
  have hm3 : m b3 = none := by rw [set_other _ _ hne] at hb3; exact hb3
  refine ⟨fun N xa xl xc x2b x2o s3b s3o x8 mm => x2b = b2 ∧ x2o = 0 ∧ s3b = b3 ∧ s3o = 0 ∧ xa = a ∧ xl = l ∧ xc = c ∧ ∃ k : Nat, x8 = k ∧ N = l - k ∧ k ≤ l ∧
    mm b3 = some (.cells (cells4 (inB (bs.take k))) T_api_Set (0, 0)) ∧ mm b2 = some (.cells #[.int .u64 0, .int .u64 0, .int .u64 0, .int .u64 0] T_api_Set (0, 0)) ∧ Le m mm, l,
    ⟨rfl, rfl, rfl, rfl, rfl, rfl, rfl, 0, rfl, rfl, by omega, ?_, ?_, ?_⟩, ?_⟩
  · rw [set_same]; rw [List.take_zero, zero4]
  · rw [set_other _ _ hne.symm, set_same]
  · exact (Le.set hb2 _).trans (Le.set hb3 _)
  rintro N xa xl xc x2b x2o s3b s3o x8 mm ⟨rfl, rfl, rfl, rfl, rfl, rfl, rfl, k, rfl, rfl, hk, hs, h2, hle⟩
  refine BrD (fun hlt => ?_) (fun hge => ?_)
  · have hk' : k < bs.length := by omega
    have hcl : bs[k].toNat < 256 := by have := UInt8.toNat_lt bs[k]; omega
    refine ⟨mm, Le.refl _, ?_⟩
    refine IxS.u8s (hb.le hle) hl (by omega) (by omega) ?_
    intro x hx
    rw [Int.toNat_natCast, List.getElem?_eq_getElem hk'] at hx
    cases hx
    refine UnI.mk ?_
    rw [byte_div hcl]
    refine ⟨by omega, by omega, ?_⟩
    refine LdV.of hs (v := .int .u64 (L (inB (bs.take k)) (bs[k].toNat / 64))) (by rw [show 0 + ((bs[k].toNat / 64 : Nat) : Int).toNat * 1 = bs[k].toNat / 64 by omega]; exact limb_get (by omega)) ?_
    refine UnI.mk ?_
    refine IxS.u8s (hb.le hle) hl (by omega) (by omega) ?_
    intro x hx
    rw [Int.toNat_natCast, List.getElem?_eq_getElem hk'] at hx
    cases hx
    refine UnI.mk ?_
    rw [byte_mod]
    refine NnI.mk (by omega) ⟨by omega, by omega, ?_⟩
    refine St1.to (cells4 (inB (bs.take (k + 1)))) hs (by show _ < 4; omega) rfl ?_ ?_
    · rw [show 0 + ((bs[k].toNat / 64 : Nat) : Int).toNat * 1 = bs[k].toNat / 64 by omega, limb_set _ hcl, inB_take hk']
    refine ⟨_, ?_, rfl, rfl, rfl, rfl, rfl, rfl, rfl, k + 1, ?_, rfl, by omega, set_same _ _ _, ?_, ?_⟩
    · omega
    · rw [wi (by omega) (by omega)]; omega
    · rw [set_other _ _ hne.symm]; exact h2
    · exact Chg.to_le (Chg.set mm _ _) hle (fun b e => by rw [show b = s3b from e]; exact hm3)
  · have : k = bs.length := by omega
    subst this
    rw [List.take_length] at hs
    refine get4 hs ?_
    refine out4 h2 ?_
    exact h _ (Chg.to_le (Chg.set mm _ _) hle (fun b e => by rw [show b = x2b from e]; exact hb2))
/-- A row of bytes under way, new over ms. -/
structure RwB (ms mm : Mem) (a : Option Addr) (l c : Nat) (bs : List UInt8) : Prop where
  le : Le ms mm
  own : Own mm T_uint8 1 a l c (u8s bs)
  fr : Fresh ms a
theorem RwB.nil {ms mm : Mem} (h : Le ms mm) : RwB ms mm none 0 0 [] := ⟨h, Own.nil _ _ _, Fresh.none _⟩
theorem RwB.len {ms mm : Mem} {a : Option Addr} {l c : Nat} {bs : List UInt8} (h : RwB ms mm a l c bs) : bs.length = l := by have := h.own.1; simpa [u8s] using this
theorem RwB.mono {ms mm mm' : Mem} {a : Option Addr} {l c : Nat} {bs : List UInt8} (h : RwB ms mm a l c bs) (k : Le mm mm') : RwB ms mm' a l c bs := ⟨h.le.trans k, Own.le k h.own, h.fr⟩
theorem RwB.push {ms mm : Mem} {a : Option Addr} {l c : Nat} {bs : List UInt8} (h : RwB ms mm a l c bs) (x : UInt8) (hlen : l ≤ 1000000000)
    {ty : TypeId} {cs : Array Bool} {K : Value → Mem → Prop} {Pn : List PanicEntry → Mem → Prop}
    (k : ∀ a' c' m', RwB ms m' a' (l + 1) c' (bs ++ [x]) → K (.slice a' (l + 1) c') m') :
    ∀ b, mm b = none → BiN P .append #[T_sl_uint8, T_sl_uint8] ty cs #[.slice a l c, .slice (some ⟨b, 0, none⟩) 1 1] (mm.set b (.cells #[.int .u8 x.toNat] T_uint8 (0, 0))) K Pn := by
  refine push_one eU8 h.own rfl hlen (by omega) ?_
  intro a' c' m' hch ho hb
  refine k a' c' m' ⟨hch.to_le h.le (fun b e => h.fr b e), by simpa [u8s] using ho, ?_⟩
  rcases hb with hb | hb
  · intro b e; exact h.fr b (hb ▸ e)
  · exact Fresh.le h.le hb
/-- The bytes from one on. -/
def rng (a k : Nat) : List UInt8 := (List.range' a k).map UInt8.ofNat
theorem rng_len (a k : Nat) : (rng a k).length = k := by simp [rng]
theorem rng_succ (a k : Nat) : rng a (k + 1) = rng a k ++ [UInt8.ofNat (a + k)] := by simp [rng, List.range'_concat]
theorem inB_rng {a k : Nat} (h : a + k ≤ 256) (c : Nat) : inB (rng a k) c = (decide (a ≤ c) && decide (c < a + k)) := by
  induction k with
  | zero =>
    have : ¬ (a ≤ c ∧ c < a + 0) := by omega
    simp only [Nat.add_zero] at this ⊢
    by_cases h1 : a ≤ c
    · have : ¬ c < a := by omega
      simp [inB, rng, h1, this]
    · simp [inB, rng, h1]
  | succ k ih =>
    have ih := ih (by omega)
    have e : inB (rng a (k + 1)) c = (inB (rng a k) c || c == a + k) := by
      unfold inB
      rw [rng_succ, List.any_append]
      have : (UInt8.ofNat (a + k)).toNat = a + k := by rw [UInt8.toNat_ofNat']; omega
      rw [List.any_cons, List.any_nil, this, Bool.or_false]
    rw [e, ih]
    rw [Bool.eq_iff_iff]
    simp only [Bool.or_eq_true, Bool.and_eq_true, decide_eq_true_eq, beq_iff_eq]
    omega
/-- The bytes from one to another one. -/
abbrev fromTo (a b : Nat) : Nat → Bool := fun c => decide (a ≤ c) && decide (c ≤ b)
theorem run_spec {a b : Nat} (ha : a < 256) (hb : b < 256) {m : Mem} {R : Ending → Mem → Prop} (h : ∀ m', Le m m' → R (.returned (setv (fromTo a b))) m') :
    HC P class_run.id #[.int .u8 (a : Int), .int .u8 (b : Int)] m R := by
  refine class_run.ok _ _ _ _ ?_
  intro b4 hb4
  rw [wi (n := (a : Int)) (by omega) (by omega)]
  have hle0 := Le.set hb4 (.cells #[.int .u64 0, .int .u64 0, .int .u64 0, .int .u64 0] T_api_Set (0, 0))
  generalize hms : m.set b4 (.cells #[.int .u64 0, .int .u64 0, .int .u64 0, .int .u64 0] T_api_Set (0, 0)) = ms at hle0
  have h4 : ms b4 = some (.cells #[.int .u64 0, .int .u64 0, .int .u64 0, .int .u64 0] T_api_Set (0, 0)) := by rw [← hms]; exact set_same _ _ _
  refine ⟨fun N b1 x4b x4o la ll lc c6 mm => b1 = b ∧ x4b = b4 ∧ x4o = 0 ∧ ∃ k : Nat, ll = k ∧ c6 = ((a + k : Nat) : Int) ∧ N = 256 - k ∧ (k = 0 ∨ a + k ≤ b + 1) ∧ RwB ms mm la k lc (rng a k), 256,
    ⟨rfl, rfl, rfl, 0, rfl, rfl, rfl, .inl rfl, RwB.nil (Le.refl _)⟩, ?_⟩
  rintro N b1 x4b x4o la ll lc c6 mm ⟨rfl, rfl, rfl, k, rfl, rfl, rfl, hk, hr⟩
  unfold class_run.l1B
  rw [wi (n := (b : Int)) (by omega) (by omega)]
  refine BrD (fun hlt => ?_) (fun hge => ?_)
  · have hw : IntKind.u8.wrap ((a + ll : Nat) : Int) = (((UInt8.ofNat (a + ll)).toNat : Nat) : Int) := by
      rw [IntKind.wrap_u8, UInt8.toNat_ofNat']; omega
    rw [hw]
    refine hr.push _ (by omega) ?_
    intro a' c' m' hr'
    refine UnS.mk ?_
    refine ⟨_, ?_, rfl, rfl, rfl, ll + 1, rfl, ?_, rfl, .inr (by omega), by rw [rng_succ]; exact hr'⟩
    · omega
    · rw [wi (by omega) (by omega)]; omega
  · have hlen : (rng a ll).length = ll := rng_len a ll
    refine Of_spec hr.own.cells hlen (by omega) ?_
    intro m' hle
    refine ContSet.mk ?_
    refine out4 (hle _ _ (hr.le _ _ h4)) ?_
    have hk := h _ (Chg.to_le (Chg.set m' x4b (cells4 (inB (rng a ll)) |> fun c => .cells c T_api_Set (0, 0))) ((hle0.trans hr.le).trans hle) (fun b e => by rw [show b = x4b from e]; exact hb4))
    have e : setv (inB (rng a ll)) = setv (fromTo a b) := setv_eq fun c hc => by
      by_cases hab : a + ll ≤ 256
      · rw [inB_rng hab, Bool.eq_iff_iff]
        simp only [Bool.and_eq_true, decide_eq_true_eq]
        omega
      · omega
    show R (.returned (setv (inB (rng a ll)))) _
    rw [e]
    exact hk
end Go.E
