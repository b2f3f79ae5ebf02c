/- This project's own logic, printed forms and lemmas, as far as this claim needs them (part 2). -/
import Derived.Test.YthabagojnljbpaaQPlaceSpells1
set_option linter.unusedVariables false
set_option maxRecDepth 100000
namespace Go.E
open Go.H
noncomputable section
/-! ### (*eyot/place.Places).walk -/
namespace place_Places_walk
noncomputable def fn : Func := Go.Proofs.Try.f22
noncomputable def body : Code := fn.body.getD .skip
def od : Nat → Ord := fun | 4 => ordL [(0, 3), (1, 3), (2, 3), (3, 3), (4, 3), (5, 1), (6, 3), (7, 1), (10, 3), (11, 3), (12, 3), (13, 1)] (.alt 8 0 (ordL [] (.alt 9 0 (ordL [(14, 0), (15, 2), (16, 3), (17, 3), (18, 2), (19, 3), (20, 3), (21, 2)] .done) 14 0 (ordL [(9, 0), (15, 2), (16, 3), (17, 3), (18, 2), (19, 3), (20, 3), (21, 2)] .done))) 14 0 (ordL [(8, 0), (9, 0), (15, 2), (16, 3), (17, 3), (18, 2), (19, 3), (20, 3), (21, 2)] .done)) | 26 => ordL [(0, 3), (1, 1), (2, 3), (3, 1), (5, 3), (6, 1), (7, 3), (8, 1), (10, 3), (11, 1), (4, 0), (9, 0), (12, 3), (13, 3), (14, 2), (15, 3), (16, 3), (17, 2)] .done | _ => .done
def tb : Nat → Tab := fun | 4 => (2392064, [0, 0, 0, 4, 12, 28, 0, 64, 192, 508, 0, 1024, 3072, 7168, 0, 32764, 65533, 131069, 262141, 524287, 1048575, 2097151], [(0, 1, 25), (0, 1, 26), (0, 1, 27), (4, 67108864, 28), (8, 134217728, 29), (16, 268435456, 30), (0, 8, 31), (64, 1073741824, 32), (128, 2147483648, 33), (288, 4831838208, 34), (0, 1, 35), (1024, 17179869184, 36), (2048, 34359738368, 37), (4096, 68719476736, 38), (0, 0, 39), (25088, 412316860416, 40), (41981, 16777216, 41), (107517, 1099511627776, 42), (173053, 2207613190144, 0), (524287, 33554432, 43), (1048575, 4398046511104, 44), (1572863, 9345848836096, 0)]) | 26 => (147456, [0, 1, 0, 4, 15, 0, 32, 0, 128, 511, 0, 1024, 4095, 8191, 16383, 32767, 65535, 131071], [(0, 1024, 110), (1, 649037107316853453566312041152512, 111), (0, 8192, 112), (4, 2596148429267413814265248164610048, 113), (10, 6490371073168534535663120411525120, 114), (0, 1024, 115), (32, 20769187434139310514121985316880384, 116), (0, 8192, 117), (128, 83076749736557242056487941267521536, 118), (336, 207691874341393105141219853168803840, 119), (0, 1024, 120), (1024, 664613997892457936451903530140172288, 121), (2560, 1329227995784915872903807060280344576, 122), (4096, 2658455991569831745807614120560697344, 123), (12288, 7975367974709495237422842361682067456, 124), (20480, 13292279957849158729038070602803445760, 125), (33296, 21610339525221952589943925722214039552, 126), (131071, 42535295865117307932921825928971027456, 0)]) | _ => (0, [], [])
def k1E (K : Nat → Nat → Int → Mem → Prop) : Env → Mem → Prop := fun ρ m => UnPA (ρ 4) fun x4b x4o => UnI (ρ 5) .i64 fun n_5 => K x4b x4o n_5 m
def k1  (x4b : Nat) (x4o : Nat) (n_5 : Int) (R : Ending → Mem → Prop) (m : Mem) : Prop :=
 NewC m #[.int .i64 n_5] T_int fun b45 m1 =>
 NewC m1 #[.int .i64 n_5] T_int fun b47 m2 =>
 St1 m2 x4b x4o (.slice (some ⟨b45, 0, none⟩) 1 1) fun m3 =>
 St1 m3 x4b (x4o + 1) (.slice (some ⟨b47, 0, none⟩) 1 1) fun m4 =>
 St1 m4 x4b (x4o + 2) (.bool false) fun m5 =>
 LdV m5 x4b x4o fun v =>
 UnS v fun res0_0a res0_0l res0_0c =>
 LdV m5 x4b (x4o + 1) fun v =>
 UnS v fun res0_1a res0_1l res0_1c =>
 LdV m5 x4b (x4o + 2) fun v =>
 UnB v fun res0_2 =>
 R (.returned (.agg #[.slice res0_0a res0_0l res0_0c, .slice res0_1a res0_1l res0_1c, .bool res0_2])) m5
noncomputable def k1A  (R : Ending → Mem → Prop) : ACode := (.code (sR (sR (cT (sR (bB (sR (sL (sR (body))))))))))
def k4E (K : Option Addr → Nat → Nat → Nat → Nat → Nat → Nat → Option Addr → Nat → Nat → Int → Int → Mem → Prop) : Env → Mem → Prop := fun ρ m => UnP (ρ 0) fun p_0 => UnPA (ρ 4) fun x4b x4o => UnPA (ρ 6) fun out_6b out_6o => UnPA (ρ 9) fun q_9b q_9o => UnS (ρ 53) fun x53a x53l x53c => UnI (ρ 54) .i64 fun x54 => UnI (ρ 55) .i64 fun x55 => K p_0 x4b x4o out_6b out_6o q_9b q_9o x53a x53l x53c x54 x55 m
def k4 (K2 : Option Addr → Nat → Nat → Nat → Nat → Option Addr → Nat → Nat → Int → Int → Mem → Prop) (p_0 : Option Addr) (x4b : Nat) (x4o : Nat) (out_6b : Nat) (out_6o : Nat) (q_9b : Nat) (q_9o : Nat) (x53a : Option Addr) (x53l : Nat) (x53c : Nat) (x54 : Int) (x55 : Int) (R : Ending → Mem → Prop) (m : Mem) : Prop :=
 LdV m out_6b out_6o fun v =>
 UnS v fun x85a x85l x85c =>
 LdV m q_9b (q_9o + 1) fun v =>
 UnS v fun x87a x87l x87c =>
 LdV m out_6b (out_6o + 2) fun v =>
 UnB v fun x89 =>
 Br x89 (
  LdV m q_9b (q_9o + 2) fun v =>
  UnB v fun x92 =>
  St1 m out_6b out_6o (.slice x85a x85l x85c) fun m1 =>
  St1 m1 out_6b (out_6o + 1) (.slice x87a x87l x87c) fun m2 =>
  St1 m2 out_6b (out_6o + 2) (.bool x92) fun m3 =>
  K2 p_0 x4b x4o out_6b out_6o x53a x53l x53c x54 (IntKind.i64.wrap (x55 + 1)) m3) (
  St1 m out_6b out_6o (.slice x85a x85l x85c) fun m1 =>
  St1 m1 out_6b (out_6o + 1) (.slice x87a x87l x87c) fun m2 =>
  St1 m2 out_6b (out_6o + 2) (.bool false) fun m3 =>
  K2 p_0 x4b x4o out_6b out_6o x53a x53l x53c x54 (IntKind.i64.wrap (x55 + 1)) m3)
noncomputable def k4A (K2 : Option Addr → Nat → Nat → Nat → Nat → Option Addr → Nat → Nat → Int → Int → Mem → Prop) (R : Ending → Mem → Prop) : ACode := (.code (sR (sR (sR (sR (sR (bB (sL (sR (sR (lP (bB (sR (sL (sR (cT (sR (cE (sR (bB (sR (sL (sR (body))))))))))))))))))))))))
def k3E (K : Option Addr → Nat → Nat → Nat → Nat → Nat → Nat → Option Addr → Nat → Nat → Int → Int → Mem → Prop) : Env → Mem → Prop := fun ρ m => UnP (ρ 0) fun p_0 => UnPA (ρ 4) fun x4b x4o => UnPA (ρ 6) fun out_6b out_6o => UnPA (ρ 9) fun q_9b q_9o => UnS (ρ 53) fun x53a x53l x53c => UnI (ρ 54) .i64 fun x54 => UnI (ρ 55) .i64 fun x55 => K p_0 x4b x4o out_6b out_6o q_9b q_9o x53a x53l x53c x54 x55 m
def k3 (K2 : Option Addr → Nat → Nat → Nat → Nat → Option Addr → Nat → Nat → Int → Int → Mem → Prop) (p_0 : Option Addr) (x4b : Nat) (x4o : Nat) (out_6b : Nat) (out_6o : Nat) (q_9b : Nat) (q_9o : Nat) (x53a : Option Addr) (x53l : Nat) (x53c : Nat) (x54 : Int) (x55 : Int) (R : Ending → Mem → Prop) (m : Mem) : Prop :=
 LdV m q_9b (q_9o + 2) fun v =>
 UnB v fun x77 =>
 Br x77 (
  LdV m out_6b (out_6o + 1) fun v =>
  UnS v fun x79a x79l x79c =>
  LdV m q_9b (q_9o + 1) fun v =>
  UnS v fun x81a x81l x81c =>
  HC P place_also.id #[.slice x79a x79l x79c, .slice x81a x81l x81c] m (Cont (fun v m1 =>
    UnS v fun x82a x82l x82c =>
    St1 m1 q_9b (q_9o + 1) (.slice x82a x82l x82c) fun m2 =>
    k4 K2 p_0 x4b x4o out_6b out_6o q_9b q_9o x53a x53l x53c x54 x55 R m2) (panicR R))) (
  k4 K2 p_0 x4b x4o out_6b out_6o q_9b q_9o x53a x53l x53c x54 x55 R m)
noncomputable def k3A (K2 : Option Addr → Nat → Nat → Nat → Nat → Option Addr → Nat → Nat → Int → Int → Mem → Prop) (R : Ending → Mem → Prop) : ACode := (.seq (.code (sL (sR (sR (sR (sR (bB (sL (sR (sR (lP (bB (sR (sL (sR (cT (sR (cE (sR (bB (sR (sL (sR (body)))))))))))))))))))))))) (.cut (k4E fun p_0 x4b x4o out_6b out_6o q_9b q_9o x53a x53l x53c x54 x55 m => k4 K2 p_0 x4b x4o out_6b out_6o q_9b q_9o x53a x53l x53c x54 x55 R m) (sR (sR (sR (sR (sR (bB (sL (sR (sR (lP (bB (sR (sL (sR (cT (sR (cE (sR (bB (sR (sL (sR (body)))))))))))))))))))))))))
def l2E (K : Option Addr → Nat → Nat → Nat → Nat → Option Addr → Nat → Nat → Int → Int → Mem → Prop) : Env → Mem → Prop := fun ρ m => UnP (ρ 0) fun p_0 => UnPA (ρ 4) fun x4b x4o => UnPA (ρ 6) fun out_6b out_6o => UnS (ρ 53) fun x53a x53l x53c => UnI (ρ 54) .i64 fun x54 => UnI (ρ 55) .i64 fun x55 => K p_0 x4b x4o out_6b out_6o x53a x53l x53c x54 x55 m
def l2B  (K2 : Option Addr → Nat → Nat → Nat → Nat → Option Addr → Nat → Nat → Int → Int → Mem → Prop) (p_0 : Option Addr) (x4b : Nat) (x4o : Nat) (out_6b : Nat) (out_6o : Nat) (x53a : Option Addr) (x53l : Nat) (x53c : Nat) (x54 : Int) (x55 : Int) (R : Ending → Mem → Prop) (m : Mem) : Prop :=
 Br (decide (x55 < x54)) (
  IxS x53a x53l x55 6 fun x57b x57o =>
  LdV m x57b x57o fun v =>
  UnI v .i64 fun x58_0 =>
  LdV m x57b (x57o + 1) fun v =>
  UnI v .u64 fun x58_1 =>
  LdV m x57b (x57o + 2) fun v =>
  UnI v .u64 fun x58_2 =>
  LdV m x57b (x57o + 3) fun v =>
  UnI v .u64 fun x58_3 =>
  LdV m x57b (x57o + 4) fun v =>
  UnI v .u64 fun x58_4 =>
  LdV m x57b (x57o + 5) fun v =>
  UnS v fun x58_5a x58_5l x58_5c =>
  NewC m #[.int .i64 0, .int .u64 0, .int .u64 0, .int .u64 0, .int .u64 0, .slice none 0 0] T_api_Rx fun b_x_8 m1 =>
  St1 m1 b_x_8 0 (.int .i64 x58_0) fun m2 =>
  St1 m2 b_x_8 1 (.int .u64 x58_1) fun m3 =>
  St1 m3 b_x_8 2 (.int .u64 x58_2) fun m4 =>
  St1 m4 b_x_8 3 (.int .u64 x58_3) fun m5 =>
  St1 m5 b_x_8 4 (.int .u64 x58_4) fun m6 =>
  St1 m6 b_x_8 5 (.slice x58_5a x58_5l x58_5c) fun m7 =>
  LdV m7 b_x_8 0 fun v =>
  UnI v .i64 fun x60_0 =>
  LdV m7 b_x_8 1 fun v =>
  UnI v .u64 fun x60_1 =>
  LdV m7 b_x_8 2 fun v =>
  UnI v .u64 fun x60_2 =>
  LdV m7 b_x_8 3 fun v =>
  UnI v .u64 fun x60_3 =>
  LdV m7 b_x_8 4 fun v =>
  UnI v .u64 fun x60_4 =>
  LdV m7 b_x_8 5 fun v =>
  UnS v fun x60_5a x60_5l x60_5c =>
  HC P place_Places_walk.id #[.pointer p_0, .agg #[.int .i64 x60_0, .int .u64 x60_1, .int .u64 x60_2, .int .u64 x60_3, .int .u64 x60_4, .slice x60_5a x60_5l x60_5c]] m7 (Cont (fun v m8 =>
    UnAgg v fun l =>
    UnCons l fun v l =>
    UnS v fun x61_0a x61_0l x61_0c =>
    UnCons l fun v l =>
    UnS v fun x61_1a x61_1l x61_1c =>
    UnCons l fun v l =>
    UnB v fun x61_2 =>
    UnNil l (
     NewC m8 #[.slice none 0 0, .slice none 0 0, .bool false] T_place_part fun b_q_9 m9 =>
     St1 m9 b_q_9 0 (.slice x61_0a x61_0l x61_0c) fun m10 =>
     St1 m10 b_q_9 1 (.slice x61_1a x61_1l x61_1c) fun m11 =>
     St1 m11 b_q_9 2 (.bool x61_2) fun m12 =>
     LdV m12 out_6b (out_6o + 1) fun v =>
     UnS v fun x64a x64l x64c =>
     LdV m12 b_q_9 0 fun v =>
     UnS v fun x66a x66l x66c =>
     HC P place_Places_links.id #[.pointer p_0, .slice x64a x64l x64c, .slice x66a x66l x66c] m12 (Cont (fun v m13 =>
       UnTup v fun us0 =>
       UnNil us0 (
        LdV m13 out_6b (out_6o + 2) fun v =>
        UnB v fun x69 =>
        Br x69 (
        LdV m13 out_6b out_6o fun v =>
        UnS v fun x71a x71l x71c =>
        LdV m13 b_q_9 0 fun v =>
        UnS v fun x73a x73l x73c =>
        HC P place_also.id #[.slice x71a x71l x71c, .slice x73a x73l x73c] m13 (Cont (fun v m14 =>
        UnS v fun x74a x74l x74c =>
        St1 m14 out_6b out_6o (.slice x74a x74l x74c) fun m15 =>
        k3 K2 p_0 x4b x4o out_6b out_6o b_q_9 0 x53a x53l x53c x54 x55 R m15) (panicR R))) (
        k3 K2 p_0 x4b x4o out_6b out_6o b_q_9 0 x53a x53l x53c x54 x55 R m13))) (panicR R)))) (panicR R))) (
  LdV m out_6b out_6o fun v =>
  UnS v fun x96_0a x96_0l x96_0c =>
  LdV m out_6b (out_6o + 1) fun v =>
  UnS v fun x96_1a x96_1l x96_1c =>
  LdV m out_6b (out_6o + 2) fun v =>
  UnB v fun x96_2 =>
  St1 m x4b x4o (.slice x96_0a x96_0l x96_0c) fun m1 =>
  St1 m1 x4b (x4o + 1) (.slice x96_1a x96_1l x96_1c) fun m2 =>
  St1 m2 x4b (x4o + 2) (.bool x96_2) fun m3 =>
  LdV m3 x4b x4o fun v =>
  UnS v fun res0_0a res0_0l res0_0c =>
  LdV m3 x4b (x4o + 1) fun v =>
  UnS v fun res0_1a res0_1l res0_1c =>
  LdV m3 x4b (x4o + 2) fun v =>
  UnB v fun res0_2 =>
  R (.returned (.agg #[.slice res0_0a res0_0l res0_0c, .slice res0_1a res0_1l res0_1c, .bool res0_2])) m3)
def l2  (p_0 : Option Addr) (x4b : Nat) (x4o : Nat) (out_6b : Nat) (out_6o : Nat) (x53a : Option Addr) (x53l : Nat) (x53c : Nat) (x54 : Int) (x55 : Int) (R : Ending → Mem → Prop) (m : Mem) : Prop :=
  ∃ (I : Nat → Option Addr → Nat → Nat → Nat → Nat → Option Addr → Nat → Nat → Int → Int → Mem → Prop) (N : Nat), I N p_0 x4b x4o out_6b out_6o x53a x53l x53c x54 x55 m ∧ ∀ N p_0 x4b x4o out_6b out_6o x53a x53l x53c x54 x55 m, I N p_0 x4b x4o out_6b out_6o x53a x53l x53c x54 x55 m → l2B  (fun p_0 x4b x4o out_6b out_6o x53a x53l x53c x54 x55 m => ∃ N1, N1 < N ∧ I N1 p_0 x4b x4o out_6b out_6o x53a x53l x53c x54 x55 m) p_0 x4b x4o out_6b out_6o x53a x53l x53c x54 x55 R m
noncomputable def l2A  (K2 : Option Addr → Nat → Nat → Nat → Nat → Option Addr → Nat → Nat → Int → Int → Mem → Prop) (R : Ending → Mem → Prop) : ACode := (.seq (.code (sL (lP (bB (sR (sL (sR (cT (sR (cE (sR (bB (sR (sL (sR (body)))))))))))))))) (.seq (.code (sL (sR (lP (bB (sR (sL (sR (cT (sR (cE (sR (bB (sR (sL (sR (body))))))))))))))))) (.seq (.block 2 (.seq (.code (sL (bB (sL (sR (sR (lP (bB (sR (sL (sR (cT (sR (cE (sR (bB (sR (sL (sR (body)))))))))))))))))))) (.seq (.code (sL (sR (bB (sL (sR (sR (lP (bB (sR (sL (sR (cT (sR (cE (sR (bB (sR (sL (sR (body))))))))))))))))))))) (.seq (.code (sL (sR (sR (bB (sL (sR (sR (lP (bB (sR (sL (sR (cT (sR (cE (sR (bB (sR (sL (sR (body)))))))))))))))))))))) (.seq (.code (sL (sR (sR (sR (bB (sL (sR (sR (lP (bB (sR (sL (sR (cT (sR (cE (sR (bB (sR (sL (sR (body))))))))))))))))))))))) (.cut (k3E fun p_0 x4b x4o out_6b out_6o q_9b q_9o x53a x53l x53c x54 x55 m => k3 K2 p_0 x4b x4o out_6b out_6o q_9b q_9o x53a x53l x53c x54 x55 R m) (sR (sR (sR (sR (bB (sL (sR (sR (lP (bB (sR (sL (sR (cT (sR (cE (sR (bB (sR (sL (sR (body)))))))))))))))))))))))))))) (.code (sR (sR (sR (lP (bB (sR (sL (sR (cT (sR (cE (sR (bB (sR (sL (sR (body)))))))))))))))))))))
def l5E (K : Option Addr → Nat → Nat → Nat → Nat → Option Addr → Nat → Nat → Int → Int → Mem → Prop) : Env → Mem → Prop := fun ρ m => UnP (ρ 0) fun p_0 => UnPA (ρ 4) fun x4b x4o => UnPA (ρ 10) fun out_10b out_10o => UnS (ρ 100) fun x100a x100l x100c => UnI (ρ 101) .i64 fun x101 => UnI (ρ 102) .i64 fun x102 => K p_0 x4b x4o out_10b out_10o x100a x100l x100c x101 x102 m
def l5B  (K5 : Option Addr → Nat → Nat → Nat → Nat → Option Addr → Nat → Nat → Int → Int → Mem → Prop) (p_0 : Option Addr) (x4b : Nat) (x4o : Nat) (out_10b : Nat) (out_10o : Nat) (x100a : Option Addr) (x100l : Nat) (x100c : Nat) (x101 : Int) (x102 : Int) (R : Ending → Mem → Prop) (m : Mem) : Prop :=
 Br (decide (x102 < x101)) (
  IxS x100a x100l x102 6 fun x104b x104o =>
  LdV m x104b x104o fun v =>
  UnI v .i64 fun x105_0 =>
  LdV m x104b (x104o + 1) fun v =>
  UnI v .u64 fun x105_1 =>
  LdV m x104b (x104o + 2) fun v =>
  UnI v .u64 fun x105_2 =>
  LdV m x104b (x104o + 3) fun v =>
  UnI v .u64 fun x105_3 =>
  LdV m x104b (x104o + 4) fun v =>
  UnI v .u64 fun x105_4 =>
  LdV m x104b (x104o + 5) fun v =>
  UnS v fun x105_5a x105_5l x105_5c =>
  NewC m #[.int .i64 0, .int .u64 0, .int .u64 0, .int .u64 0, .int .u64 0, .slice none 0 0] T_api_Rx fun b_x_12 m1 =>
  St1 m1 b_x_12 0 (.int .i64 x105_0) fun m2 =>
  St1 m2 b_x_12 1 (.int .u64 x105_1) fun m3 =>
  St1 m3 b_x_12 2 (.int .u64 x105_2) fun m4 =>
  St1 m4 b_x_12 3 (.int .u64 x105_3) fun m5 =>
  St1 m5 b_x_12 4 (.int .u64 x105_4) fun m6 =>
  St1 m6 b_x_12 5 (.slice x105_5a x105_5l x105_5c) fun m7 =>
  LdV m7 b_x_12 0 fun v =>
  UnI v .i64 fun x107_0 =>
  LdV m7 b_x_12 1 fun v =>
  UnI v .u64 fun x107_1 =>
  LdV m7 b_x_12 2 fun v =>
  UnI v .u64 fun x107_2 =>
  LdV m7 b_x_12 3 fun v =>
  UnI v .u64 fun x107_3 =>
  LdV m7 b_x_12 4 fun v =>
  UnI v .u64 fun x107_4 =>
  LdV m7 b_x_12 5 fun v =>
  UnS v fun x107_5a x107_5l x107_5c =>
  HC P place_Places_walk.id #[.pointer p_0, .agg #[.int .i64 x107_0, .int .u64 x107_1, .int .u64 x107_2, .int .u64 x107_3, .int .u64 x107_4, .slice x107_5a x107_5l x107_5c]] m7 (Cont (fun v m8 =>
    UnAgg v fun l =>
    UnCons l fun v l =>
    UnS v fun x108_0a x108_0l x108_0c =>
    UnCons l fun v l =>
    UnS v fun x108_1a x108_1l x108_1c =>
    UnCons l fun v l =>
    UnB v fun x108_2 =>
    UnNil l (
     NewC m8 #[.slice none 0 0, .slice none 0 0, .bool false] T_place_part fun b_q_13 m9 =>
     St1 m9 b_q_13 0 (.slice x108_0a x108_0l x108_0c) fun m10 =>
     St1 m10 b_q_13 1 (.slice x108_1a x108_1l x108_1c) fun m11 =>
     St1 m11 b_q_13 2 (.bool x108_2) fun m12 =>
     Sub m12 fun r13 =>
     LdV r13 out_10b out_10o fun v =>
     UnS v fun x110a x110l x110c =>
     LdV r13 b_q_13 0 fun v =>
     UnS v fun x112a x112l x112c =>
     LdV r13 out_10b (out_10o + 1) fun v =>
     UnS v fun x115a x115l x115c =>
     LdV r13 b_q_13 1 fun v =>
     UnS v fun x117a x117l x117c =>
     LdV r13 out_10b (out_10o + 2) fun v =>
     UnB v fun x120 =>
     HC P place_also.id #[.slice x110a x110l x110c, .slice x112a x112l x112c] m12 (Cont (fun v m14 =>
       UnS v fun x113a x113l x113c =>
       Lk r13 m14 fun r15 =>
       HC P place_also.id #[.slice x115a x115l x115c, .slice x117a x117l x117c] m14 (Cont (fun v m16 =>
        UnS v fun x118a x118l x118c =>
        Lk r15 m16 fun r17 =>
        Br x120 (
        St1 m16 out_10b out_10o (.slice x113a x113l x113c) fun m18 =>
        St1 m18 out_10b (out_10o + 1) (.slice x118a x118l x118c) fun m19 =>
        St1 m19 out_10b (out_10o + 2) (.bool true) fun m20 =>
        K5 p_0 x4b x4o out_10b out_10o x100a x100l x100c x101 (IntKind.i64.wrap (x102 + 1)) m20) (
        LdV m16 b_q_13 2 fun v =>
        UnB v fun x123 =>
        St1 m16 out_10b out_10o (.slice x113a x113l x113c) fun m18 =>
        St1 m18 out_10b (out_10o + 1) (.slice x118a x118l x118c) fun m19 =>
        St1 m19 out_10b (out_10o + 2) (.bool x123) fun m20 =>
        K5 p_0 x4b x4o out_10b out_10o x100a x100l x100c x101 (IntKind.i64.wrap (x102 + 1)) m20)) (panicR R))) (panicR R)))) (panicR R))) (
  LdV m out_10b out_10o fun v =>
  UnS v fun x127_0a x127_0l x127_0c =>
  LdV m out_10b (out_10o + 1) fun v =>
  UnS v fun x127_1a x127_1l x127_1c =>
  LdV m out_10b (out_10o + 2) fun v =>
  UnB v fun x127_2 =>
  St1 m x4b x4o (.slice x127_0a x127_0l x127_0c) fun m1 =>
  St1 m1 x4b (x4o + 1) (.slice x127_1a x127_1l x127_1c) fun m2 =>
  St1 m2 x4b (x4o + 2) (.bool x127_2) fun m3 =>
  LdV m3 x4b x4o fun v =>
  UnS v fun res0_0a res0_0l res0_0c =>
  LdV m3 x4b (x4o + 1) fun v =>
  UnS v fun res0_1a res0_1l res0_1c =>
  LdV m3 x4b (x4o + 2) fun v =>
  UnB v fun res0_2 =>
  R (.returned (.agg #[.slice res0_0a res0_0l res0_0c, .slice res0_1a res0_1l res0_1c, .bool res0_2])) m3)
def l5  (p_0 : Option Addr) (x4b : Nat) (x4o : Nat) (out_10b : Nat) (out_10o : Nat) (x100a : Option Addr) (x100l : Nat) (x100c : Nat) (x101 : Int) (x102 : Int) (R : Ending → Mem → Prop) (m : Mem) : Prop :=
  ∃ (I : Nat → Option Addr → Nat → Nat → Nat → Nat → Option Addr → Nat → Nat → Int → Int → Mem → Prop) (N : Nat), I N p_0 x4b x4o out_10b out_10o x100a x100l x100c x101 x102 m ∧ ∀ N p_0 x4b x4o out_10b out_10o x100a x100l x100c x101 x102 m, I N p_0 x4b x4o out_10b out_10o x100a x100l x100c x101 x102 m → l5B  (fun p_0 x4b x4o out_10b out_10o x100a x100l x100c x101 x102 m => ∃ N1, N1 < N ∧ I N1 p_0 x4b x4o out_10b out_10o x100a x100l x100c x101 x102 m) p_0 x4b x4o out_10b out_10o x100a x100l x100c x101 x102 R m
noncomputable def l5A  (K5 : Option Addr → Nat → Nat → Nat → Nat → Option Addr → Nat → Nat → Int → Int → Mem → Prop) (R : Ending → Mem → Prop) : ACode := (.code (lP (bB (sR (sL (sR (cT (sR (cE (sR (cE (sR (bB (sR (sL (sR (body)))))))))))))))))
def k6E (K : Nat → Nat → Nat → Nat → Nat → Nat → Mem → Prop) : Env → Mem → Prop := fun ρ m => UnPA (ρ 3) fun r_3b r_3o => UnPA (ρ 4) fun x4b x4o => UnPA (ρ 14) fun q_14b q_14o => K r_3b r_3o x4b x4o q_14b q_14o m
def k6  (r_3b : Nat) (r_3o : Nat) (x4b : Nat) (x4o : Nat) (q_14b : Nat) (q_14o : Nat) (R : Ending → Mem → Prop) (m : Mem) : Prop :=
 LdV m q_14b (q_14o + 2) fun v =>
 UnB v fun x144 =>
 Br x144 (
  St1 m q_14b (q_14o + 2) (.bool true) fun m1 =>
  LdV m1 q_14b q_14o fun v =>
  UnS v fun x151_0a x151_0l x151_0c =>
  LdV m1 q_14b (q_14o + 1) fun v =>
  UnS v fun x151_1a x151_1l x151_1c =>
  LdV m1 q_14b (q_14o + 2) fun v =>
  UnB v fun x151_2 =>
  St1 m1 x4b x4o (.slice x151_0a x151_0l x151_0c) fun m2 =>
  St1 m2 x4b (x4o + 1) (.slice x151_1a x151_1l x151_1c) fun m3 =>
  St1 m3 x4b (x4o + 2) (.bool x151_2) fun m4 =>
  LdV m4 x4b x4o fun v =>
  UnS v fun res0_0a res0_0l res0_0c =>
  LdV m4 x4b (x4o + 1) fun v =>
  UnS v fun res0_1a res0_1l res0_1c =>
  LdV m4 x4b (x4o + 2) fun v =>
  UnB v fun res0_2 =>
  R (.returned (.agg #[.slice res0_0a res0_0l res0_0c, .slice res0_1a res0_1l res0_1c, .bool res0_2])) m4) (
  LdV m r_3b r_3o fun v =>
  UnI v .i64 fun x147 =>
  St1 m q_14b (q_14o + 2) (.bool (x147 != 5)) fun m1 =>
  LdV m1 q_14b q_14o fun v =>
  UnS v fun x151_0a x151_0l x151_0c =>
  LdV m1 q_14b (q_14o + 1) fun v =>
  UnS v fun x151_1a x151_1l x151_1c =>
  LdV m1 q_14b (q_14o + 2) fun v =>
  UnB v fun x151_2 =>
  St1 m1 x4b x4o (.slice x151_0a x151_0l x151_0c) fun m2 =>
  St1 m2 x4b (x4o + 1) (.slice x151_1a x151_1l x151_1c) fun m3 =>
  St1 m3 x4b (x4o + 2) (.bool x151_2) fun m4 =>
  LdV m4 x4b x4o fun v =>
  UnS v fun res0_0a res0_0l res0_0c =>
  LdV m4 x4b (x4o + 1) fun v =>
  UnS v fun res0_1a res0_1l res0_1c =>
  LdV m4 x4b (x4o + 2) fun v =>
  UnB v fun res0_2 =>
  R (.returned (.agg #[.slice res0_0a res0_0l res0_0c, .slice res0_1a res0_1l res0_1c, .bool res0_2])) m4)
noncomputable def k6A  (R : Ending → Mem → Prop) : ACode := (.code (sR (sR (sR (sR (body))))))
def e0 (p_0 : Option Addr) (r_1_0 : Int) (r_1_1 : Int) (r_1_2 : Int) (r_1_3 : Int) (r_1_4 : Int) (r_1_5a : Option Addr) (r_1_5l : Nat) (r_1_5c : Nat) (R : Ending → Mem → Prop) (m : Mem) : Prop :=
 NewC m #[.int .i64 r_1_0, .int .u64 r_1_1, .int .u64 r_1_2, .int .u64 r_1_3, .int .u64 r_1_4, .slice r_1_5a r_1_5l r_1_5c] T_api_Rx fun b_r_3 m1 =>
 NewC m1 #[.slice none 0 0, .slice none 0 0, .bool false] T_place_part fun b4 m2 =>
 LdV m2 b_r_3 0 fun v =>
 UnI v .i64 fun x16 =>
 Br (x16 == 1) (
  NilC p_0 (fun x20b x20o =>
   LdV m2 x20b x20o fun v =>
   UnS v fun x22a x22l x22c =>
   Sub m2 fun r3 =>
   NilC p_0 (fun x27b x27o =>
    LdV r3 x27b x27o fun v =>
    UnS v fun x29a x29l x29c =>
    LdV r3 b_r_3 1 fun v =>
    UnI v .u64 fun x31_0 =>
    LdV r3 b_r_3 2 fun v =>
    UnI v .u64 fun x31_1 =>
    LdV r3 b_r_3 3 fun v =>
    UnI v .u64 fun x31_2 =>
    LdV r3 b_r_3 4 fun v =>
    UnI v .u64 fun x31_3 =>
    NilC p_0 (fun x35b x35o =>
     LdV r3 x35b (x35o + 3) fun v =>
     UnS v fun x37a x37l x37c =>
     (
      NewC m2 #[.int .u64 x31_0, .int .u64 x31_1, .int .u64 x31_2, .int .u64 x31_3] T_api_Set fun b32 m4 =>
      Lk r3 m4 fun r5 =>
      (
       BiN P .append #[T_sl_api_Set, T_sl_api_Set] T_sl_api_Set #[false, false] #[.slice x29a x29l x29c, .slice (some ⟨b32, 0, none⟩) 1 1] m4 (fun w m6 =>
        UnS w fun x33a x33l x33c =>
        Lk r5 m6 fun r7 =>
        NewC m6 #[.slice none 0 0] T_sl_int fun b38 m8 =>
        Lk r7 m8 fun r9 =>
        BiN P .append #[T_sl_sl_int, T_sl_sl_int] T_sl_sl_int #[false, false] #[.slice x37a x37l x37c, .slice (some ⟨b38, 0, none⟩) 1 1] m8 (fun w m10 =>
        UnS w fun x39a x39l x39c =>
        NilC p_0 (fun x40b x40o =>
        St1 m10 x40b x40o (.slice x33a x33l x33c) fun m11 =>
        NilC p_0 (fun x42b x42o =>
        St1 m11 x42b (x42o + 3) (.slice x39a x39l x39c) fun m12 =>
        k1  b4 0 ((x22l : Nat) : Int) R m12) (False)) (False)) (panicR R)) (panicR R)) ∧ (
       NewC m4 #[.slice none 0 0] T_sl_int fun b38 m6 =>
       Lk r5 m6 fun r7 =>
       BiN P .append #[T_sl_api_Set, T_sl_api_Set] T_sl_api_Set #[false, false] #[.slice x29a x29l x29c, .slice (some ⟨b32, 0, none⟩) 1 1] m6 (fun w m8 =>
        UnS w fun x33a x33l x33c =>
        Lk r7 m8 fun r9 =>
        BiN P .append #[T_sl_sl_int, T_sl_sl_int] T_sl_sl_int #[false, false] #[.slice x37a x37l x37c, .slice (some ⟨b38, 0, none⟩) 1 1] m8 (fun w m10 =>
        UnS w fun x39a x39l x39c =>
        NilC p_0 (fun x40b x40o =>
        St1 m10 x40b x40o (.slice x33a x33l x33c) fun m11 =>
        NilC p_0 (fun x42b x42o =>
        St1 m11 x42b (x42o + 3) (.slice x39a x39l x39c) fun m12 =>
        k1  b4 0 ((x22l : Nat) : Int) R m12) (False)) (False)) (panicR R)) (panicR R))) ∧ (
      NewC m2 #[.slice none 0 0] T_sl_int fun b38 m4 =>
      Lk r3 m4 fun r5 =>
      NewC m4 #[.int .u64 x31_0, .int .u64 x31_1, .int .u64 x31_2, .int .u64 x31_3] T_api_Set fun b32 m6 =>
      Lk r5 m6 fun r7 =>
      BiN P .append #[T_sl_api_Set, T_sl_api_Set] T_sl_api_Set #[false, false] #[.slice x29a x29l x29c, .slice (some ⟨b32, 0, none⟩) 1 1] m6 (fun w m8 =>
       UnS w fun x33a x33l x33c =>
       Lk r7 m8 fun r9 =>
       BiN P .append #[T_sl_sl_int, T_sl_sl_int] T_sl_sl_int #[false, false] #[.slice x37a x37l x37c, .slice (some ⟨b38, 0, none⟩) 1 1] m8 (fun w m10 =>
        UnS w fun x39a x39l x39c =>
        NilC p_0 (fun x40b x40o =>
        St1 m10 x40b x40o (.slice x33a x33l x33c) fun m11 =>
        NilC p_0 (fun x42b x42o =>
        St1 m11 x42b (x42o + 3) (.slice x39a x39l x39c) fun m12 =>
        k1  b4 0 ((x22l : Nat) : Int) R m12) (False)) (False)) (panicR R)) (panicR R))) (False)) (False)) (R (.panicked (nilPanic P)) m2)) (
  Br (x16 == 2) (
   NewC m2 #[.slice none 0 0, .slice none 0 0, .bool false] T_place_part fun b_out_6 m3 =>
   St1 m3 b_out_6 0 (.slice none 0 0) fun m4 =>
   St1 m4 b_out_6 1 (.slice none 0 0) fun m5 =>
   St1 m5 b_out_6 2 (.bool true) fun m6 =>
   LdV m6 b_r_3 5 fun v =>
   UnS v fun x53a x53l x53c =>
   l2  p_0 b4 0 b_out_6 0 x53a x53l x53c ((x53l : Nat) : Int) 0 R m6) (
   Br (x16 == 3) (
    NewC m2 #[.slice none 0 0, .slice none 0 0, .bool false] T_place_part fun b_out_10 m3 =>
    LdV m3 b_r_3 5 fun v =>
    UnS v fun x100a x100l x100c =>
    l5  p_0 b4 0 b_out_10 0 x100a x100l x100c ((x100l : Nat) : Int) 0 R m3) (
    LdV m2 b_r_3 5 fun v =>
    UnS v fun x130a x130l x130c =>
    IxS x130a x130l 0 6 fun x131b x131o =>
    LdV m2 x131b x131o fun v =>
    UnI v .i64 fun x132_0 =>
    LdV m2 x131b (x131o + 1) fun v =>
    UnI v .u64 fun x132_1 =>
    LdV m2 x131b (x131o + 2) fun v =>
    UnI v .u64 fun x132_2 =>
    LdV m2 x131b (x131o + 3) fun v =>
    UnI v .u64 fun x132_3 =>
    LdV m2 x131b (x131o + 4) fun v =>
    UnI v .u64 fun x132_4 =>
    LdV m2 x131b (x131o + 5) fun v =>
    UnS v fun x132_5a x132_5l x132_5c =>
    HC P place_Places_walk.id #[.pointer p_0, .agg #[.int .i64 x132_0, .int .u64 x132_1, .int .u64 x132_2, .int .u64 x132_3, .int .u64 x132_4, .slice x132_5a x132_5l x132_5c]] m2 (Cont (fun v m3 =>
      UnAgg v fun l =>
      UnCons l fun v l =>
      UnS v fun x133_0a x133_0l x133_0c =>
      UnCons l fun v l =>
      UnS v fun x133_1a x133_1l x133_1c =>
      UnCons l fun v l =>
      UnB v fun x133_2 =>
      UnNil l (
       NewC m3 #[.slice none 0 0, .slice none 0 0, .bool false] T_place_part fun b_q_14 m4 =>
       St1 m4 b_q_14 0 (.slice x133_0a x133_0l x133_0c) fun m5 =>
       St1 m5 b_q_14 1 (.slice x133_1a x133_1l x133_1c) fun m6 =>
       St1 m6 b_q_14 2 (.bool x133_2) fun m7 =>
       LdV m7 b_r_3 0 fun v =>
       UnI v .i64 fun x135 =>
       Br (x135 != 6) (
        LdV m7 b_q_14 1 fun v =>
        UnS v fun x139a x139l x139c =>
        LdV m7 b_q_14 0 fun v =>
        UnS v fun x141a x141l x141c =>
        HC P place_Places_links.id #[.pointer p_0, .slice x139a x139l x139c, .slice x141a x141l x141c] m7 (Cont (fun v m8 =>
        UnTup v fun us0 =>
        UnNil us0 (
        k6  b_r_3 0 b4 0 b_q_14 0 R m8)) (panicR R))) (
        k6  b_r_3 0 b4 0 b_q_14 0 R m7))) (panicR R)))))
noncomputable def e0A (R : Ending → Mem → Prop) : ACode := (.seq (.code (sL (body))) (.seq (.seq (.code (sL (sL (sR (body))))) (.block 0 (.seq (.code (sL (bB (sR (sL (sR (body))))))) (.cond (.tmp 17) (.seq (.code (sL (cT (sR (bB (sR (sL (sR (body))))))))) (.seq (.code (sL (sR (cT (sR (bB (sR (sL (sR (body)))))))))) (.cut (k1E fun x4b x4o n_5 m => k1  x4b x4o n_5 R m) (sR (sR (cT (sR (bB (sR (sL (sR (body)))))))))))) (.seq (.code (sL (cE (sR (bB (sR (sL (sR (body))))))))) (.cond (.tmp 49) (.seq (.code (sL (cT (sR (cE (sR (bB (sR (sL (sR (body))))))))))) (.seq (.seq (.code (sL (sL (sR (cT (sR (cE (sR (bB (sR (sL (sR (body))))))))))))) (.block 1 (.cut (l2E fun p_0 x4b x4o out_6b out_6o x53a x53l x53c x54 x55 m => l2  p_0 x4b x4o out_6b out_6o x53a x53l x53c x54 x55 R m) (.loop (lP (bB (sR (sL (sR (cT (sR (cE (sR (bB (sR (sL (sR (body)))))))))))))))))) (.code (sR (sR (cT (sR (cE (sR (bB (sR (sL (sR (body)))))))))))))) (.seq (.code (sL (cE (sR (cE (sR (bB (sR (sL (sR (body))))))))))) (.cond (.tmp 97) (.seq (.code (sL (cT (sR (cE (sR (cE (sR (bB (sR (sL (sR (body))))))))))))) (.seq (.seq (.code (sL (sL (sR (cT (sR (cE (sR (cE (sR (bB (sR (sL (sR (body))))))))))))))) (.block 3 (.cut (l5E fun p_0 x4b x4o out_10b out_10o x100a x100l x100c x101 x102 m => l5  p_0 x4b x4o out_10b out_10o x100a x100l x100c x101 x102 R m) (.loop (lP (bB (sR (sL (sR (cT (sR (cE (sR (cE (sR (bB (sR (sL (sR (body)))))))))))))))))))) (.code (sR (sR (cT (sR (cE (sR (cE (sR (bB (sR (sL (sR (body)))))))))))))))) (.code (cE (sR (cE (sR (cE (sR (bB (sR (sL (sR (body)))))))))))))))))))) (.seq (.code (sL (sR (sR (body))))) (.seq (.code (sL (sR (sR (sR (body)))))) (.cut (k6E fun r_3b r_3o x4b x4o q_14b q_14o m => k6  r_3b r_3o x4b x4o q_14b q_14o R m) (sR (sR (sR (sR (body))))))))))
abbrev k6Q  (R : Ending → Mem → Prop) : Exit → Env → Mem → Prop := (bodyQ P fn R)
abbrev k1Q  (R : Ending → Mem → Prop) : Exit → Env → Mem → Prop := (blockQ 0 (thenQ (acpt P od (panicR R) (.seq (.code (sL (sR (sR (body))))) (.seq (.code (sL (sR (sR (sR (body)))))) (.cut (k6E fun r_3b r_3o x4b x4o q_14b q_14o m => k6  r_3b r_3o x4b x4o q_14b q_14o R m) (sR (sR (sR (sR (body)))))))) (bodyQ P fn R)) (bodyQ P fn R)))
abbrev l2Q  (R : Ending → Mem → Prop) : Exit → Env → Mem → Prop := (blockQ 1 (thenQ (acpt P od (panicR R) (.code (sR (sR (cT (sR (cE (sR (bB (sR (sL (sR (body)))))))))))) (blockQ 0 (thenQ (acpt P od (panicR R) (.seq (.code (sL (sR (sR (body))))) (.seq (.code (sL (sR (sR (sR (body)))))) (.cut (k6E fun r_3b r_3o x4b x4o q_14b q_14o m => k6  r_3b r_3o x4b x4o q_14b q_14o R m) (sR (sR (sR (sR (body)))))))) (bodyQ P fn R)) (bodyQ P fn R)))) (blockQ 0 (thenQ (acpt P od (panicR R) (.seq (.code (sL (sR (sR (body))))) (.seq (.code (sL (sR (sR (sR (body)))))) (.cut (k6E fun r_3b r_3o x4b x4o q_14b q_14o m => k6  r_3b r_3o x4b x4o q_14b q_14o R m) (sR (sR (sR (sR (body)))))))) (bodyQ P fn R)) (bodyQ P fn R)))))
abbrev l5Q  (R : Ending → Mem → Prop) : Exit → Env → Mem → Prop := (blockQ 3 (thenQ (acpt P od (panicR R) (.code (sR (sR (cT (sR (cE (sR (cE (sR (bB (sR (sL (sR (body)))))))))))))) (blockQ 0 (thenQ (acpt P od (panicR R) (.seq (.code (sL (sR (sR (body))))) (.seq (.code (sL (sR (sR (sR (body)))))) (.cut (k6E fun r_3b r_3o x4b x4o q_14b q_14o m => k6  r_3b r_3o x4b x4o q_14b q_14o R m) (sR (sR (sR (sR (body)))))))) (bodyQ P fn R)) (bodyQ P fn R)))) (blockQ 0 (thenQ (acpt P od (panicR R) (.seq (.code (sL (sR (sR (body))))) (.seq (.code (sL (sR (sR (sR (body)))))) (.cut (k6E fun r_3b r_3o x4b x4o q_14b q_14o m => k6  r_3b r_3o x4b x4o q_14b q_14o R m) (sR (sR (sR (sR (body)))))))) (bodyQ P fn R)) (bodyQ P fn R)))))
abbrev k3Q (K2 : Option Addr → Nat → Nat → Nat → Nat → Option Addr → Nat → Nat → Int → Int → Mem → Prop) (R : Ending → Mem → Prop) : Exit → Env → Mem → Prop := (blockQ 2 (thenQ (acpt P od (panicR R) (.code (sR (sR (sR (lP (bB (sR (sL (sR (cT (sR (cE (sR (bB (sR (sL (sR (body)))))))))))))))))) (thenQ (l2E K2) (l2Q  R))) (thenQ (l2E K2) (l2Q  R))))
abbrev k4Q (K2 : Option Addr → Nat → Nat → Nat → Nat → Option Addr → Nat → Nat → Int → Int → Mem → Prop) (R : Ending → Mem → Prop) : Exit → Env → Mem → Prop := (k3Q K2 R)
theorem k1_eq  (R : Ending → Mem → Prop) (x4b : Nat) (x4o : Nat) (n_5 : Int) (ρ : Env) (m : Mem) : k1  x4b x4o n_5 R m = acpt P od (panicR R) (k1A  R) (k1Q  R) (upd (upd ρ 5 (.int .i64 n_5)) 4 (.pointer (some ⟨x4b, x4o, none⟩))) m := by kernel_rfl
theorem k1_er  (R : Ending → Mem → Prop) : (k1A  R).erase = sR (sR (cT (sR (bB (sR (sL (sR (body)))))))) := by kernel_rfl
theorem k1_ok  (R : Ending → Mem → Prop) (ρ : Env) (m : Mem) (h : (k1E fun x4b x4o n_5 m => k1  x4b x4o n_5 R m) ρ m) : cpt P od (panicR R) (sR (sR (cT (sR (bB (sR (sL (sR (body))))))))) (k1Q  R) ρ m := by
  unfold k1E at h
  obtain ⟨x4b, x4o, e4, h⟩ := h.ex
  obtain ⟨n_5, e5, h⟩ := h.ex
  rw [← upd_self e4, ← upd_self e5]
  rw [← k1_er  R]
  refine acpt_sound (P := P) (k1A  R) _ _ _ True.intro ?_
  exact Eq.mp (k1_eq  R x4b x4o n_5 ρ m) h
theorem k4_eq (K2 : Option Addr → Nat → Nat → Nat → Nat → Option Addr → Nat → Nat → Int → Int → Mem → Prop) (R : Ending → Mem → Prop) (p_0 : Option Addr) (x4b : Nat) (x4o : Nat) (out_6b : Nat) (out_6o : Nat) (q_9b : Nat) (q_9o : Nat) (x53a : Option Addr) (x53l : Nat) (x53c : Nat) (x54 : Int) (x55 : Int) (ρ : Env) (m : Mem) : k4 K2 p_0 x4b x4o out_6b out_6o q_9b q_9o x53a x53l x53c x54 x55 R m = acpt P od (panicR R) (k4A K2 R) (k4Q K2 R) (upd (upd (upd (upd (upd (upd (upd ρ 55 (.int .i64 x55)) 54 (.int .i64 x54)) 53 (.slice x53a x53l x53c)) 9 (.pointer (some ⟨q_9b, q_9o, none⟩))) 6 (.pointer (some ⟨out_6b, out_6o, none⟩))) 4 (.pointer (some ⟨x4b, x4o, none⟩))) 0 (.pointer p_0)) m := by kernel_rfl
theorem k4_er (K2 : Option Addr → Nat → Nat → Nat → Nat → Option Addr → Nat → Nat → Int → Int → Mem → Prop) (R : Ending → Mem → Prop) : (k4A K2 R).erase = sR (sR (sR (sR (sR (bB (sL (sR (sR (lP (bB (sR (sL (sR (cT (sR (cE (sR (bB (sR (sL (sR (body)))))))))))))))))))))) := by kernel_rfl
theorem k4_ok (K2 : Option Addr → Nat → Nat → Nat → Nat → Option Addr → Nat → Nat → Int → Int → Mem → Prop) (R : Ending → Mem → Prop) (ρ : Env) (m : Mem) (h : (k4E fun p_0 x4b x4o out_6b out_6o q_9b q_9o x53a x53l x53c x54 x55 m => k4 K2 p_0 x4b x4o out_6b out_6o q_9b q_9o x53a x53l x53c x54 x55 R m) ρ m) : cpt P od (panicR R) (sR (sR (sR (sR (sR (bB (sL (sR (sR (lP (bB (sR (sL (sR (cT (sR (cE (sR (bB (sR (sL (sR (body))))))))))))))))))))))) (k4Q K2 R) ρ m := by
  unfold k4E at h
  obtain ⟨p_0, e0, h⟩ := h.ex
  obtain ⟨x4b, x4o, e4, h⟩ := h.ex
  obtain ⟨out_6b, out_6o, e6, h⟩ := h.ex
  obtain ⟨q_9b, q_9o, e9, h⟩ := h.ex
  obtain ⟨x53a, x53l, x53c, e53, h⟩ := h.ex
  obtain ⟨x54, e54, h⟩ := h.ex
  obtain ⟨x55, e55, h⟩ := h.ex
  rw [← upd_self e0, ← upd_self e4, ← upd_self e6, ← upd_self e9, ← upd_self e53, ← upd_self e54, ← upd_self e55]
  rw [← k4_er K2 R]
  refine acpt_sound (P := P) (k4A K2 R) _ _ _ True.intro ?_
  exact Eq.mp (k4_eq K2 R p_0 x4b x4o out_6b out_6o q_9b q_9o x53a x53l x53c x54 x55 ρ m) h
theorem k3_eq (K2 : Option Addr → Nat → Nat → Nat → Nat → Option Addr → Nat → Nat → Int → Int → Mem → Prop) (R : Ending → Mem → Prop) (p_0 : Option Addr) (x4b : Nat) (x4o : Nat) (out_6b : Nat) (out_6o : Nat) (q_9b : Nat) (q_9o : Nat) (x53a : Option Addr) (x53l : Nat) (x53c : Nat) (x54 : Int) (x55 : Int) (ρ : Env) (m : Mem) : k3 K2 p_0 x4b x4o out_6b out_6o q_9b q_9o x53a x53l x53c x54 x55 R m = acpt P od (panicR R) (k3A K2 R) (k3Q K2 R) (upd (upd (upd (upd (upd (upd (upd ρ 55 (.int .i64 x55)) 54 (.int .i64 x54)) 53 (.slice x53a x53l x53c)) 9 (.pointer (some ⟨q_9b, q_9o, none⟩))) 6 (.pointer (some ⟨out_6b, out_6o, none⟩))) 4 (.pointer (some ⟨x4b, x4o, none⟩))) 0 (.pointer p_0)) m := by kernel_rfl
theorem k3_er (K2 : Option Addr → Nat → Nat → Nat → Nat → Option Addr → Nat → Nat → Int → Int → Mem → Prop) (R : Ending → Mem → Prop) : (k3A K2 R).erase = sR (sR (sR (sR (bB (sL (sR (sR (lP (bB (sR (sL (sR (cT (sR (cE (sR (bB (sR (sL (sR (body))))))))))))))))))))) := by kernel_rfl
theorem k3_ok (K2 : Option Addr → Nat → Nat → Nat → Nat → Option Addr → Nat → Nat → Int → Int → Mem → Prop) (R : Ending → Mem → Prop) (ρ : Env) (m : Mem) (h : (k3E fun p_0 x4b x4o out_6b out_6o q_9b q_9o x53a x53l x53c x54 x55 m => k3 K2 p_0 x4b x4o out_6b out_6o q_9b q_9o x53a x53l x53c x54 x55 R m) ρ m) : cpt P od (panicR R) (sR (sR (sR (sR (bB (sL (sR (sR (lP (bB (sR (sL (sR (cT (sR (cE (sR (bB (sR (sL (sR (body)))))))))))))))))))))) (k3Q K2 R) ρ m := by
  unfold k3E at h
  obtain ⟨p_0, e0, h⟩ := h.ex
  obtain ⟨x4b, x4o, e4, h⟩ := h.ex
  obtain ⟨out_6b, out_6o, e6, h⟩ := h.ex
  obtain ⟨q_9b, q_9o, e9, h⟩ := h.ex
  obtain ⟨x53a, x53l, x53c, e53, h⟩ := h.ex
  obtain ⟨x54, e54, h⟩ := h.ex
  obtain ⟨x55, e55, h⟩ := h.ex
  rw [← upd_self e0, ← upd_self e4, ← upd_self e6, ← upd_self e9, ← upd_self e53, ← upd_self e54, ← upd_self e55]
  rw [← k3_er K2 R]
  refine acpt_sound (P := P) (k3A K2 R) _ _ _ ⟨(fun ρ m h => k4_ok K2 R ρ m h), True.intro⟩ ?_
  exact Eq.mp (k3_eq K2 R p_0 x4b x4o out_6b out_6o q_9b q_9o x53a x53l x53c x54 x55 ρ m) h
theorem l2_eq  (K2 : Option Addr → Nat → Nat → Nat → Nat → Option Addr → Nat → Nat → Int → Int → Mem → Prop) (R : Ending → Mem → Prop) (p_0 : Option Addr) (x4b : Nat) (x4o : Nat) (out_6b : Nat) (out_6o : Nat) (x53a : Option Addr) (x53l : Nat) (x53c : Nat) (x54 : Int) (x55 : Int) (ρ : Env) (m : Mem) : l2B  K2 p_0 x4b x4o out_6b out_6o x53a x53l x53c x54 x55 R m = acpt P od (panicR R) (l2A  K2 R) (thenQ (l2E K2) (l2Q  R)) (upd (upd (upd (upd (upd (upd ρ 55 (.int .i64 x55)) 54 (.int .i64 x54)) 53 (.slice x53a x53l x53c)) 6 (.pointer (some ⟨out_6b, out_6o, none⟩))) 4 (.pointer (some ⟨x4b, x4o, none⟩))) 0 (.pointer p_0)) m := by kernel_rfl
theorem l2_er  (K2 : Option Addr → Nat → Nat → Nat → Nat → Option Addr → Nat → Nat → Int → Int → Mem → Prop) (R : Ending → Mem → Prop) : (l2A  K2 R).erase = lP (bB (sR (sL (sR (cT (sR (cE (sR (bB (sR (sL (sR (body))))))))))))) := by kernel_rfl
theorem l2_ok  (R : Ending → Mem → Prop) (ρ : Env) (m : Mem) (h : (l2E fun p_0 x4b x4o out_6b out_6o x53a x53l x53c x54 x55 m => l2  p_0 x4b x4o out_6b out_6o x53a x53l x53c x54 x55 R m) ρ m) : cpt P od (panicR R) (.loop (lP (bB (sR (sL (sR (cT (sR (cE (sR (bB (sR (sL (sR (body))))))))))))))) (l2Q  R) ρ m := by
  unfold l2E at h
  obtain ⟨p_0, e0, h⟩ := h.ex
  obtain ⟨x4b, x4o, e4, h⟩ := h.ex
  obtain ⟨out_6b, out_6o, e6, h⟩ := h.ex
  obtain ⟨x53a, x53l, x53c, e53, h⟩ := h.ex
  obtain ⟨x54, e54, h⟩ := h.ex
  obtain ⟨x55, e55, h⟩ := h.ex
  obtain ⟨I, N, h0, hs⟩ := h
  refine ⟨fun N => l2E (I N), N, (by show l2E (I N) ρ m; unfold l2E; rw [e0, e4, e6, e53, e54, e55]; exact h0), ?_⟩
  clear h0 e0 e4 e6 e53 e54 e55
  intro N ρ m h
  unfold l2E at h
  obtain ⟨p_0, e0, h⟩ := h.ex
  obtain ⟨x4b, x4o, e4, h⟩ := h.ex
  obtain ⟨out_6b, out_6o, e6, h⟩ := h.ex
  obtain ⟨x53a, x53l, x53c, e53, h⟩ := h.ex
  obtain ⟨x54, e54, h⟩ := h.ex
  obtain ⟨x55, e55, h⟩ := h.ex
  refine cpt_mono (P := P) (lP (bB (sR (sL (sR (cT (sR (cE (sR (bB (sR (sL (sR (body)))))))))))))) (Q := thenQ (l2E fun p_0 x4b x4o out_6b out_6o x53a x53l x53c x54 x55 m => ∃ N1, N1 < N ∧ I N1 p_0 x4b x4o out_6b out_6o x53a x53l x53c x54 x55 m) (l2Q  R)) (fun e ρ m h => ?_) ρ m ?_
  · cases e with
    | normal =>
      have h : l2E (fun p_0 x4b x4o out_6b out_6o x53a x53l x53c x54 x55 m => ∃ N1, N1 < N ∧ I N1 p_0 x4b x4o out_6b out_6o x53a x53l x53c x54 x55 m) ρ m := h
      unfold l2E at h
      obtain ⟨p_0, e0, h⟩ := h.ex
      obtain ⟨x4b, x4o, e4, h⟩ := h.ex
      obtain ⟨out_6b, out_6o, e6, h⟩ := h.ex
      obtain ⟨x53a, x53l, x53c, e53, h⟩ := h.ex
      obtain ⟨x54, e54, h⟩ := h.ex
      obtain ⟨x55, e55, h⟩ := h.ex
      obtain ⟨N1, hlt, h⟩ := h
      exact ⟨N1, hlt, (by show l2E (I N1) ρ m; unfold l2E; rw [e0, e4, e6, e53, e54, e55]; exact h)⟩
    | _ => exact h
  have hh := hs N p_0 x4b x4o out_6b out_6o x53a x53l x53c x54 x55 m h
  generalize (fun p_0 x4b x4o out_6b out_6o x53a x53l x53c x54 x55 m => ∃ N1, N1 < N ∧ I N1 p_0 x4b x4o out_6b out_6o x53a x53l x53c x54 x55 m : Option Addr → Nat → Nat → Nat → Nat → Option Addr → Nat → Nat → Int → Int → Mem → Prop) = K2 at hh ⊢
  rw [← upd_self e0, ← upd_self e4, ← upd_self e6, ← upd_self e53, ← upd_self e54, ← upd_self e55]
  rw [← l2_er  K2 R]
  refine acpt_sound (P := P) (l2A  K2 R) _ _ _ ⟨⟨⟨True.intro, ⟨⟨⟨⟨(fun ρ m h => k3_ok K2 R ρ m h), True.intro⟩, True.intro⟩, True.intro⟩, True.intro⟩⟩, True.intro⟩, True.intro⟩ ?_
  exact Eq.mp (l2_eq  K2 R p_0 x4b x4o out_6b out_6o x53a x53l x53c x54 x55 ρ m) hh
theorem l5_eq  (K5 : Option Addr → Nat → Nat → Nat → Nat → Option Addr → Nat → Nat → Int → Int → Mem → Prop) (R : Ending → Mem → Prop) (p_0 : Option Addr) (x4b : Nat) (x4o : Nat) (out_10b : Nat) (out_10o : Nat) (x100a : Option Addr) (x100l : Nat) (x100c : Nat) (x101 : Int) (x102 : Int) (ρ : Env) (m : Mem) : l5B  K5 p_0 x4b x4o out_10b out_10o x100a x100l x100c x101 x102 R m = acpt P od (panicR R) (l5A  K5 R) (thenQ (l5E K5) (l5Q  R)) (upd (upd (upd (upd (upd (upd ρ 102 (.int .i64 x102)) 101 (.int .i64 x101)) 100 (.slice x100a x100l x100c)) 10 (.pointer (some ⟨out_10b, out_10o, none⟩))) 4 (.pointer (some ⟨x4b, x4o, none⟩))) 0 (.pointer p_0)) m := by kernel_rfl
theorem l5_er  (K5 : Option Addr → Nat → Nat → Nat → Nat → Option Addr → Nat → Nat → Int → Int → Mem → Prop) (R : Ending → Mem → Prop) : (l5A  K5 R).erase = lP (bB (sR (sL (sR (cT (sR (cE (sR (cE (sR (bB (sR (sL (sR (body))))))))))))))) := by kernel_rfl
theorem l5_ok  (R : Ending → Mem → Prop) (ρ : Env) (m : Mem) (h : (l5E fun p_0 x4b x4o out_10b out_10o x100a x100l x100c x101 x102 m => l5  p_0 x4b x4o out_10b out_10o x100a x100l x100c x101 x102 R m) ρ m) : cpt P od (panicR R) (.loop (lP (bB (sR (sL (sR (cT (sR (cE (sR (cE (sR (bB (sR (sL (sR (body))))))))))))))))) (l5Q  R) ρ m := by
  unfold l5E at h
  obtain ⟨p_0, e0, h⟩ := h.ex
  obtain ⟨x4b, x4o, e4, h⟩ := h.ex
  obtain ⟨out_10b, out_10o, e10, h⟩ := h.ex
  obtain ⟨x100a, x100l, x100c, e100, h⟩ := h.ex
  obtain ⟨x101, e101, h⟩ := h.ex
  obtain ⟨x102, e102, h⟩ := h.ex
  obtain ⟨I, N, h0, hs⟩ := h
  refine ⟨fun N => l5E (I N), N, (by show l5E (I N) ρ m; unfold l5E; rw [e0, e4, e10, e100, e101, e102]; exact h0), ?_⟩
  clear h0 e0 e4 e10 e100 e101 e102
  intro N ρ m h
  unfold l5E at h
  obtain ⟨p_0, e0, h⟩ := h.ex
  obtain ⟨x4b, x4o, e4, h⟩ := h.ex
  obtain ⟨out_10b, out_10o, e10, h⟩ := h.ex
  obtain ⟨x100a, x100l, x100c, e100, h⟩ := h.ex
  obtain ⟨x101, e101, h⟩ := h.ex
  obtain ⟨x102, e102, h⟩ := h.ex
  refine cpt_mono (P := P) (lP (bB (sR (sL (sR (cT (sR (cE (sR (cE (sR (bB (sR (sL (sR (body)))))))))))))))) (Q := thenQ (l5E fun p_0 x4b x4o out_10b out_10o x100a x100l x100c x101 x102 m => ∃ N1, N1 < N ∧ I N1 p_0 x4b x4o out_10b out_10o x100a x100l x100c x101 x102 m) (l5Q  R)) (fun e ρ m h => ?_) ρ m ?_
  · cases e with
    | normal =>
      have h : l5E (fun p_0 x4b x4o out_10b out_10o x100a x100l x100c x101 x102 m => ∃ N1, N1 < N ∧ I N1 p_0 x4b x4o out_10b out_10o x100a x100l x100c x101 x102 m) ρ m := h
      unfold l5E at h
      obtain ⟨p_0, e0, h⟩ := h.ex
      obtain ⟨x4b, x4o, e4, h⟩ := h.ex
      obtain ⟨out_10b, out_10o, e10, h⟩ := h.ex
      obtain ⟨x100a, x100l, x100c, e100, h⟩ := h.ex
      obtain ⟨x101, e101, h⟩ := h.ex
      obtain ⟨x102, e102, h⟩ := h.ex
      obtain ⟨N1, hlt, h⟩ := h
      exact ⟨N1, hlt, (by show l5E (I N1) ρ m; unfold l5E; rw [e0, e4, e10, e100, e101, e102]; exact h)⟩
    | _ => exact h
  have hh := hs N p_0 x4b x4o out_10b out_10o x100a x100l x100c x101 x102 m h
  generalize (fun p_0 x4b x4o out_10b out_10o x100a x100l x100c x101 x102 m => ∃ N1, N1 < N ∧ I N1 p_0 x4b x4o out_10b out_10o x100a x100l x100c x101 x102 m : Option Addr → Nat → Nat → Nat → Nat → Option Addr → Nat → Nat → Int → Int → Mem → Prop) = K5 at hh ⊢
  rw [← upd_self e0, ← upd_self e4, ← upd_self e10, ← upd_self e100, ← upd_self e101, ← upd_self e102]
  rw [← l5_er  K5 R]
  refine acpt_sound (P := P) (l5A  K5 R) _ _ _ True.intro ?_
  exact Eq.mp (l5_eq  K5 R p_0 x4b x4o out_10b out_10o x100a x100l x100c x101 x102 ρ m) hh
theorem k6_eq  (R : Ending → Mem → Prop) (r_3b : Nat) (r_3o : Nat) (x4b : Nat) (x4o : Nat) (q_14b : Nat) (q_14o : Nat) (ρ : Env) (m : Mem) : k6  r_3b r_3o x4b x4o q_14b q_14o R m = acpt P od (panicR R) (k6A  R) (k6Q  R) (upd (upd (upd ρ 14 (.pointer (some ⟨q_14b, q_14o, none⟩))) 4 (.pointer (some ⟨x4b, x4o, none⟩))) 3 (.pointer (some ⟨r_3b, r_3o, none⟩))) m := by kernel_rfl
theorem k6_er  (R : Ending → Mem → Prop) : (k6A  R).erase = sR (sR (sR (sR (body)))) := by kernel_rfl
theorem k6_ok  (R : Ending → Mem → Prop) (ρ : Env) (m : Mem) (h : (k6E fun r_3b r_3o x4b x4o q_14b q_14o m => k6  r_3b r_3o x4b x4o q_14b q_14o R m) ρ m) : cpt P od (panicR R) (sR (sR (sR (sR (body))))) (k6Q  R) ρ m := by
  unfold k6E at h
  obtain ⟨r_3b, r_3o, e3, h⟩ := h.ex
  obtain ⟨x4b, x4o, e4, h⟩ := h.ex
  obtain ⟨q_14b, q_14o, e14, h⟩ := h.ex
  rw [← upd_self e3, ← upd_self e4, ← upd_self e14]
  rw [← k6_er  R]
  refine acpt_sound (P := P) (k6A  R) _ _ _ True.intro ?_
  exact Eq.mp (k6_eq  R r_3b r_3o x4b x4o q_14b q_14o ρ m) h
theorem e0_eq (p_0 : Option Addr) (r_1_0 : Int) (r_1_1 : Int) (r_1_2 : Int) (r_1_3 : Int) (r_1_4 : Int) (r_1_5a : Option Addr) (r_1_5l : Nat) (r_1_5c : Nat) (R : Ending → Mem → Prop) (m : Mem) : e0 p_0 r_1_0 r_1_1 r_1_2 r_1_3 r_1_4 r_1_5a r_1_5l r_1_5c R m = acpt P od (panicR R) (e0A R) (bodyQ P fn R) (argE (#[.pointer p_0, .agg #[.int .i64 r_1_0, .int .u64 r_1_1, .int .u64 r_1_2, .int .u64 r_1_3, .int .u64 r_1_4, .slice r_1_5a r_1_5l r_1_5c]] : Array Value).toList) m := by kernel_rfl
theorem ok (p_0 : Option Addr) (r_1_0 : Int) (r_1_1 : Int) (r_1_2 : Int) (r_1_3 : Int) (r_1_4 : Int) (r_1_5a : Option Addr) (r_1_5l : Nat) (r_1_5c : Nat) (R : Ending → Mem → Prop) (m : Mem) (h : e0 p_0 r_1_0 r_1_1 r_1_2 r_1_3 r_1_4 r_1_5a r_1_5l r_1_5c R m) : HC P id #[.pointer p_0, .agg #[.int .i64 r_1_0, .int .u64 r_1_1, .int .u64 r_1_2, .int .u64 r_1_3, .int .u64 r_1_4, .slice r_1_5a r_1_5l r_1_5c]] m R := by
  refine HC_of (fn := fn) (c := body) (od := od) (tb := tb) Go.Proofs.Try.func22 (by kernel_rfl) (by kernel_rfl) follows (by kernel_rfl) (of_decide_eq_true (by kernel_rfl)) ?_
  have he : (e0A R).erase = body := by kernel_rfl
  rw [← he]
  refine acpt_sound (P := P) (e0A R) _ _ _ ⟨⟨⟨⟨(fun ρ m h => k6_ok  R ρ m h), True.intro⟩, True.intro⟩, ⟨⟨⟨⟨⟨(fun ρ m h => k1_ok  R ρ m h), True.intro⟩, True.intro⟩, ⟨⟨⟨⟨True.intro, ⟨(fun ρ m h => l2_ok  R ρ m h), True.intro⟩⟩, True.intro⟩, ⟨⟨⟨⟨True.intro, ⟨(fun ρ m h => l5_ok  R ρ m h), True.intro⟩⟩, True.intro⟩, True.intro⟩, True.intro⟩⟩, True.intro⟩⟩, True.intro⟩, True.intro⟩⟩, True.intro⟩ ?_
  exact Eq.mp (e0_eq p_0 r_1_0 r_1_1 r_1_2 r_1_3 r_1_4 r_1_5a r_1_5l r_1_5c R m) h
end place_Places_walk
end
end Go.E
set_option linter.unusedVariables false
set_option maxRecDepth 100000
namespace Go.E
open Go.H
noncomputable section
/-! ### eyot/eyotref8.spans -/
namespace eyotref8_spans
noncomputable def fn : Func := Go.Proofs.Try.f26
noncomputable def body : Code := fn.body.getD .skip
def od : Nat → Ord := fun | 8 => ordL [(0, 3), (1, 3), (2, 3), (3, 1), (4, 3), (5, 3), (6, 3), (7, 1), (8, 3), (9, 3), (10, 3), (11, 0), (12, 0), (13, 3), (14, 2)] .done | 21 => ordL [(0, 3), (1, 3), (2, 3), (3, 1), (4, 3), (5, 3), (6, 3), (7, 3), (8, 1), (9, 3), (10, 3), (11, 0), (12, 3), (13, 3), (14, 3), (15, 3), (16, 1), (17, 3), (18, 3), (19, 0), (20, 3), (21, 3), (22, 2)] .done | 47 => ordL [(0, 3), (1, 3), (2, 3), (3, 1), (4, 3), (5, 3), (6, 3), (7, 3), (8, 1), (9, 3), (10, 3), (11, 0), (12, 3), (13, 3), (14, 3), (15, 3), (16, 1), (17, 3), (18, 3), (19, 0), (20, 3), (21, 3), (22, 2)] .done | _ => .done
def tb : Nat → Tab := fun | 8 => (16384, [0, 0, 3, 7, 0, 16, 0, 64, 0, 0, 768, 1792, 4032, 8191, 16383], [(0, 64, 34), (0, 128, 35), (3, 25769803776, 36), (4, 34359738368, 37), (0, 128, 38), (16, 137438953472, 39), (0, 4, 40), (64, 549755813888, 41), (0, 2, 42), (0, 128, 43), (768, 6597069766656, 44), (1024, 8796093022208, 45), (2176, 18691697672192, 46), (8191, 343597383680, 47), (16383, 105553116266496, 0)]) | 21 => (4194304, [0, 0, 3, 7, 0, 0, 0, 96, 224, 0, 992, 2016, 4064, 8160, 8160, 32736, 65504, 8160, 262112, 524256, 1048544, 2097151, 4194303], [(0, 64, 76), (0, 1024, 77), (3, 113336795588871485128704, 78), (4, 151115727451828646838272, 79), (0, 2048, 80), (0, 64, 81), (0, 1024, 82), (96, 3626777458843887524118528, 83), (128, 4835703278458516698824704, 84), (0, 2048, 85), (768, 29014219670751100192948224, 86), (1024, 38685626227668133590597632, 87), (2048, 77371252455336267181195264, 88), (4096, 154742504910672534362391040, 89), (4096, 154742504910672534362391552, 90), (28672, 1083197534374707740536733696, 91), (36864, 1392682544196052809261514752, 92), (4096, 154742504910672534362392576, 93), (200704, 7582382740622954183757135872, 94), (266240, 10058262819193714733555384320, 95), (528384, 19961783133476756932748378112, 96), (2097151, 906694364710971881029632, 97), (4194303, 118842243771396506390315925504, 0)]) | 47 => (4194304, [0, 0, 3, 7, 0, 0, 0, 96, 224, 0, 992, 2016, 4064, 8160, 8160, 32736, 65504, 8160, 262112, 524256, 1048544, 2097151, 4194303], [(0, 64, 170), (0, 32768, 171), (3, 2244866514940266882360859903052210718191512386011136, 172), (4, 2993155353253689176481146537402947624255349848014848, 173), (0, 131072, 174), (0, 64, 175), (0, 32768, 176), (96, 71835728478088540235547516897670742982128396352356352, 177), (128, 95780971304118053647396689196894323976171195136475136, 178), (0, 131072, 179), (768, 574685827824708321884380135181365943857027170818850816, 180), (1024, 766247770432944429179173513575154591809369561091801088, 181), (2048, 1532495540865888858358347027150309183618739122183602176, 182), (4096, 3064991081731777716716694054300618367237478244367212544, 183), (4096, 3064991081731777716716694054300618367237478244367269888, 184), (28672, 21454937572122444017016858380104328570662347710570430464, 185), (36864, 27584919735585999450450246488705565305137304199304839168, 186), (4096, 3064991081731777716716694054300618367237478244367335424, 187), (200704, 150184563004857108119118008660730299994636433973993013248, 188), (266240, 199224420312565551586585113529540193870436085883868282880, 189), (528384, 395383849543399325456453533004779769373634693523369361408, 190), (2097151, 17958932119522135058886879224417685745532099088089088, 191), (4194303, 2353913150770005286438421033702874906038383291674012942336, 0)]) | _ => (0, [], [])
def l1E (K : Option Addr → Nat → Nat → Nat → Nat → Int → Option Addr → Nat → Nat → Int → Mem → Prop) : Env → Mem → Prop := fun ρ m => UnS (ρ 1) fun w_1a w_1l w_1c => UnPA (ρ 2) fun r_2b r_2o => UnI (ρ 5) .i64 fun n_5 => UnS (ρ 6) fun t_6a t_6l t_6c => UnI (ρ 7) .i64 fun i_7 => K w_1a w_1l w_1c r_2b r_2o n_5 t_6a t_6l t_6c i_7 m
def l1B  (K1 : Option Addr → Nat → Nat → Nat → Nat → Int → Option Addr → Nat → Nat → Int → Mem → Prop) (w_1a : Option Addr) (w_1l : Nat) (w_1c : Nat) (r_2b : Nat) (r_2o : Nat) (n_5 : Int) (t_6a : Option Addr) (t_6l : Nat) (t_6c : Nat) (i_7 : Int) (R : Ending → Mem → Prop) (m : Mem) : Prop :=
 Br (decide ((IntKind.i64.wrap (i_7 + 1)) < n_5)) (
  Sub m fun r1 =>
  IxS t_6a t_6l i_7 1 fun x35b x35o =>
  LdV r1 x35b x35o fun v =>
  UnS v fun x36a x36l x36c =>
  LdV r1 r_2b (r_2o + 1) fun v =>
  UnI v .u64 fun x40_0 =>
  LdV r1 r_2b ((r_2o + 1) + 1) fun v =>
  UnI v .u64 fun x40_1 =>
  LdV r1 r_2b ((r_2o + 1) + 2) fun v =>
  UnI v .u64 fun x40_2 =>
  LdV r1 r_2b ((r_2o + 1) + 3) fun v =>
  UnI v .u64 fun x40_3 =>
  IxS w_1a w_1l i_7 1 fun x43b x43o =>
  LdV m x43b x43o fun v =>
  UnI v .u8 fun x44 =>
  HC P eyotref8_Has.id #[.agg #[.int .u64 x40_0, .int .u64 x40_1, .int .u64 x40_2, .int .u64 x40_3], .int .u8 x44] m (Cont (fun v m2 =>
    UnB v fun x45 =>
    Lk r1 m2 fun r3 =>
    IxS x36a x36l (IntKind.i64.wrap (i_7 + 1)) 1 fun x46b x46o =>
    St1 m2 x46b x46o (.bool x45) fun m4 =>
    K1 w_1a w_1l w_1c r_2b r_2o n_5 t_6a t_6l t_6c (IntKind.i64.wrap (i_7 + 1)) m4) (panicR R))) (
  R (.returned (.slice t_6a t_6l t_6c)) m)
def l1  (w_1a : Option Addr) (w_1l : Nat) (w_1c : Nat) (r_2b : Nat) (r_2o : Nat) (n_5 : Int) (t_6a : Option Addr) (t_6l : Nat) (t_6c : Nat) (i_7 : Int) (R : Ending → Mem → Prop) (m : Mem) : Prop :=
  ∃ (I : Nat → Option Addr → Nat → Nat → Nat → Nat → Int → Option Addr → Nat → Nat → Int → Mem → Prop) (N : Nat), I N w_1a w_1l w_1c r_2b r_2o n_5 t_6a t_6l t_6c i_7 m ∧ ∀ N w_1a w_1l w_1c r_2b r_2o n_5 t_6a t_6l t_6c i_7 m, I N w_1a w_1l w_1c r_2b r_2o n_5 t_6a t_6l t_6c i_7 m → l1B  (fun w_1a w_1l w_1c r_2b r_2o n_5 t_6a t_6l t_6c i_7 m => ∃ N1, N1 < N ∧ I N1 w_1a w_1l w_1c r_2b r_2o n_5 t_6a t_6l t_6c i_7 m) w_1a w_1l w_1c r_2b r_2o n_5 t_6a t_6l t_6c i_7 R m
noncomputable def l1A  (K1 : Option Addr → Nat → Nat → Nat → Nat → Int → Option Addr → Nat → Nat → Int → Mem → Prop) (R : Ending → Mem → Prop) : ACode := (.code (lP (bB (sR (sL (cT (sR (bB (sR (sL (sR (sR (sR (body))))))))))))))
def l4E (K : Option Addr → Nat → Nat → Nat → Nat → Int → Option Addr → Nat → Nat → Int → Option Addr → Nat → Nat → Int → Int → Mem → Prop) : Env → Mem → Prop := fun ρ m => UnS (ρ 1) fun w_1a w_1l w_1c => UnPA (ρ 2) fun r_2b r_2o => UnI (ρ 5) .i64 fun n_5 => UnS (ρ 6) fun t_6a t_6l t_6c => UnI (ρ 8) .i64 fun k_8 => UnS (ρ 9) fun x_9a x_9l x_9c => UnI (ρ 10) .i64 fun i_10 => UnI (ρ 11) .i64 fun j_11 => K w_1a w_1l w_1c r_2b r_2o n_5 t_6a t_6l t_6c k_8 x_9a x_9l x_9c i_10 j_11 m
def l4B (K2 : Option Addr → Nat → Nat → Nat → Nat → Int → Option Addr → Nat → Nat → Int → Mem → Prop) (K3 : Option Addr → Nat → Nat → Nat → Nat → Int → Option Addr → Nat → Nat → Int → Option Addr → Nat → Nat → Int → Mem → Prop) (K4 : Option Addr → Nat → Nat → Nat → Nat → Int → Option Addr → Nat → Nat → Int → Option Addr → Nat → Nat → Int → Int → Mem → Prop) (w_1a : Option Addr) (w_1l : Nat) (w_1c : Nat) (r_2b : Nat) (r_2o : Nat) (n_5 : Int) (t_6a : Option Addr) (t_6l : Nat) (t_6c : Nat) (k_8 : Int) (x_9a : Option Addr) (x_9l : Nat) (x_9c : Nat) (i_10 : Int) (j_11 : Int) (R : Ending → Mem → Prop) (m : Mem) : Prop :=
 Br (decide (j_11 < n_5)) (
  Sub m fun r1 =>
  IxS t_6a t_6l i_10 1 fun x77b x77o =>
  LdV r1 x77b x77o fun v =>
  UnS v fun x78a x78l x78c =>
  IxS t_6a t_6l i_10 1 fun x82b x82o =>
  LdV r1 x82b x82o fun v =>
  UnS v fun x83a x83l x83c =>
  IxS x83a x83l j_11 1 fun x85b x85o =>
  LdV m x85b x85o fun v =>
  UnB v fun x86 =>
  Br x86 (
   IxS x78a x78l j_11 1 fun x96b x96o =>
   St1 m x96b x96o (.bool true) fun m2 =>
   K4 w_1a w_1l w_1c r_2b r_2o n_5 t_6a t_6l t_6c k_8 x_9a x_9l x_9c i_10 (IntKind.i64.wrap (j_11 + 1)) m2) (
   IxS x_9a x_9l i_10 1 fun x90b x90o =>
   LdV r1 x90b x90o fun v =>
   UnS v fun x91a x91l x91c =>
   IxS x91a x91l j_11 1 fun x93b x93o =>
   LdV m x93b x93o fun v =>
   UnB v fun x94 =>
   IxS x78a x78l j_11 1 fun x96b x96o =>
   St1 m x96b x96o (.bool x94) fun m2 =>
   K4 w_1a w_1l w_1c r_2b r_2o n_5 t_6a t_6l t_6c k_8 x_9a x_9l x_9c i_10 (IntKind.i64.wrap (j_11 + 1)) m2)) (
  K3 w_1a w_1l w_1c r_2b r_2o n_5 t_6a t_6l t_6c k_8 x_9a x_9l x_9c (IntKind.i64.wrap (i_10 + 1)) m)
def l4 (K2 : Option Addr → Nat → Nat → Nat → Nat → Int → Option Addr → Nat → Nat → Int → Mem → Prop) (K3 : Option Addr → Nat → Nat → Nat → Nat → Int → Option Addr → Nat → Nat → Int → Option Addr → Nat → Nat → Int → Mem → Prop) (w_1a : Option Addr) (w_1l : Nat) (w_1c : Nat) (r_2b : Nat) (r_2o : Nat) (n_5 : Int) (t_6a : Option Addr) (t_6l : Nat) (t_6c : Nat) (k_8 : Int) (x_9a : Option Addr) (x_9l : Nat) (x_9c : Nat) (i_10 : Int) (j_11 : Int) (R : Ending → Mem → Prop) (m : Mem) : Prop :=
  ∃ (I : Nat → Option Addr → Nat → Nat → Nat → Nat → Int → Option Addr → Nat → Nat → Int → Option Addr → Nat → Nat → Int → Int → Mem → Prop) (N : Nat), I N w_1a w_1l w_1c r_2b r_2o n_5 t_6a t_6l t_6c k_8 x_9a x_9l x_9c i_10 j_11 m ∧ ∀ N w_1a w_1l w_1c r_2b r_2o n_5 t_6a t_6l t_6c k_8 x_9a x_9l x_9c i_10 j_11 m, I N w_1a w_1l w_1c r_2b r_2o n_5 t_6a t_6l t_6c k_8 x_9a x_9l x_9c i_10 j_11 m → l4B K2 K3 (fun w_1a w_1l w_1c r_2b r_2o n_5 t_6a t_6l t_6c k_8 x_9a x_9l x_9c i_10 j_11 m => ∃ N1, N1 < N ∧ I N1 w_1a w_1l w_1c r_2b r_2o n_5 t_6a t_6l t_6c k_8 x_9a x_9l x_9c i_10 j_11 m) w_1a w_1l w_1c r_2b r_2o n_5 t_6a t_6l t_6c k_8 x_9a x_9l x_9c i_10 j_11 R m
noncomputable def l4A (K2 : Option Addr → Nat → Nat → Nat → Nat → Int → Option Addr → Nat → Nat → Int → Mem → Prop) (K3 : Option Addr → Nat → Nat → Nat → Nat → Int → Option Addr → Nat → Nat → Int → Option Addr → Nat → Nat → Int → Mem → Prop) (K4 : Option Addr → Nat → Nat → Nat → Nat → Int → Option Addr → Nat → Nat → Int → Option Addr → Nat → Nat → Int → Int → Mem → Prop) (R : Ending → Mem → Prop) : ACode := (.code (lP (bB (sR (bB (sL (sR (lP (bB (sR (sR (bB (sL (sR (lP (bB (sR (sL (cT (sR (cE (sR (bB (sR (sL (sR (sR (sR (body)))))))))))))))))))))))))))))
def l3E (K : Option Addr → Nat → Nat → Nat → Nat → Int → Option Addr → Nat → Nat → Int → Option Addr → Nat → Nat → Int → Mem → Prop) : Env → Mem → Prop := fun ρ m => UnS (ρ 1) fun w_1a w_1l w_1c => UnPA (ρ 2) fun r_2b r_2o => UnI (ρ 5) .i64 fun n_5 => UnS (ρ 6) fun t_6a t_6l t_6c => UnI (ρ 8) .i64 fun k_8 => UnS (ρ 9) fun x_9a x_9l x_9c => UnI (ρ 10) .i64 fun i_10 => K w_1a w_1l w_1c r_2b r_2o n_5 t_6a t_6l t_6c k_8 x_9a x_9l x_9c i_10 m
def l3B (K2 : Option Addr → Nat → Nat → Nat → Nat → Int → Option Addr → Nat → Nat → Int → Mem → Prop) (K3 : Option Addr → Nat → Nat → Nat → Nat → Int → Option Addr → Nat → Nat → Int → Option Addr → Nat → Nat → Int → Mem → Prop) (w_1a : Option Addr) (w_1l : Nat) (w_1c : Nat) (r_2b : Nat) (r_2o : Nat) (n_5 : Int) (t_6a : Option Addr) (t_6l : Nat) (t_6c : Nat) (k_8 : Int) (x_9a : Option Addr) (x_9l : Nat) (x_9c : Nat) (i_10 : Int) (R : Ending → Mem → Prop) (m : Mem) : Prop :=
 Br (decide (i_10 < n_5)) (
  l4 K2 K3 w_1a w_1l w_1c r_2b r_2o n_5 t_6a t_6l t_6c k_8 x_9a x_9l x_9c i_10 i_10 R m) (
  K2 w_1a w_1l w_1c r_2b r_2o n_5 t_6a t_6l t_6c (IntKind.i64.wrap (k_8 + 1)) m)
def l3 (K2 : Option Addr → Nat → Nat → Nat → Nat → Int → Option Addr → Nat → Nat → Int → Mem → Prop) (w_1a : Option Addr) (w_1l : Nat) (w_1c : Nat) (r_2b : Nat) (r_2o : Nat) (n_5 : Int) (t_6a : Option Addr) (t_6l : Nat) (t_6c : Nat) (k_8 : Int) (x_9a : Option Addr) (x_9l : Nat) (x_9c : Nat) (i_10 : Int) (R : Ending → Mem → Prop) (m : Mem) : Prop :=
  ∃ (I : Nat → Option Addr → Nat → Nat → Nat → Nat → Int → Option Addr → Nat → Nat → Int → Option Addr → Nat → Nat → Int → Mem → Prop) (N : Nat), I N w_1a w_1l w_1c r_2b r_2o n_5 t_6a t_6l t_6c k_8 x_9a x_9l x_9c i_10 m ∧ ∀ N w_1a w_1l w_1c r_2b r_2o n_5 t_6a t_6l t_6c k_8 x_9a x_9l x_9c i_10 m, I N w_1a w_1l w_1c r_2b r_2o n_5 t_6a t_6l t_6c k_8 x_9a x_9l x_9c i_10 m → l3B K2 (fun w_1a w_1l w_1c r_2b r_2o n_5 t_6a t_6l t_6c k_8 x_9a x_9l x_9c i_10 m => ∃ N1, N1 < N ∧ I N1 w_1a w_1l w_1c r_2b r_2o n_5 t_6a t_6l t_6c k_8 x_9a x_9l x_9c i_10 m) w_1a w_1l w_1c r_2b r_2o n_5 t_6a t_6l t_6c k_8 x_9a x_9l x_9c i_10 R m
noncomputable def l3A (K2 : Option Addr → Nat → Nat → Nat → Nat → Int → Option Addr → Nat → Nat → Int → Mem → Prop) (K3 : Option Addr → Nat → Nat → Nat → Nat → Int → Option Addr → Nat → Nat → Int → Option Addr → Nat → Nat → Int → Mem → Prop) (R : Ending → Mem → Prop) : ACode := (.seq (.code (sL (lP (bB (sR (sR (bB (sL (sR (lP (bB (sR (sL (cT (sR (cE (sR (bB (sR (sL (sR (sR (sR (body)))))))))))))))))))))))) (.seq (.block 6 (.seq (.code (sL (bB (sL (sR (lP (bB (sR (sR (bB (sL (sR (lP (bB (sR (sL (cT (sR (cE (sR (bB (sR (sL (sR (sR (sR (body))))))))))))))))))))))))))) (.block 7 (.cut (l4E fun w_1a w_1l w_1c r_2b r_2o n_5 t_6a t_6l t_6c k_8 x_9a x_9l x_9c i_10 j_11 m => l4 K2 K3 w_1a w_1l w_1c r_2b r_2o n_5 t_6a t_6l t_6c k_8 x_9a x_9l x_9c i_10 j_11 R m) (.loop (lP (bB (sR (bB (sL (sR (lP (bB (sR (sR (bB (sL (sR (lP (bB (sR (sL (cT (sR (cE (sR (bB (sR (sL (sR (sR (sR (body))))))))))))))))))))))))))))))))) (.code (sR (sR (lP (bB (sR (sR (bB (sL (sR (lP (bB (sR (sL (cT (sR (cE (sR (bB (sR (sL (sR (sR (sR (body)))))))))))))))))))))))))))
def l2E (K : Option Addr → Nat → Nat → Nat → Nat → Int → Option Addr → Nat → Nat → Int → Mem → Prop) : Env → Mem → Prop := fun ρ m => UnS (ρ 1) fun w_1a w_1l w_1c => UnPA (ρ 2) fun r_2b r_2o => UnI (ρ 5) .i64 fun n_5 => UnS (ρ 6) fun t_6a t_6l t_6c => UnI (ρ 8) .i64 fun k_8 => K w_1a w_1l w_1c r_2b r_2o n_5 t_6a t_6l t_6c k_8 m
def l2B  (K2 : Option Addr → Nat → Nat → Nat → Nat → Int → Option Addr → Nat → Nat → Int → Mem → Prop) (w_1a : Option Addr) (w_1l : Nat) (w_1c : Nat) (r_2b : Nat) (r_2o : Nat) (n_5 : Int) (t_6a : Option Addr) (t_6l : Nat) (t_6c : Nat) (k_8 : Int) (R : Ending → Mem → Prop) (m : Mem) : Prop :=
 LdV m r_2b (r_2o + 5) fun v =>
 UnS v fun x52a x52l x52c =>
 Br (decide (k_8 < ((x52l : Nat) : Int))) (
  LdV m r_2b (r_2o + 5) fun v =>
  UnS v fun x58a x58l x58c =>
  IxS x58a x58l k_8 6 fun x60b x60o =>
  LdV m x60b x60o fun v =>
  UnI v .i64 fun x61_0 =>
  LdV m x60b (x60o + 1) fun v =>
  UnI v .u64 fun x61_1 =>
  LdV m x60b (x60o + 2) fun v =>
  UnI v .u64 fun x61_2 =>
  LdV m x60b (x60o + 3) fun v =>
  UnI v .u64 fun x61_3 =>
  LdV m x60b (x60o + 4) fun v =>
  UnI v .u64 fun x61_4 =>
  LdV m x60b (x60o + 5) fun v =>
  UnS v fun x61_5a x61_5l x61_5c =>
  HC P eyotref8_spans.id #[.agg #[.int .i64 x61_0, .int .u64 x61_1, .int .u64 x61_2, .int .u64 x61_3, .int .u64 x61_4, .slice x61_5a x61_5l x61_5c], .slice w_1a w_1l w_1c] m (Cont (fun v m1 =>
    UnS v fun x63a x63l x63c =>
    l3 K2 w_1a w_1l w_1c r_2b r_2o n_5 t_6a t_6l t_6c k_8 x63a x63l x63c 0 R m1) (panicR R))) (
  R (.returned (.slice t_6a t_6l t_6c)) m)
def l2  (w_1a : Option Addr) (w_1l : Nat) (w_1c : Nat) (r_2b : Nat) (r_2o : Nat) (n_5 : Int) (t_6a : Option Addr) (t_6l : Nat) (t_6c : Nat) (k_8 : Int) (R : Ending → Mem → Prop) (m : Mem) : Prop :=
  ∃ (I : Nat → Option Addr → Nat → Nat → Nat → Nat → Int → Option Addr → Nat → Nat → Int → Mem → Prop) (N : Nat), I N w_1a w_1l w_1c r_2b r_2o n_5 t_6a t_6l t_6c k_8 m ∧ ∀ N w_1a w_1l w_1c r_2b r_2o n_5 t_6a t_6l t_6c k_8 m, I N w_1a w_1l w_1c r_2b r_2o n_5 t_6a t_6l t_6c k_8 m → l2B  (fun w_1a w_1l w_1c r_2b r_2o n_5 t_6a t_6l t_6c k_8 m => ∃ N1, N1 < N ∧ I N1 w_1a w_1l w_1c r_2b r_2o n_5 t_6a t_6l t_6c k_8 m) w_1a w_1l w_1c r_2b r_2o n_5 t_6a t_6l t_6c k_8 R m
noncomputable def l2A  (K2 : Option Addr → Nat → Nat → Nat → Nat → Int → Option Addr → Nat → Nat → Int → Mem → Prop) (R : Ending → Mem → Prop) : ACode := (.seq (.code (sL (lP (bB (sR (sL (cT (sR (cE (sR (bB (sR (sL (sR (sR (sR (body))))))))))))))))) (.seq (.block 4 (.seq (.code (sL (bB (sL (sR (lP (bB (sR (sL (cT (sR (cE (sR (bB (sR (sL (sR (sR (sR (body)))))))))))))))))))) (.seq (.code (sL (sR (bB (sL (sR (lP (bB (sR (sL (cT (sR (cE (sR (bB (sR (sL (sR (sR (sR (body))))))))))))))))))))) (.block 5 (.cut (l3E fun w_1a w_1l w_1c r_2b r_2o n_5 t_6a t_6l t_6c k_8 x_9a x_9l x_9c i_10 m => l3 K2 w_1a w_1l w_1c r_2b r_2o n_5 t_6a t_6l t_6c k_8 x_9a x_9l x_9c i_10 R m) (.loop (lP (bB (sR (sR (bB (sL (sR (lP (bB (sR (sL (cT (sR (cE (sR (bB (sR (sL (sR (sR (sR (body)))))))))))))))))))))))))))) (.code (sR (sR (lP (bB (sR (sL (cT (sR (cE (sR (bB (sR (sL (sR (sR (sR (body))))))))))))))))))))
def l5E (K : Option Addr → Nat → Nat → Nat → Nat → Option Addr → Nat → Nat → Int → Mem → Prop) : Env → Mem → Prop := fun ρ m => UnS (ρ 1) fun w_1a w_1l w_1c => UnPA (ρ 2) fun r_2b r_2o => UnS (ρ 6) fun t_6a t_6l t_6c => UnI (ρ 12) .i64 fun k_12 => K w_1a w_1l w_1c r_2b r_2o t_6a t_6l t_6c k_12 m
def l5B  (K5 : Option Addr → Nat → Nat → Nat → Nat → Option Addr → Nat → Nat → Int → Mem → Prop) (w_1a : Option Addr) (w_1l : Nat) (w_1c : Nat) (r_2b : Nat) (r_2o : Nat) (t_6a : Option Addr) (t_6l : Nat) (t_6c : Nat) (k_12 : Int) (R : Ending → Mem → Prop) (m : Mem) : Prop :=
 LdV m r_2b (r_2o + 5) fun v =>
 UnS v fun x104a x104l x104c =>
 Br (decide (k_12 < ((x104l : Nat) : Int))) (
  LdV m r_2b (r_2o + 5) fun v =>
  UnS v fun x111a x111l x111c =>
  IxS x111a x111l k_12 6 fun x113b x113o =>
  LdV m x113b x113o fun v =>
  UnI v .i64 fun x114_0 =>
  LdV m x113b (x113o + 1) fun v =>
  UnI v .u64 fun x114_1 =>
  LdV m x113b (x113o + 2) fun v =>
  UnI v .u64 fun x114_2 =>
  LdV m x113b (x113o + 3) fun v =>
  UnI v .u64 fun x114_3 =>
  LdV m x113b (x113o + 4) fun v =>
  UnI v .u64 fun x114_4 =>
  LdV m x113b (x113o + 5) fun v =>
  UnS v fun x114_5a x114_5l x114_5c =>
  HC P eyotref8_spans.id #[.agg #[.int .i64 x114_0, .int .u64 x114_1, .int .u64 x114_2, .int .u64 x114_3, .int .u64 x114_4, .slice x114_5a x114_5l x114_5c], .slice w_1a w_1l w_1c] m (Cont (fun v m1 =>
    UnS v fun x116a x116l x116c =>
    HC P eyotref8_behind.id #[.slice t_6a t_6l t_6c, .slice x116a x116l x116c] m1 (Cont (fun v m2 =>
      UnS v fun x117a x117l x117c =>
      K5 w_1a w_1l w_1c r_2b r_2o x117a x117l x117c (IntKind.i64.wrap (k_12 + 1)) m2) (panicR R))) (panicR R))) (
  R (.returned (.slice t_6a t_6l t_6c)) m)
def l5  (w_1a : Option Addr) (w_1l : Nat) (w_1c : Nat) (r_2b : Nat) (r_2o : Nat) (t_6a : Option Addr) (t_6l : Nat) (t_6c : Nat) (k_12 : Int) (R : Ending → Mem → Prop) (m : Mem) : Prop :=
  ∃ (I : Nat → Option Addr → Nat → Nat → Nat → Nat → Option Addr → Nat → Nat → Int → Mem → Prop) (N : Nat), I N w_1a w_1l w_1c r_2b r_2o t_6a t_6l t_6c k_12 m ∧ ∀ N w_1a w_1l w_1c r_2b r_2o t_6a t_6l t_6c k_12 m, I N w_1a w_1l w_1c r_2b r_2o t_6a t_6l t_6c k_12 m → l5B  (fun w_1a w_1l w_1c r_2b r_2o t_6a t_6l t_6c k_12 m => ∃ N1, N1 < N ∧ I N1 w_1a w_1l w_1c r_2b r_2o t_6a t_6l t_6c k_12 m) w_1a w_1l w_1c r_2b r_2o t_6a t_6l t_6c k_12 R m
noncomputable def l5A  (K5 : Option Addr → Nat → Nat → Nat → Nat → Option Addr → Nat → Nat → Int → Mem → Prop) (R : Ending → Mem → Prop) : ACode := (.code (lP (bB (sR (sL (sR (cT (sR (cE (sR (cE (sR (bB (sR (sL (sR (sR (sR (body)))))))))))))))))))
def l6E (K : Int → Option Addr → Nat → Nat → Int → Mem → Prop) : Env → Mem → Prop := fun ρ m => UnI (ρ 5) .i64 fun n_5 => UnS (ρ 13) fun x_13a x_13l x_13c => UnI (ρ 14) .i64 fun i_14 => K n_5 x_13a x_13l x_13c i_14 m
def l6B  (K6 : Int → Option Addr → Nat → Nat → Int → Mem → Prop) (n_5 : Int) (x_13a : Option Addr) (x_13l : Nat) (x_13c : Nat) (i_14 : Int) (R : Ending → Mem → Prop) (m : Mem) : Prop :=
 Br (decide (i_14 < n_5)) (
  IxS x_13a x_13l i_14 1 fun x135b x135o =>
  LdV m x135b x135o fun v =>
  UnS v fun x136a x136l x136c =>
  IxS x136a x136l i_14 1 fun x138b x138o =>
  St1 m x138b x138o (.bool true) fun m1 =>
  K6 n_5 x_13a x_13l x_13c (IntKind.i64.wrap (i_14 + 1)) m1) (
  R (.returned (.slice x_13a x_13l x_13c)) m)
def l6  (n_5 : Int) (x_13a : Option Addr) (x_13l : Nat) (x_13c : Nat) (i_14 : Int) (R : Ending → Mem → Prop) (m : Mem) : Prop :=
  ∃ (I : Nat → Int → Option Addr → Nat → Nat → Int → Mem → Prop) (N : Nat), I N n_5 x_13a x_13l x_13c i_14 m ∧ ∀ N n_5 x_13a x_13l x_13c i_14 m, I N n_5 x_13a x_13l x_13c i_14 m → l6B  (fun n_5 x_13a x_13l x_13c i_14 m => ∃ N1, N1 < N ∧ I N1 n_5 x_13a x_13l x_13c i_14 m) n_5 x_13a x_13l x_13c i_14 R m
noncomputable def l6A  (K6 : Int → Option Addr → Nat → Nat → Int → Mem → Prop) (R : Ending → Mem → Prop) : ACode := (.code (lP (bB (sR (sL (cT (sR (sL (sR (sR (sR (sR (sR (body))))))))))))))
def l9E (K : Nat → Nat → Int → Option Addr → Nat → Nat → Option Addr → Nat → Nat → Int → Int → Int → Mem → Prop) : Env → Mem → Prop := fun ρ m => UnPA (ρ 2) fun r_2b r_2o => UnI (ρ 5) .i64 fun n_5 => UnS (ρ 6) fun t_6a t_6l t_6c => UnS (ρ 13) fun x_13a x_13l x_13c => UnI (ρ 15) .i64 fun i_15 => UnI (ρ 16) .i64 fun j_16 => UnI (ρ 17) .i64 fun k_17 => K r_2b r_2o n_5 t_6a t_6l t_6c x_13a x_13l x_13c i_15 j_16 k_17 m
def l9B (K7 : Nat → Nat → Int → Option Addr → Nat → Nat → Option Addr → Nat → Nat → Int → Mem → Prop) (K8 : Nat → Nat → Int → Option Addr → Nat → Nat → Option Addr → Nat → Nat → Int → Int → Mem → Prop) (K9 : Nat → Nat → Int → Option Addr → Nat → Nat → Option Addr → Nat → Nat → Int → Int → Int → Mem → Prop) (r_2b : Nat) (r_2o : Nat) (n_5 : Int) (t_6a : Option Addr) (t_6l : Nat) (t_6c : Nat) (x_13a : Option Addr) (x_13l : Nat) (x_13c : Nat) (i_15 : Int) (j_16 : Int) (k_17 : Int) (R : Ending → Mem → Prop) (m : Mem) : Prop :=
 Br (decide (k_17 < n_5)) (
  IxS t_6a t_6l i_15 1 fun x161b x161o =>
  LdV m x161b x161o fun v =>
  UnS v fun x162a x162l x162c =>
  IxS x162a x162l j_16 1 fun x164b x164o =>
  LdV m x164b x164o fun v =>
  UnB v fun x165 =>
  Br x165 (
   Sub m fun r1 =>
   IxS t_6a t_6l i_15 1 fun x171b x171o =>
   LdV r1 x171b x171o fun v =>
   UnS v fun x172a x172l x172c =>
   IxS t_6a t_6l i_15 1 fun x176b x176o =>
   LdV r1 x176b x176o fun v =>
   UnS v fun x177a x177l x177c =>
   IxS x177a x177l k_17 1 fun x179b x179o =>
   LdV m x179b x179o fun v =>
   UnB v fun x180 =>
   Br x180 (
    IxS x172a x172l k_17 1 fun x190b x190o =>
    St1 m x190b x190o (.bool true) fun m2 =>
    K9 r_2b r_2o n_5 t_6a t_6l t_6c x_13a x_13l x_13c i_15 j_16 (IntKind.i64.wrap (k_17 + 1)) m2) (
    IxS x_13a x_13l j_16 1 fun x184b x184o =>
    LdV r1 x184b x184o fun v =>
    UnS v fun x185a x185l x185c =>
    IxS x185a x185l k_17 1 fun x187b x187o =>
    LdV m x187b x187o fun v =>
    UnB v fun x188 =>
    IxS x172a x172l k_17 1 fun x190b x190o =>
    St1 m x190b x190o (.bool x188) fun m2 =>
    K9 r_2b r_2o n_5 t_6a t_6l t_6c x_13a x_13l x_13c i_15 j_16 (IntKind.i64.wrap (k_17 + 1)) m2)) (
   K8 r_2b r_2o n_5 t_6a t_6l t_6c x_13a x_13l x_13c i_15 (IntKind.i64.wrap (j_16 + 1)) m)) (
  K8 r_2b r_2o n_5 t_6a t_6l t_6c x_13a x_13l x_13c i_15 (IntKind.i64.wrap (j_16 + 1)) m)
def l9 (K7 : Nat → Nat → Int → Option Addr → Nat → Nat → Option Addr → Nat → Nat → Int → Mem → Prop) (K8 : Nat → Nat → Int → Option Addr → Nat → Nat → Option Addr → Nat → Nat → Int → Int → Mem → Prop) (r_2b : Nat) (r_2o : Nat) (n_5 : Int) (t_6a : Option Addr) (t_6l : Nat) (t_6c : Nat) (x_13a : Option Addr) (x_13l : Nat) (x_13c : Nat) (i_15 : Int) (j_16 : Int) (k_17 : Int) (R : Ending → Mem → Prop) (m : Mem) : Prop :=
  ∃ (I : Nat → Nat → Nat → Int → Option Addr → Nat → Nat → Option Addr → Nat → Nat → Int → Int → Int → Mem → Prop) (N : Nat), I N r_2b r_2o n_5 t_6a t_6l t_6c x_13a x_13l x_13c i_15 j_16 k_17 m ∧ ∀ N r_2b r_2o n_5 t_6a t_6l t_6c x_13a x_13l x_13c i_15 j_16 k_17 m, I N r_2b r_2o n_5 t_6a t_6l t_6c x_13a x_13l x_13c i_15 j_16 k_17 m → l9B K7 K8 (fun r_2b r_2o n_5 t_6a t_6l t_6c x_13a x_13l x_13c i_15 j_16 k_17 m => ∃ N1, N1 < N ∧ I N1 r_2b r_2o n_5 t_6a t_6l t_6c x_13a x_13l x_13c i_15 j_16 k_17 m) r_2b r_2o n_5 t_6a t_6l t_6c x_13a x_13l x_13c i_15 j_16 k_17 R m
noncomputable def l9A (K7 : Nat → Nat → Int → Option Addr → Nat → Nat → Option Addr → Nat → Nat → Int → Mem → Prop) (K8 : Nat → Nat → Int → Option Addr → Nat → Nat → Option Addr → Nat → Nat → Int → Int → Mem → Prop) (K9 : Nat → Nat → Int → Option Addr → Nat → Nat → Option Addr → Nat → Nat → Int → Int → Int → Mem → Prop) (R : Ending → Mem → Prop) : ACode := (.code (lP (bB (sR (bB (sL (sR (lP (bB (sR (bB (sL (sR (lP (bB (sR (sL (sR (sR (sR (sR (sR (sR (sR (body)))))))))))))))))))))))))
def l8E (K : Nat → Nat → Int → Option Addr → Nat → Nat → Option Addr → Nat → Nat → Int → Int → Mem → Prop) : Env → Mem → Prop := fun ρ m => UnPA (ρ 2) fun r_2b r_2o => UnI (ρ 5) .i64 fun n_5 => UnS (ρ 6) fun t_6a t_6l t_6c => UnS (ρ 13) fun x_13a x_13l x_13c => UnI (ρ 15) .i64 fun i_15 => UnI (ρ 16) .i64 fun j_16 => K r_2b r_2o n_5 t_6a t_6l t_6c x_13a x_13l x_13c i_15 j_16 m
def l8B (K7 : Nat → Nat → Int → Option Addr → Nat → Nat → Option Addr → Nat → Nat → Int → Mem → Prop) (K8 : Nat → Nat → Int → Option Addr → Nat → Nat → Option Addr → Nat → Nat → Int → Int → Mem → Prop) (r_2b : Nat) (r_2o : Nat) (n_5 : Int) (t_6a : Option Addr) (t_6l : Nat) (t_6c : Nat) (x_13a : Option Addr) (x_13l : Nat) (x_13c : Nat) (i_15 : Int) (j_16 : Int) (R : Ending → Mem → Prop) (m : Mem) : Prop :=
 Br (decide (j_16 < n_5)) (
  l9 K7 K8 r_2b r_2o n_5 t_6a t_6l t_6c x_13a x_13l x_13c i_15 j_16 (IntKind.i64.wrap (j_16 + 1)) R m) (
  K7 r_2b r_2o n_5 t_6a t_6l t_6c x_13a x_13l x_13c (IntKind.i64.wrap (i_15 + 1)) m)
def l8 (K7 : Nat → Nat → Int → Option Addr → Nat → Nat → Option Addr → Nat → Nat → Int → Mem → Prop) (r_2b : Nat) (r_2o : Nat) (n_5 : Int) (t_6a : Option Addr) (t_6l : Nat) (t_6c : Nat) (x_13a : Option Addr) (x_13l : Nat) (x_13c : Nat) (i_15 : Int) (j_16 : Int) (R : Ending → Mem → Prop) (m : Mem) : Prop :=
  ∃ (I : Nat → Nat → Nat → Int → Option Addr → Nat → Nat → Option Addr → Nat → Nat → Int → Int → Mem → Prop) (N : Nat), I N r_2b r_2o n_5 t_6a t_6l t_6c x_13a x_13l x_13c i_15 j_16 m ∧ ∀ N r_2b r_2o n_5 t_6a t_6l t_6c x_13a x_13l x_13c i_15 j_16 m, I N r_2b r_2o n_5 t_6a t_6l t_6c x_13a x_13l x_13c i_15 j_16 m → l8B K7 (fun r_2b r_2o n_5 t_6a t_6l t_6c x_13a x_13l x_13c i_15 j_16 m => ∃ N1, N1 < N ∧ I N1 r_2b r_2o n_5 t_6a t_6l t_6c x_13a x_13l x_13c i_15 j_16 m) r_2b r_2o n_5 t_6a t_6l t_6c x_13a x_13l x_13c i_15 j_16 R m
noncomputable def l8A (K7 : Nat → Nat → Int → Option Addr → Nat → Nat → Option Addr → Nat → Nat → Int → Mem → Prop) (K8 : Nat → Nat → Int → Option Addr → Nat → Nat → Option Addr → Nat → Nat → Int → Int → Mem → Prop) (R : Ending → Mem → Prop) : ACode := (.seq (.code (sL (lP (bB (sR (bB (sL (sR (lP (bB (sR (sL (sR (sR (sR (sR (sR (sR (sR (body)))))))))))))))))))) (.seq (.block 16 (.seq (.code (sL (bB (sL (sR (lP (bB (sR (bB (sL (sR (lP (bB (sR (sL (sR (sR (sR (sR (sR (sR (sR (body))))))))))))))))))))))) (.block 17 (.cut (l9E fun r_2b r_2o n_5 t_6a t_6l t_6c x_13a x_13l x_13c i_15 j_16 k_17 m => l9 K7 K8 r_2b r_2o n_5 t_6a t_6l t_6c x_13a x_13l x_13c i_15 j_16 k_17 R m) (.loop (lP (bB (sR (bB (sL (sR (lP (bB (sR (bB (sL (sR (lP (bB (sR (sL (sR (sR (sR (sR (sR (sR (sR (body))))))))))))))))))))))))))))) (.code (sR (sR (lP (bB (sR (bB (sL (sR (lP (bB (sR (sL (sR (sR (sR (sR (sR (sR (sR (body)))))))))))))))))))))))
def k10E (K : Nat → Nat → Option Addr → Nat → Nat → Option Addr → Nat → Nat → Mem → Prop) : Env → Mem → Prop := fun ρ m => UnPA (ρ 2) fun r_2b r_2o => UnS (ρ 6) fun t_6a t_6l t_6c => UnS (ρ 13) fun x_13a x_13l x_13c => K r_2b r_2o t_6a t_6l t_6c x_13a x_13l x_13c m
def k10  (r_2b : Nat) (r_2o : Nat) (t_6a : Option Addr) (t_6l : Nat) (t_6c : Nat) (x_13a : Option Addr) (x_13l : Nat) (x_13c : Nat) (R : Ending → Mem → Prop) (m : Mem) : Prop :=
 LdV m r_2b r_2o fun v =>
 UnI v .i64 fun x192 =>
 Br (x192 == 5) (
  HC P eyotref8_behind.id #[.slice x_13a x_13l x_13c, .slice t_6a t_6l t_6c] m (Cont (fun v m1 =>
    UnS v fun x196a x196l x196c =>
    R (.returned (.slice x196a x196l x196c)) m1) (panicR R))) (
  R (.returned (.slice t_6a t_6l t_6c)) m)
noncomputable def k10A  (R : Ending → Mem → Prop) : ACode := (.code (sR (sR (sR (sR (sR (sR (sR (sR (body))))))))))
def l7E (K : Nat → Nat → Int → Option Addr → Nat → Nat → Option Addr → Nat → Nat → Int → Mem → Prop) : Env → Mem → Prop := fun ρ m => UnPA (ρ 2) fun r_2b r_2o => UnI (ρ 5) .i64 fun n_5 => UnS (ρ 6) fun t_6a t_6l t_6c => UnS (ρ 13) fun x_13a x_13l x_13c => UnI (ρ 15) .i64 fun i_15 => K r_2b r_2o n_5 t_6a t_6l t_6c x_13a x_13l x_13c i_15 m
def l7B  (K7 : Nat → Nat → Int → Option Addr → Nat → Nat → Option Addr → Nat → Nat → Int → Mem → Prop) (r_2b : Nat) (r_2o : Nat) (n_5 : Int) (t_6a : Option Addr) (t_6l : Nat) (t_6c : Nat) (x_13a : Option Addr) (x_13l : Nat) (x_13c : Nat) (i_15 : Int) (R : Ending → Mem → Prop) (m : Mem) : Prop :=
 Br (decide (i_15 < n_5)) (
  l8 K7 r_2b r_2o n_5 t_6a t_6l t_6c x_13a x_13l x_13c i_15 i_15 R m) (
  k10  r_2b r_2o t_6a t_6l t_6c x_13a x_13l x_13c R m)
def l7  (r_2b : Nat) (r_2o : Nat) (n_5 : Int) (t_6a : Option Addr) (t_6l : Nat) (t_6c : Nat) (x_13a : Option Addr) (x_13l : Nat) (x_13c : Nat) (i_15 : Int) (R : Ending → Mem → Prop) (m : Mem) : Prop :=
  ∃ (I : Nat → Nat → Nat → Int → Option Addr → Nat → Nat → Option Addr → Nat → Nat → Int → Mem → Prop) (N : Nat), I N r_2b r_2o n_5 t_6a t_6l t_6c x_13a x_13l x_13c i_15 m ∧ ∀ N r_2b r_2o n_5 t_6a t_6l t_6c x_13a x_13l x_13c i_15 m, I N r_2b r_2o n_5 t_6a t_6l t_6c x_13a x_13l x_13c i_15 m → l7B  (fun r_2b r_2o n_5 t_6a t_6l t_6c x_13a x_13l x_13c i_15 m => ∃ N1, N1 < N ∧ I N1 r_2b r_2o n_5 t_6a t_6l t_6c x_13a x_13l x_13c i_15 m) r_2b r_2o n_5 t_6a t_6l t_6c x_13a x_13l x_13c i_15 R m
noncomputable def l7A  (K7 : Nat → Nat → Int → Option Addr → Nat → Nat → Option Addr → Nat → Nat → Int → Mem → Prop) (R : Ending → Mem → Prop) : ACode := (.seq (.code (sL (lP (bB (sR (sL (sR (sR (sR (sR (sR (sR (sR (body)))))))))))))) (.seq (.block 14 (.seq (.code (sL (bB (sL (sR (lP (bB (sR (sL (sR (sR (sR (sR (sR (sR (sR (body))))))))))))))))) (.block 15 (.cut (l8E fun r_2b r_2o n_5 t_6a t_6l t_6c x_13a x_13l x_13c i_15 j_16 m => l8 K7 r_2b r_2o n_5 t_6a t_6l t_6c x_13a x_13l x_13c i_15 j_16 R m) (.loop (lP (bB (sR (bB (sL (sR (lP (bB (sR (sL (sR (sR (sR (sR (sR (sR (sR (body))))))))))))))))))))))) (.code (sR (sR (lP (bB (sR (sL (sR (sR (sR (sR (sR (sR (sR (body)))))))))))))))))
def e0 (r_0_0 : Int) (r_0_1 : Int) (r_0_2 : Int) (r_0_3 : Int) (r_0_4 : Int) (r_0_5a : Option Addr) (r_0_5l : Nat) (r_0_5c : Nat) (w_1a : Option Addr) (w_1l : Nat) (w_1c : Nat) (R : Ending → Mem → Prop) (m : Mem) : Prop :=
 NewC m #[.int .i64 r_0_0, .int .u64 r_0_1, .int .u64 r_0_2, .int .u64 r_0_3, .int .u64 r_0_4, .slice r_0_5a r_0_5l r_0_5c] T_api_Rx fun b_r_2 m1 =>
 HC P eyotref8_table.id #[.int .i64 (IntKind.i64.wrap (((w_1l : Nat) : Int) + 1))] m1 (Cont (fun v m2 =>
   UnS v fun x22a x22l x22c =>
   LdV m2 b_r_2 0 fun v =>
   UnI v .i64 fun x24 =>
   Br (x24 == 1) (
    l1  w_1a w_1l w_1c b_r_2 0 (IntKind.i64.wrap (((w_1l : Nat) : Int) + 1)) x22a x22l x22c 0 R m2) (
    Br (x24 == 3) (
     l2  w_1a w_1l w_1c b_r_2 0 (IntKind.i64.wrap (((w_1l : Nat) : Int) + 1)) x22a x22l x22c 0 R m2) (
     Br (x24 == 2) (
      HC P eyotref8_same.id #[.int .i64 (IntKind.i64.wrap (((w_1l : Nat) : Int) + 1))] m2 (Cont (fun v m3 =>
        UnS v fun x101a x101l x101c =>
        l5  w_1a w_1l w_1c b_r_2 0 x101a x101l x101c 0 R m3) (panicR R))) (
      LdV m2 b_r_2 5 fun v =>
      UnS v fun x120a x120l x120c =>
      IxS x120a x120l 0 6 fun x121b x121o =>
      LdV m2 x121b x121o fun v =>
      UnI v .i64 fun x122_0 =>
      LdV m2 x121b (x121o + 1) fun v =>
      UnI v .u64 fun x122_1 =>
      LdV m2 x121b (x121o + 2) fun v =>
      UnI v .u64 fun x122_2 =>
      LdV m2 x121b (x121o + 3) fun v =>
      UnI v .u64 fun x122_3 =>
      LdV m2 x121b (x121o + 4) fun v =>
      UnI v .u64 fun x122_4 =>
      LdV m2 x121b (x121o + 5) fun v =>
      UnS v fun x122_5a x122_5l x122_5c =>
      HC P eyotref8_spans.id #[.agg #[.int .i64 x122_0, .int .u64 x122_1, .int .u64 x122_2, .int .u64 x122_3, .int .u64 x122_4, .slice x122_5a x122_5l x122_5c], .slice w_1a w_1l w_1c] m2 (Cont (fun v m3 =>
        UnS v fun x124a x124l x124c =>
        LdV m3 b_r_2 0 fun v =>
        UnI v .i64 fun x126 =>
        Br (x126 == 6) (
        l6  (IntKind.i64.wrap (((w_1l : Nat) : Int) + 1)) x124a x124l x124c 0 R m3) (
        HC P eyotref8_same.id #[.int .i64 (IntKind.i64.wrap (((w_1l : Nat) : Int) + 1))] m3 (Cont (fun v m4 =>
        UnS v fun x141a x141l x141c =>
        l7  b_r_2 0 (IntKind.i64.wrap (((w_1l : Nat) : Int) + 1)) x141a x141l x141c x124a x124l x124c 0 R m4) (panicR R)))) (panicR R)))))) (panicR R))
noncomputable def e0A (R : Ending → Mem → Prop) : ACode := (.seq (.code (sL (body))) (.seq (.code (sL (sR (body)))) (.seq (.code (sL (sR (sR (body))))) (.seq (.seq (.code (sL (sL (sR (sR (sR (body))))))) (.block 0 (.seq (.code (sL (bB (sR (sL (sR (sR (sR (body))))))))) (.cond (.tmp 25) (.seq (.seq (.code (sL (sL (cT (sR (bB (sR (sL (sR (sR (sR (body)))))))))))) (.block 1 (.cut (l1E fun w_1a w_1l w_1c r_2b r_2o n_5 t_6a t_6l t_6c i_7 m => l1  w_1a w_1l w_1c r_2b r_2o n_5 t_6a t_6l t_6c i_7 R m) (.loop (lP (bB (sR (sL (cT (sR (bB (sR (sL (sR (sR (sR (body))))))))))))))))) (.code (sR (cT (sR (bB (sR (sL (sR (sR (sR (body)))))))))))) (.seq (.code (sL (cE (sR (bB (sR (sL (sR (sR (sR (body))))))))))) (.cond (.tmp 48) (.seq (.seq (.code (sL (sL (cT (sR (cE (sR (bB (sR (sL (sR (sR (sR (body)))))))))))))) (.block 3 (.cut (l2E fun w_1a w_1l w_1c r_2b r_2o n_5 t_6a t_6l t_6c k_8 m => l2  w_1a w_1l w_1c r_2b r_2o n_5 t_6a t_6l t_6c k_8 R m) (.loop (lP (bB (sR (sL (cT (sR (cE (sR (bB (sR (sL (sR (sR (sR (body))))))))))))))))))) (.code (sR (cT (sR (cE (sR (bB (sR (sL (sR (sR (sR (body)))))))))))))) (.seq (.code (sL (cE (sR (cE (sR (bB (sR (sL (sR (sR (sR (body))))))))))))) (.cond (.tmp 98) (.seq (.code (sL (cT (sR (cE (sR (cE (sR (bB (sR (sL (sR (sR (sR (body))))))))))))))) (.seq (.seq (.code (sL (sL (sR (cT (sR (cE (sR (cE (sR (bB (sR (sL (sR (sR (sR (body))))))))))))))))) (.block 9 (.cut (l5E fun w_1a w_1l w_1c r_2b r_2o t_6a t_6l t_6c k_12 m => l5  w_1a w_1l w_1c r_2b r_2o t_6a t_6l t_6c k_12 R m) (.loop (lP (bB (sR (sL (sR (cT (sR (cE (sR (cE (sR (bB (sR (sL (sR (sR (sR (body)))))))))))))))))))))) (.code (sR (sR (cT (sR (cE (sR (cE (sR (bB (sR (sL (sR (sR (sR (body)))))))))))))))))) (.code (cE (sR (cE (sR (cE (sR (bB (sR (sL (sR (sR (sR (body)))))))))))))))))))))) (.seq (.code (sL (sR (sR (sR (sR (body))))))) (.seq (.seq (.code (sL (sL (sR (sR (sR (sR (sR (body))))))))) (.cond (.tmp 127) (.seq (.seq (.code (sL (sL (cT (sR (sL (sR (sR (sR (sR (sR (body)))))))))))) (.block 11 (.cut (l6E fun n_5 x_13a x_13l x_13c i_14 m => l6  n_5 x_13a x_13l x_13c i_14 R m) (.loop (lP (bB (sR (sL (cT (sR (sL (sR (sR (sR (sR (sR (body))))))))))))))))) (.code (sR (cT (sR (sL (sR (sR (sR (sR (sR (body)))))))))))) (.code (cE (sR (sL (sR (sR (sR (sR (sR (body)))))))))))) (.seq (.code (sL (sR (sR (sR (sR (sR (sR (body))))))))) (.seq (.seq (.code (sL (sL (sR (sR (sR (sR (sR (sR (sR (body))))))))))) (.block 13 (.cut (l7E fun r_2b r_2o n_5 t_6a t_6l t_6c x_13a x_13l x_13c i_15 m => l7  r_2b r_2o n_5 t_6a t_6l t_6c x_13a x_13l x_13c i_15 R m) (.loop (lP (bB (sR (sL (sR (sR (sR (sR (sR (sR (sR (body)))))))))))))))) (.cut (k10E fun r_2b r_2o t_6a t_6l t_6c x_13a x_13l x_13c m => k10  r_2b r_2o t_6a t_6l t_6c x_13a x_13l x_13c R m) (sR (sR (sR (sR (sR (sR (sR (sR (body))))))))))))))))))
abbrev k10Q  (R : Ending → Mem → Prop) : Exit → Env → Mem → Prop := (bodyQ P fn R)
abbrev l7Q  (R : Ending → Mem → Prop) : Exit → Env → Mem → Prop := (blockQ 13 (thenQ (acpt P od (panicR R) (.cut (k10E fun r_2b r_2o t_6a t_6l t_6c x_13a x_13l x_13c m => k10  r_2b r_2o t_6a t_6l t_6c x_13a x_13l x_13c R m) (sR (sR (sR (sR (sR (sR (sR (sR (body)))))))))) (bodyQ P fn R)) (bodyQ P fn R)))
abbrev l1Q  (R : Ending → Mem → Prop) : Exit → Env → Mem → Prop := (blockQ 1 (thenQ (acpt P od (panicR R) (.code (sR (cT (sR (bB (sR (sL (sR (sR (sR (body))))))))))) (blockQ 0 (thenQ (acpt P od (panicR R) (.seq (.code (sL (sR (sR (sR (sR (body))))))) (.seq (.seq (.code (sL (sL (sR (sR (sR (sR (sR (body))))))))) (.cond (.tmp 127) (.seq (.seq (.code (sL (sL (cT (sR (sL (sR (sR (sR (sR (sR (body)))))))))))) (.block 11 (.cut (l6E fun n_5 x_13a x_13l x_13c i_14 m => l6  n_5 x_13a x_13l x_13c i_14 R m) (.loop (lP (bB (sR (sL (cT (sR (sL (sR (sR (sR (sR (sR (body))))))))))))))))) (.code (sR (cT (sR (sL (sR (sR (sR (sR (sR (body)))))))))))) (.code (cE (sR (sL (sR (sR (sR (sR (sR (body)))))))))))) (.seq (.code (sL (sR (sR (sR (sR (sR (sR (body))))))))) (.seq (.seq (.code (sL (sL (sR (sR (sR (sR (sR (sR (sR (body))))))))))) (.block 13 (.cut (l7E fun r_2b r_2o n_5 t_6a t_6l t_6c x_13a x_13l x_13c i_15 m => l7  r_2b r_2o n_5 t_6a t_6l t_6c x_13a x_13l x_13c i_15 R m) (.loop (lP (bB (sR (sL (sR (sR (sR (sR (sR (sR (sR (body)))))))))))))))) (.cut (k10E fun r_2b r_2o t_6a t_6l t_6c x_13a x_13l x_13c m => k10  r_2b r_2o t_6a t_6l t_6c x_13a x_13l x_13c R m) (sR (sR (sR (sR (sR (sR (sR (sR (body)))))))))))))) (bodyQ P fn R)) (bodyQ P fn R)))) (blockQ 0 (thenQ (acpt P od (panicR R) (.seq (.code (sL (sR (sR (sR (sR (body))))))) (.seq (.seq (.code (sL (sL (sR (sR (sR (sR (sR (body))))))))) (.cond (.tmp 127) (.seq (.seq (.code (sL (sL (cT (sR (sL (sR (sR (sR (sR (sR (body)))))))))))) (.block 11 (.cut (l6E fun n_5 x_13a x_13l x_13c i_14 m => l6  n_5 x_13a x_13l x_13c i_14 R m) (.loop (lP (bB (sR (sL (cT (sR (sL (sR (sR (sR (sR (sR (body))))))))))))))))) (.code (sR (cT (sR (sL (sR (sR (sR (sR (sR (body)))))))))))) (.code (cE (sR (sL (sR (sR (sR (sR (sR (body)))))))))))) (.seq (.code (sL (sR (sR (sR (sR (sR (sR (body))))))))) (.seq (.seq (.code (sL (sL (sR (sR (sR (sR (sR (sR (sR (body))))))))))) (.block 13 (.cut (l7E fun r_2b r_2o n_5 t_6a t_6l t_6c x_13a x_13l x_13c i_15 m => l7  r_2b r_2o n_5 t_6a t_6l t_6c x_13a x_13l x_13c i_15 R m) (.loop (lP (bB (sR (sL (sR (sR (sR (sR (sR (sR (sR (body)))))))))))))))) (.cut (k10E fun r_2b r_2o t_6a t_6l t_6c x_13a x_13l x_13c m => k10  r_2b r_2o t_6a t_6l t_6c x_13a x_13l x_13c R m) (sR (sR (sR (sR (sR (sR (sR (sR (body)))))))))))))) (bodyQ P fn R)) (bodyQ P fn R)))))
abbrev l6Q  (R : Ending → Mem → Prop) : Exit → Env → Mem → Prop := (blockQ 11 (thenQ (acpt P od (panicR R) (.code (sR (cT (sR (sL (sR (sR (sR (sR (sR (body))))))))))) (thenQ (acpt P od (panicR R) (.seq (.code (sL (sR (sR (sR (sR (sR (sR (body))))))))) (.seq (.seq (.code (sL (sL (sR (sR (sR (sR (sR (sR (sR (body))))))))))) (.block 13 (.cut (l7E fun r_2b r_2o n_5 t_6a t_6l t_6c x_13a x_13l x_13c i_15 m => l7  r_2b r_2o n_5 t_6a t_6l t_6c x_13a x_13l x_13c i_15 R m) (.loop (lP (bB (sR (sL (sR (sR (sR (sR (sR (sR (sR (body)))))))))))))))) (.cut (k10E fun r_2b r_2o t_6a t_6l t_6c x_13a x_13l x_13c m => k10  r_2b r_2o t_6a t_6l t_6c x_13a x_13l x_13c R m) (sR (sR (sR (sR (sR (sR (sR (sR (body)))))))))))) (bodyQ P fn R)) (bodyQ P fn R))) (thenQ (acpt P od (panicR R) (.seq (.code (sL (sR (sR (sR (sR (sR (sR (body))))))))) (.seq (.seq (.code (sL (sL (sR (sR (sR (sR (sR (sR (sR (body))))))))))) (.block 13 (.cut (l7E fun r_2b r_2o n_5 t_6a t_6l t_6c x_13a x_13l x_13c i_15 m => l7  r_2b r_2o n_5 t_6a t_6l t_6c x_13a x_13l x_13c i_15 R m) (.loop (lP (bB (sR (sL (sR (sR (sR (sR (sR (sR (sR (body)))))))))))))))) (.cut (k10E fun r_2b r_2o t_6a t_6l t_6c x_13a x_13l x_13c m => k10  r_2b r_2o t_6a t_6l t_6c x_13a x_13l x_13c R m) (sR (sR (sR (sR (sR (sR (sR (sR (body)))))))))))) (bodyQ P fn R)) (bodyQ P fn R))))
abbrev l2Q  (R : Ending → Mem → Prop) : Exit → Env → Mem → Prop := (blockQ 3 (thenQ (acpt P od (panicR R) (.code (sR (cT (sR (cE (sR (bB (sR (sL (sR (sR (sR (body))))))))))))) (blockQ 0 (thenQ (acpt P od (panicR R) (.seq (.code (sL (sR (sR (sR (sR (body))))))) (.seq (.seq (.code (sL (sL (sR (sR (sR (sR (sR (body))))))))) (.cond (.tmp 127) (.seq (.seq (.code (sL (sL (cT (sR (sL (sR (sR (sR (sR (sR (body)))))))))))) (.block 11 (.cut (l6E fun n_5 x_13a x_13l x_13c i_14 m => l6  n_5 x_13a x_13l x_13c i_14 R m) (.loop (lP (bB (sR (sL (cT (sR (sL (sR (sR (sR (sR (sR (body))))))))))))))))) (.code (sR (cT (sR (sL (sR (sR (sR (sR (sR (body)))))))))))) (.code (cE (sR (sL (sR (sR (sR (sR (sR (body)))))))))))) (.seq (.code (sL (sR (sR (sR (sR (sR (sR (body))))))))) (.seq (.seq (.code (sL (sL (sR (sR (sR (sR (sR (sR (sR (body))))))))))) (.block 13 (.cut (l7E fun r_2b r_2o n_5 t_6a t_6l t_6c x_13a x_13l x_13c i_15 m => l7  r_2b r_2o n_5 t_6a t_6l t_6c x_13a x_13l x_13c i_15 R m) (.loop (lP (bB (sR (sL (sR (sR (sR (sR (sR (sR (sR (body)))))))))))))))) (.cut (k10E fun r_2b r_2o t_6a t_6l t_6c x_13a x_13l x_13c m => k10  r_2b r_2o t_6a t_6l t_6c x_13a x_13l x_13c R m) (sR (sR (sR (sR (sR (sR (sR (sR (body)))))))))))))) (bodyQ P fn R)) (bodyQ P fn R)))) (blockQ 0 (thenQ (acpt P od (panicR R) (.seq (.code (sL (sR (sR (sR (sR (body))))))) (.seq (.seq (.code (sL (sL (sR (sR (sR (sR (sR (body))))))))) (.cond (.tmp 127) (.seq (.seq (.code (sL (sL (cT (sR (sL (sR (sR (sR (sR (sR (body)))))))))))) (.block 11 (.cut (l6E fun n_5 x_13a x_13l x_13c i_14 m => l6  n_5 x_13a x_13l x_13c i_14 R m) (.loop (lP (bB (sR (sL (cT (sR (sL (sR (sR (sR (sR (sR (body))))))))))))))))) (.code (sR (cT (sR (sL (sR (sR (sR (sR (sR (body)))))))))))) (.code (cE (sR (sL (sR (sR (sR (sR (sR (body)))))))))))) (.seq (.code (sL (sR (sR (sR (sR (sR (sR (body))))))))) (.seq (.seq (.code (sL (sL (sR (sR (sR (sR (sR (sR (sR (body))))))))))) (.block 13 (.cut (l7E fun r_2b r_2o n_5 t_6a t_6l t_6c x_13a x_13l x_13c i_15 m => l7  r_2b r_2o n_5 t_6a t_6l t_6c x_13a x_13l x_13c i_15 R m) (.loop (lP (bB (sR (sL (sR (sR (sR (sR (sR (sR (sR (body)))))))))))))))) (.cut (k10E fun r_2b r_2o t_6a t_6l t_6c x_13a x_13l x_13c m => k10  r_2b r_2o t_6a t_6l t_6c x_13a x_13l x_13c R m) (sR (sR (sR (sR (sR (sR (sR (sR (body)))))))))))))) (bodyQ P fn R)) (bodyQ P fn R)))))
abbrev l5Q  (R : Ending → Mem → Prop) : Exit → Env → Mem → Prop := (blockQ 9 (thenQ (acpt P od (panicR R) (.code (sR (sR (cT (sR (cE (sR (cE (sR (bB (sR (sL (sR (sR (sR (body)))))))))))))))) (blockQ 0 (thenQ (acpt P od (panicR R) (.seq (.code (sL (sR (sR (sR (sR (body))))))) (.seq (.seq (.code (sL (sL (sR (sR (sR (sR (sR (body))))))))) (.cond (.tmp 127) (.seq (.seq (.code (sL (sL (cT (sR (sL (sR (sR (sR (sR (sR (body)))))))))))) (.block 11 (.cut (l6E fun n_5 x_13a x_13l x_13c i_14 m => l6  n_5 x_13a x_13l x_13c i_14 R m) (.loop (lP (bB (sR (sL (cT (sR (sL (sR (sR (sR (sR (sR (body))))))))))))))))) (.code (sR (cT (sR (sL (sR (sR (sR (sR (sR (body)))))))))))) (.code (cE (sR (sL (sR (sR (sR (sR (sR (body)))))))))))) (.seq (.code (sL (sR (sR (sR (sR (sR (sR (body))))))))) (.seq (.seq (.code (sL (sL (sR (sR (sR (sR (sR (sR (sR (body))))))))))) (.block 13 (.cut (l7E fun r_2b r_2o n_5 t_6a t_6l t_6c x_13a x_13l x_13c i_15 m => l7  r_2b r_2o n_5 t_6a t_6l t_6c x_13a x_13l x_13c i_15 R m) (.loop (lP (bB (sR (sL (sR (sR (sR (sR (sR (sR (sR (body)))))))))))))))) (.cut (k10E fun r_2b r_2o t_6a t_6l t_6c x_13a x_13l x_13c m => k10  r_2b r_2o t_6a t_6l t_6c x_13a x_13l x_13c R m) (sR (sR (sR (sR (sR (sR (sR (sR (body)))))))))))))) (bodyQ P fn R)) (bodyQ P fn R)))) (blockQ 0 (thenQ (acpt P od (panicR R) (.seq (.code (sL (sR (sR (sR (sR (body))))))) (.seq (.seq (.code (sL (sL (sR (sR (sR (sR (sR (body))))))))) (.cond (.tmp 127) (.seq (.seq (.code (sL (sL (cT (sR (sL (sR (sR (sR (sR (sR (body)))))))))))) (.block 11 (.cut (l6E fun n_5 x_13a x_13l x_13c i_14 m => l6  n_5 x_13a x_13l x_13c i_14 R m) (.loop (lP (bB (sR (sL (cT (sR (sL (sR (sR (sR (sR (sR (body))))))))))))))))) (.code (sR (cT (sR (sL (sR (sR (sR (sR (sR (body)))))))))))) (.code (cE (sR (sL (sR (sR (sR (sR (sR (body)))))))))))) (.seq (.code (sL (sR (sR (sR (sR (sR (sR (body))))))))) (.seq (.seq (.code (sL (sL (sR (sR (sR (sR (sR (sR (sR (body))))))))))) (.block 13 (.cut (l7E fun r_2b r_2o n_5 t_6a t_6l t_6c x_13a x_13l x_13c i_15 m => l7  r_2b r_2o n_5 t_6a t_6l t_6c x_13a x_13l x_13c i_15 R m) (.loop (lP (bB (sR (sL (sR (sR (sR (sR (sR (sR (sR (body)))))))))))))))) (.cut (k10E fun r_2b r_2o t_6a t_6l t_6c x_13a x_13l x_13c m => k10  r_2b r_2o t_6a t_6l t_6c x_13a x_13l x_13c R m) (sR (sR (sR (sR (sR (sR (sR (sR (body)))))))))))))) (bodyQ P fn R)) (bodyQ P fn R)))))
abbrev l8Q (K7 : Nat → Nat → Int → Option Addr → Nat → Nat → Option Addr → Nat → Nat → Int → Mem → Prop) (R : Ending → Mem → Prop) : Exit → Env → Mem → Prop := (blockQ 15 (blockQ 14 (thenQ (acpt P od (panicR R) (.code (sR (sR (lP (bB (sR (sL (sR (sR (sR (sR (sR (sR (sR (body))))))))))))))) (thenQ (l7E K7) (l7Q  R))) (thenQ (l7E K7) (l7Q  R)))))
abbrev l3Q (K2 : Option Addr → Nat → Nat → Nat → Nat → Int → Option Addr → Nat → Nat → Int → Mem → Prop) (R : Ending → Mem → Prop) : Exit → Env → Mem → Prop := (blockQ 5 (blockQ 4 (thenQ (acpt P od (panicR R) (.code (sR (sR (lP (bB (sR (sL (cT (sR (cE (sR (bB (sR (sL (sR (sR (sR (body)))))))))))))))))) (thenQ (l2E K2) (l2Q  R))) (thenQ (l2E K2) (l2Q  R)))))
abbrev l9Q (K7 : Nat → Nat → Int → Option Addr → Nat → Nat → Option Addr → Nat → Nat → Int → Mem → Prop) (K8 : Nat → Nat → Int → Option Addr → Nat → Nat → Option Addr → Nat → Nat → Int → Int → Mem → Prop) (R : Ending → Mem → Prop) : Exit → Env → Mem → Prop := (blockQ 17 (blockQ 16 (thenQ (acpt P od (panicR R) (.code (sR (sR (lP (bB (sR (bB (sL (sR (lP (bB (sR (sL (sR (sR (sR (sR (sR (sR (sR (body))))))))))))))))))))) (thenQ (l8E K8) (l8Q K7 R))) (thenQ (l8E K8) (l8Q K7 R)))))
abbrev l4Q (K2 : Option Addr → Nat → Nat → Nat → Nat → Int → Option Addr → Nat → Nat → Int → Mem → Prop) (K3 : Option Addr → Nat → Nat → Nat → Nat → Int → Option Addr → Nat → Nat → Int → Option Addr → Nat → Nat → Int → Mem → Prop) (R : Ending → Mem → Prop) : Exit → Env → Mem → Prop := (blockQ 7 (blockQ 6 (thenQ (acpt P od (panicR R) (.code (sR (sR (lP (bB (sR (sR (bB (sL (sR (lP (bB (sR (sL (cT (sR (cE (sR (bB (sR (sL (sR (sR (sR (body))))))))))))))))))))))))) (thenQ (l3E K3) (l3Q K2 R))) (thenQ (l3E K3) (l3Q K2 R)))))
theorem l1_eq  (K1 : Option Addr → Nat → Nat → Nat → Nat → Int → Option Addr → Nat → Nat → Int → Mem → Prop) (R : Ending → Mem → Prop) (w_1a : Option Addr) (w_1l : Nat) (w_1c : Nat) (r_2b : Nat) (r_2o : Nat) (n_5 : Int) (t_6a : Option Addr) (t_6l : Nat) (t_6c : Nat) (i_7 : Int) (ρ : Env) (m : Mem) : l1B  K1 w_1a w_1l w_1c r_2b r_2o n_5 t_6a t_6l t_6c i_7 R m = acpt P od (panicR R) (l1A  K1 R) (thenQ (l1E K1) (l1Q  R)) (upd (upd (upd (upd (upd ρ 7 (.int .i64 i_7)) 6 (.slice t_6a t_6l t_6c)) 5 (.int .i64 n_5)) 2 (.pointer (some ⟨r_2b, r_2o, none⟩))) 1 (.slice w_1a w_1l w_1c)) m := by kernel_rfl
theorem l1_er  (K1 : Option Addr → Nat → Nat → Nat → Nat → Int → Option Addr → Nat → Nat → Int → Mem → Prop) (R : Ending → Mem → Prop) : (l1A  K1 R).erase = lP (bB (sR (sL (cT (sR (bB (sR (sL (sR (sR (sR (body)))))))))))) := by kernel_rfl
theorem l1_ok  (R : Ending → Mem → Prop) (ρ : Env) (m : Mem) (h : (l1E fun w_1a w_1l w_1c r_2b r_2o n_5 t_6a t_6l t_6c i_7 m => l1  w_1a w_1l w_1c r_2b r_2o n_5 t_6a t_6l t_6c i_7 R m) ρ m) : cpt P od (panicR R) (.loop (lP (bB (sR (sL (cT (sR (bB (sR (sL (sR (sR (sR (body)))))))))))))) (l1Q  R) ρ m := by
  unfold l1E at h
  obtain ⟨w_1a, w_1l, w_1c, e1, h⟩ := h.ex
  obtain ⟨r_2b, r_2o, e2, h⟩ := h.ex
  obtain ⟨n_5, e5, h⟩ := h.ex
  obtain ⟨t_6a, t_6l, t_6c, e6, h⟩ := h.ex
  obtain ⟨i_7, e7, h⟩ := h.ex
  obtain ⟨I, N, h0, hs⟩ := h
  refine ⟨fun N => l1E (I N), N, (by show l1E (I N) ρ m; unfold l1E; rw [e1, e2, e5, e6, e7]; exact h0), ?_⟩
  clear h0 e1 e2 e5 e6 e7
  intro N ρ m h
  unfold l1E at h
  obtain ⟨w_1a, w_1l, w_1c, e1, h⟩ := h.ex
  obtain ⟨r_2b, r_2o, e2, h⟩ := h.ex
  obtain ⟨n_5, e5, h⟩ := h.ex
  obtain ⟨t_6a, t_6l, t_6c, e6, h⟩ := h.ex
  obtain ⟨i_7, e7, h⟩ := h.ex
  refine cpt_mono (P := P) (lP (bB (sR (sL (cT (sR (bB (sR (sL (sR (sR (sR (body))))))))))))) (Q := thenQ (l1E fun w_1a w_1l w_1c r_2b r_2o n_5 t_6a t_6l t_6c i_7 m => ∃ N1, N1 < N ∧ I N1 w_1a w_1l w_1c r_2b r_2o n_5 t_6a t_6l t_6c i_7 m) (l1Q  R)) (fun e ρ m h => ?_) ρ m ?_
  · cases e with
    | normal =>
      have h : l1E (fun w_1a w_1l w_1c r_2b r_2o n_5 t_6a t_6l t_6c i_7 m => ∃ N1, N1 < N ∧ I N1 w_1a w_1l w_1c r_2b r_2o n_5 t_6a t_6l t_6c i_7 m) ρ m := h
      unfold l1E at h
      obtain ⟨w_1a, w_1l, w_1c, e1, h⟩ := h.ex
      obtain ⟨r_2b, r_2o, e2, h⟩ := h.ex
      obtain ⟨n_5, e5, h⟩ := h.ex
      obtain ⟨t_6a, t_6l, t_6c, e6, h⟩ := h.ex
      obtain ⟨i_7, e7, h⟩ := h.ex
      obtain ⟨N1, hlt, h⟩ := h
      exact ⟨N1, hlt, (by show l1E (I N1) ρ m; unfold l1E; rw [e1, e2, e5, e6, e7]; exact h)⟩
    | _ => exact h
  have hh := hs N w_1a w_1l w_1c r_2b r_2o n_5 t_6a t_6l t_6c i_7 m h
  generalize (fun w_1a w_1l w_1c r_2b r_2o n_5 t_6a t_6l t_6c i_7 m => ∃ N1, N1 < N ∧ I N1 w_1a w_1l w_1c r_2b r_2o n_5 t_6a t_6l t_6c i_7 m : Option Addr → Nat → Nat → Nat → Nat → Int → Option Addr → Nat → Nat → Int → Mem → Prop) = K1 at hh ⊢
  rw [← upd_self e1, ← upd_self e2, ← upd_self e5, ← upd_self e6, ← upd_self e7]
  rw [← l1_er  K1 R]
  refine acpt_sound (P := P) (l1A  K1 R) _ _ _ True.intro ?_
  exact Eq.mp (l1_eq  K1 R w_1a w_1l w_1c r_2b r_2o n_5 t_6a t_6l t_6c i_7 ρ m) hh
theorem l4_eq (K2 : Option Addr → Nat → Nat → Nat → Nat → Int → Option Addr → Nat → Nat → Int → Mem → Prop) (K3 : Option Addr → Nat → Nat → Nat → Nat → Int → Option Addr → Nat → Nat → Int → Option Addr → Nat → Nat → Int → Mem → Prop) (K4 : Option Addr → Nat → Nat → Nat → Nat → Int → Option Addr → Nat → Nat → Int → Option Addr → Nat → Nat → Int → Int → Mem → Prop) (R : Ending → Mem → Prop) (w_1a : Option Addr) (w_1l : Nat) (w_1c : Nat) (r_2b : Nat) (r_2o : Nat) (n_5 : Int) (t_6a : Option Addr) (t_6l : Nat) (t_6c : Nat) (k_8 : Int) (x_9a : Option Addr) (x_9l : Nat) (x_9c : Nat) (i_10 : Int) (j_11 : Int) (ρ : Env) (m : Mem) : l4B K2 K3 K4 w_1a w_1l w_1c r_2b r_2o n_5 t_6a t_6l t_6c k_8 x_9a x_9l x_9c i_10 j_11 R m = acpt P od (panicR R) (l4A K2 K3 K4 R) (thenQ (l4E K4) (l4Q K2 K3 R)) (upd (upd (upd (upd (upd (upd (upd (upd ρ 11 (.int .i64 j_11)) 10 (.int .i64 i_10)) 9 (.slice x_9a x_9l x_9c)) 8 (.int .i64 k_8)) 6 (.slice t_6a t_6l t_6c)) 5 (.int .i64 n_5)) 2 (.pointer (some ⟨r_2b, r_2o, none⟩))) 1 (.slice w_1a w_1l w_1c)) m := by kernel_rfl
theorem l4_er (K2 : Option Addr → Nat → Nat → Nat → Nat → Int → Option Addr → Nat → Nat → Int → Mem → Prop) (K3 : Option Addr → Nat → Nat → Nat → Nat → Int → Option Addr → Nat → Nat → Int → Option Addr → Nat → Nat → Int → Mem → Prop) (K4 : Option Addr → Nat → Nat → Nat → Nat → Int → Option Addr → Nat → Nat → Int → Option Addr → Nat → Nat → Int → Int → Mem → Prop) (R : Ending → Mem → Prop) : (l4A K2 K3 K4 R).erase = lP (bB (sR (bB (sL (sR (lP (bB (sR (sR (bB (sL (sR (lP (bB (sR (sL (cT (sR (cE (sR (bB (sR (sL (sR (sR (sR (body))))))))))))))))))))))))))) := by kernel_rfl
theorem l4_ok (K2 : Option Addr → Nat → Nat → Nat → Nat → Int → Option Addr → Nat → Nat → Int → Mem → Prop) (K3 : Option Addr → Nat → Nat → Nat → Nat → Int → Option Addr → Nat → Nat → Int → Option Addr → Nat → Nat → Int → Mem → Prop) (R : Ending → Mem → Prop) (ρ : Env) (m : Mem) (h : (l4E fun w_1a w_1l w_1c r_2b r_2o n_5 t_6a t_6l t_6c k_8 x_9a x_9l x_9c i_10 j_11 m => l4 K2 K3 w_1a w_1l w_1c r_2b r_2o n_5 t_6a t_6l t_6c k_8 x_9a x_9l x_9c i_10 j_11 R m) ρ m) : cpt P od (panicR R) (.loop (lP (bB (sR (bB (sL (sR (lP (bB (sR (sR (bB (sL (sR (lP (bB (sR (sL (cT (sR (cE (sR (bB (sR (sL (sR (sR (sR (body))))))))))))))))))))))))))))) (l4Q K2 K3 R) ρ m := by
  unfold l4E at h
  obtain ⟨w_1a, w_1l, w_1c, e1, h⟩ := h.ex
  obtain ⟨r_2b, r_2o, e2, h⟩ := h.ex
  obtain ⟨n_5, e5, h⟩ := h.ex
  obtain ⟨t_6a, t_6l, t_6c, e6, h⟩ := h.ex
  obtain ⟨k_8, e8, h⟩ := h.ex
  obtain ⟨x_9a, x_9l, x_9c, e9, h⟩ := h.ex
  obtain ⟨i_10, e10, h⟩ := h.ex
  obtain ⟨j_11, e11, h⟩ := h.ex
  obtain ⟨I, N, h0, hs⟩ := h
  refine ⟨fun N => l4E (I N), N, (by show l4E (I N) ρ m; unfold l4E; rw [e1, e2, e5, e6, e8, e9, e10, e11]; exact h0), ?_⟩
  clear h0 e1 e2 e5 e6 e8 e9 e10 e11
  intro N ρ m h
  unfold l4E at h
  obtain ⟨w_1a, w_1l, w_1c, e1, h⟩ := h.ex
  obtain ⟨r_2b, r_2o, e2, h⟩ := h.ex
  obtain ⟨n_5, e5, h⟩ := h.ex
  obtain ⟨t_6a, t_6l, t_6c, e6, h⟩ := h.ex
  obtain ⟨k_8, e8, h⟩ := h.ex
  obtain ⟨x_9a, x_9l, x_9c, e9, h⟩ := h.ex
  obtain ⟨i_10, e10, h⟩ := h.ex
  obtain ⟨j_11, e11, h⟩ := h.ex
  refine cpt_mono (P := P) (lP (bB (sR (bB (sL (sR (lP (bB (sR (sR (bB (sL (sR (lP (bB (sR (sL (cT (sR (cE (sR (bB (sR (sL (sR (sR (sR (body)))))))))))))))))))))))))))) (Q := thenQ (l4E fun w_1a w_1l w_1c r_2b r_2o n_5 t_6a t_6l t_6c k_8 x_9a x_9l x_9c i_10 j_11 m => ∃ N1, N1 < N ∧ I N1 w_1a w_1l w_1c r_2b r_2o n_5 t_6a t_6l t_6c k_8 x_9a x_9l x_9c i_10 j_11 m) (l4Q K2 K3 R)) (fun e ρ m h => ?_) ρ m ?_
  · cases e with
    | normal =>
      have h : l4E (fun w_1a w_1l w_1c r_2b r_2o n_5 t_6a t_6l t_6c k_8 x_9a x_9l x_9c i_10 j_11 m => ∃ N1, N1 < N ∧ I N1 w_1a w_1l w_1c r_2b r_2o n_5 t_6a t_6l t_6c k_8 x_9a x_9l x_9c i_10 j_11 m) ρ m := h
      unfold l4E at h
      obtain ⟨w_1a, w_1l, w_1c, e1, h⟩ := h.ex
      obtain ⟨r_2b, r_2o, e2, h⟩ := h.ex
      obtain ⟨n_5, e5, h⟩ := h.ex
      obtain ⟨t_6a, t_6l, t_6c, e6, h⟩ := h.ex
      obtain ⟨k_8, e8, h⟩ := h.ex
      obtain ⟨x_9a, x_9l, x_9c, e9, h⟩ := h.ex
      obtain ⟨i_10, e10, h⟩ := h.ex
      obtain ⟨j_11, e11, h⟩ := h.ex
      obtain ⟨N1, hlt, h⟩ := h
      exact ⟨N1, hlt, (by show l4E (I N1) ρ m; unfold l4E; rw [e1, e2, e5, e6, e8, e9, e10, e11]; exact h)⟩
    | _ => exact h
  have hh := hs N w_1a w_1l w_1c r_2b r_2o n_5 t_6a t_6l t_6c k_8 x_9a x_9l x_9c i_10 j_11 m h
  generalize (fun w_1a w_1l w_1c r_2b r_2o n_5 t_6a t_6l t_6c k_8 x_9a x_9l x_9c i_10 j_11 m => ∃ N1, N1 < N ∧ I N1 w_1a w_1l w_1c r_2b r_2o n_5 t_6a t_6l t_6c k_8 x_9a x_9l x_9c i_10 j_11 m : Option Addr → Nat → Nat → Nat → Nat → Int → Option Addr → Nat → Nat → Int → Option Addr → Nat → Nat → Int → Int → Mem → Prop) = K4 at hh ⊢
  rw [← upd_self e1, ← upd_self e2, ← upd_self e5, ← upd_self e6, ← upd_self e8, ← upd_self e9, ← upd_self e10, ← upd_self e11]
  rw [← l4_er K2 K3 K4 R]
  refine acpt_sound (P := P) (l4A K2 K3 K4 R) _ _ _ True.intro ?_
  exact Eq.mp (l4_eq K2 K3 K4 R w_1a w_1l w_1c r_2b r_2o n_5 t_6a t_6l t_6c k_8 x_9a x_9l x_9c i_10 j_11 ρ m) hh
theorem l3_eq (K2 : Option Addr → Nat → Nat → Nat → Nat → Int → Option Addr → Nat → Nat → Int → Mem → Prop) (K3 : Option Addr → Nat → Nat → Nat → Nat → Int → Option Addr → Nat → Nat → Int → Option Addr → Nat → Nat → Int → Mem → Prop) (R : Ending → Mem → Prop) (w_1a : Option Addr) (w_1l : Nat) (w_1c : Nat) (r_2b : Nat) (r_2o : Nat) (n_5 : Int) (t_6a : Option Addr) (t_6l : Nat) (t_6c : Nat) (k_8 : Int) (x_9a : Option Addr) (x_9l : Nat) (x_9c : Nat) (i_10 : Int) (ρ : Env) (m : Mem) : l3B K2 K3 w_1a w_1l w_1c r_2b r_2o n_5 t_6a t_6l t_6c k_8 x_9a x_9l x_9c i_10 R m = acpt P od (panicR R) (l3A K2 K3 R) (thenQ (l3E K3) (l3Q K2 R)) (upd (upd (upd (upd (upd (upd (upd ρ 10 (.int .i64 i_10)) 9 (.slice x_9a x_9l x_9c)) 8 (.int .i64 k_8)) 6 (.slice t_6a t_6l t_6c)) 5 (.int .i64 n_5)) 2 (.pointer (some ⟨r_2b, r_2o, none⟩))) 1 (.slice w_1a w_1l w_1c)) m := by kernel_rfl
theorem l3_er (K2 : Option Addr → Nat → Nat → Nat → Nat → Int → Option Addr → Nat → Nat → Int → Mem → Prop) (K3 : Option Addr → Nat → Nat → Nat → Nat → Int → Option Addr → Nat → Nat → Int → Option Addr → Nat → Nat → Int → Mem → Prop) (R : Ending → Mem → Prop) : (l3A K2 K3 R).erase = lP (bB (sR (sR (bB (sL (sR (lP (bB (sR (sL (cT (sR (cE (sR (bB (sR (sL (sR (sR (sR (body))))))))))))))))))))) := by kernel_rfl
theorem l3_ok (K2 : Option Addr → Nat → Nat → Nat → Nat → Int → Option Addr → Nat → Nat → Int → Mem → Prop) (R : Ending → Mem → Prop) (ρ : Env) (m : Mem) (h : (l3E fun w_1a w_1l w_1c r_2b r_2o n_5 t_6a t_6l t_6c k_8 x_9a x_9l x_9c i_10 m => l3 K2 w_1a w_1l w_1c r_2b r_2o n_5 t_6a t_6l t_6c k_8 x_9a x_9l x_9c i_10 R m) ρ m) : cpt P od (panicR R) (.loop (lP (bB (sR (sR (bB (sL (sR (lP (bB (sR (sL (cT (sR (cE (sR (bB (sR (sL (sR (sR (sR (body))))))))))))))))))))))) (l3Q K2 R) ρ m := by
  unfold l3E at h
  obtain ⟨w_1a, w_1l, w_1c, e1, h⟩ := h.ex
  obtain ⟨r_2b, r_2o, e2, h⟩ := h.ex
  obtain ⟨n_5, e5, h⟩ := h.ex
  obtain ⟨t_6a, t_6l, t_6c, e6, h⟩ := h.ex
  obtain ⟨k_8, e8, h⟩ := h.ex
  obtain ⟨x_9a, x_9l, x_9c, e9, h⟩ := h.ex
  obtain ⟨i_10, e10, h⟩ := h.ex
  obtain ⟨I, N, h0, hs⟩ := h
  refine ⟨fun N => l3E (I N), N, (by show l3E (I N) ρ m; unfold l3E; rw [e1, e2, e5, e6, e8, e9, e10]; exact h0), ?_⟩
  clear h0 e1 e2 e5 e6 e8 e9 e10
  intro N ρ m h
  unfold l3E at h
  obtain ⟨w_1a, w_1l, w_1c, e1, h⟩ := h.ex
  obtain ⟨r_2b, r_2o, e2, h⟩ := h.ex
  obtain ⟨n_5, e5, h⟩ := h.ex
  obtain ⟨t_6a, t_6l, t_6c, e6, h⟩ := h.ex
  obtain ⟨k_8, e8, h⟩ := h.ex
  obtain ⟨x_9a, x_9l, x_9c, e9, h⟩ := h.ex
  obtain ⟨i_10, e10, h⟩ := h.ex
  refine cpt_mono (P := P) (lP (bB (sR (sR (bB (sL (sR (lP (bB (sR (sL (cT (sR (cE (sR (bB (sR (sL (sR (sR (sR (body)))))))))))))))))))))) (Q := thenQ (l3E fun w_1a w_1l w_1c r_2b r_2o n_5 t_6a t_6l t_6c k_8 x_9a x_9l x_9c i_10 m => ∃ N1, N1 < N ∧ I N1 w_1a w_1l w_1c r_2b r_2o n_5 t_6a t_6l t_6c k_8 x_9a x_9l x_9c i_10 m) (l3Q K2 R)) (fun e ρ m h => ?_) ρ m ?_
  · cases e with
    | normal =>
      have h : l3E (fun w_1a w_1l w_1c r_2b r_2o n_5 t_6a t_6l t_6c k_8 x_9a x_9l x_9c i_10 m => ∃ N1, N1 < N ∧ I N1 w_1a w_1l w_1c r_2b r_2o n_5 t_6a t_6l t_6c k_8 x_9a x_9l x_9c i_10 m) ρ m := h
      unfold l3E at h
      obtain ⟨w_1a, w_1l, w_1c, e1, h⟩ := h.ex
      obtain ⟨r_2b, r_2o, e2, h⟩ := h.ex
      obtain ⟨n_5, e5, h⟩ := h.ex
      obtain ⟨t_6a, t_6l, t_6c, e6, h⟩ := h.ex
      obtain ⟨k_8, e8, h⟩ := h.ex
      obtain ⟨x_9a, x_9l, x_9c, e9, h⟩ := h.ex
      obtain ⟨i_10, e10, h⟩ := h.ex
      obtain ⟨N1, hlt, h⟩ := h
      exact ⟨N1, hlt, (by show l3E (I N1) ρ m; unfold l3E; rw [e1, e2, e5, e6, e8, e9, e10]; exact h)⟩
    | _ => exact h
  have hh := hs N w_1a w_1l w_1c r_2b r_2o n_5 t_6a t_6l t_6c k_8 x_9a x_9l x_9c i_10 m h
  generalize (fun w_1a w_1l w_1c r_2b r_2o n_5 t_6a t_6l t_6c k_8 x_9a x_9l x_9c i_10 m => ∃ N1, N1 < N ∧ I N1 w_1a w_1l w_1c r_2b r_2o n_5 t_6a t_6l t_6c k_8 x_9a x_9l x_9c i_10 m : Option Addr → Nat → Nat → Nat → Nat → Int → Option Addr → Nat → Nat → Int → Option Addr → Nat → Nat → Int → Mem → Prop) = K3 at hh ⊢
  rw [← upd_self e1, ← upd_self e2, ← upd_self e5, ← upd_self e6, ← upd_self e8, ← upd_self e9, ← upd_self e10]
  rw [← l3_er K2 K3 R]
  refine acpt_sound (P := P) (l3A K2 K3 R) _ _ _ ⟨⟨True.intro, ⟨(fun ρ m h => l4_ok K2 K3 R ρ m h), True.intro⟩⟩, True.intro⟩ ?_
  exact Eq.mp (l3_eq K2 K3 R w_1a w_1l w_1c r_2b r_2o n_5 t_6a t_6l t_6c k_8 x_9a x_9l x_9c i_10 ρ m) hh
theorem l2_eq  (K2 : Option Addr → Nat → Nat → Nat → Nat → Int → Option Addr → Nat → Nat → Int → Mem → Prop) (R : Ending → Mem → Prop) (w_1a : Option Addr) (w_1l : Nat) (w_1c : Nat) (r_2b : Nat) (r_2o : Nat) (n_5 : Int) (t_6a : Option Addr) (t_6l : Nat) (t_6c : Nat) (k_8 : Int) (ρ : Env) (m : Mem) : l2B  K2 w_1a w_1l w_1c r_2b r_2o n_5 t_6a t_6l t_6c k_8 R m = acpt P od (panicR R) (l2A  K2 R) (thenQ (l2E K2) (l2Q  R)) (upd (upd (upd (upd (upd ρ 8 (.int .i64 k_8)) 6 (.slice t_6a t_6l t_6c)) 5 (.int .i64 n_5)) 2 (.pointer (some ⟨r_2b, r_2o, none⟩))) 1 (.slice w_1a w_1l w_1c)) m := by kernel_rfl
theorem l2_er  (K2 : Option Addr → Nat → Nat → Nat → Nat → Int → Option Addr → Nat → Nat → Int → Mem → Prop) (R : Ending → Mem → Prop) : (l2A  K2 R).erase = lP (bB (sR (sL (cT (sR (cE (sR (bB (sR (sL (sR (sR (sR (body)))))))))))))) := by kernel_rfl
theorem l2_ok  (R : Ending → Mem → Prop) (ρ : Env) (m : Mem) (h : (l2E fun w_1a w_1l w_1c r_2b r_2o n_5 t_6a t_6l t_6c k_8 m => l2  w_1a w_1l w_1c r_2b r_2o n_5 t_6a t_6l t_6c k_8 R m) ρ m) : cpt P od (panicR R) (.loop (lP (bB (sR (sL (cT (sR (cE (sR (bB (sR (sL (sR (sR (sR (body)))))))))))))))) (l2Q  R) ρ m := by
  unfold l2E at h
  obtain ⟨w_1a, w_1l, w_1c, e1, h⟩ := h.ex
  obtain ⟨r_2b, r_2o, e2, h⟩ := h.ex
  obtain ⟨n_5, e5, h⟩ := h.ex
  obtain ⟨t_6a, t_6l, t_6c, e6, h⟩ := h.ex
  obtain ⟨k_8, e8, h⟩ := h.ex
  obtain ⟨I, N, h0, hs⟩ := h
  refine ⟨fun N => l2E (I N), N, (by show l2E (I N) ρ m; unfold l2E; rw [e1, e2, e5, e6, e8]; exact h0), ?_⟩
  clear h0 e1 e2 e5 e6 e8
  intro N ρ m h
  unfold l2E at h
  obtain ⟨w_1a, w_1l, w_1c, e1, h⟩ := h.ex
  obtain ⟨r_2b, r_2o, e2, h⟩ := h.ex
  obtain ⟨n_5, e5, h⟩ := h.ex
  obtain ⟨t_6a, t_6l, t_6c, e6, h⟩ := h.ex
  obtain ⟨k_8, e8, h⟩ := h.ex
  refine cpt_mono (P := P) (lP (bB (sR (sL (cT (sR (cE (sR (bB (sR (sL (sR (sR (sR (body))))))))))))))) (Q := thenQ (l2E fun w_1a w_1l w_1c r_2b r_2o n_5 t_6a t_6l t_6c k_8 m => ∃ N1, N1 < N ∧ I N1 w_1a w_1l w_1c r_2b r_2o n_5 t_6a t_6l t_6c k_8 m) (l2Q  R)) (fun e ρ m h => ?_) ρ m ?_
  · cases e with
    | normal =>
      have h : l2E (fun w_1a w_1l w_1c r_2b r_2o n_5 t_6a t_6l t_6c k_8 m => ∃ N1, N1 < N ∧ I N1 w_1a w_1l w_1c r_2b r_2o n_5 t_6a t_6l t_6c k_8 m) ρ m := h
      unfold l2E at h
      obtain ⟨w_1a, w_1l, w_1c, e1, h⟩ := h.ex
      obtain ⟨r_2b, r_2o, e2, h⟩ := h.ex
      obtain ⟨n_5, e5, h⟩ := h.ex
      obtain ⟨t_6a, t_6l, t_6c, e6, h⟩ := h.ex
      obtain ⟨k_8, e8, h⟩ := h.ex
      obtain ⟨N1, hlt, h⟩ := h
      exact ⟨N1, hlt, (by show l2E (I N1) ρ m; unfold l2E; rw [e1, e2, e5, e6, e8]; exact h)⟩
    | _ => exact h
  have hh := hs N w_1a w_1l w_1c r_2b r_2o n_5 t_6a t_6l t_6c k_8 m h
  generalize (fun w_1a w_1l w_1c r_2b r_2o n_5 t_6a t_6l t_6c k_8 m => ∃ N1, N1 < N ∧ I N1 w_1a w_1l w_1c r_2b r_2o n_5 t_6a t_6l t_6c k_8 m : Option Addr → Nat → Nat → Nat → Nat → Int → Option Addr → Nat → Nat → Int → Mem → Prop) = K2 at hh ⊢
  rw [← upd_self e1, ← upd_self e2, ← upd_self e5, ← upd_self e6, ← upd_self e8]
  rw [← l2_er  K2 R]
  refine acpt_sound (P := P) (l2A  K2 R) _ _ _ ⟨⟨True.intro, ⟨⟨(fun ρ m h => l3_ok K2 R ρ m h), True.intro⟩, True.intro⟩⟩, True.intro⟩ ?_
  exact Eq.mp (l2_eq  K2 R w_1a w_1l w_1c r_2b r_2o n_5 t_6a t_6l t_6c k_8 ρ m) hh
theorem l5_eq  (K5 : Option Addr → Nat → Nat → Nat → Nat → Option Addr → Nat → Nat → Int → Mem → Prop) (R : Ending → Mem → Prop) (w_1a : Option Addr) (w_1l : Nat) (w_1c : Nat) (r_2b : Nat) (r_2o : Nat) (t_6a : Option Addr) (t_6l : Nat) (t_6c : Nat) (k_12 : Int) (ρ : Env) (m : Mem) : l5B  K5 w_1a w_1l w_1c r_2b r_2o t_6a t_6l t_6c k_12 R m = acpt P od (panicR R) (l5A  K5 R) (thenQ (l5E K5) (l5Q  R)) (upd (upd (upd (upd ρ 12 (.int .i64 k_12)) 6 (.slice t_6a t_6l t_6c)) 2 (.pointer (some ⟨r_2b, r_2o, none⟩))) 1 (.slice w_1a w_1l w_1c)) m := by kernel_rfl
theorem l5_er  (K5 : Option Addr → Nat → Nat → Nat → Nat → Option Addr → Nat → Nat → Int → Mem → Prop) (R : Ending → Mem → Prop) : (l5A  K5 R).erase = lP (bB (sR (sL (sR (cT (sR (cE (sR (cE (sR (bB (sR (sL (sR (sR (sR (body))))))))))))))))) := by kernel_rfl
theorem l5_ok  (R : Ending → Mem → Prop) (ρ : Env) (m : Mem) (h : (l5E fun w_1a w_1l w_1c r_2b r_2o t_6a t_6l t_6c k_12 m => l5  w_1a w_1l w_1c r_2b r_2o t_6a t_6l t_6c k_12 R m) ρ m) : cpt P od (panicR R) (.loop (lP (bB (sR (sL (sR (cT (sR (cE (sR (cE (sR (bB (sR (sL (sR (sR (sR (body))))))))))))))))))) (l5Q  R) ρ m := by
  unfold l5E at h
  obtain ⟨w_1a, w_1l, w_1c, e1, h⟩ := h.ex
  obtain ⟨r_2b, r_2o, e2, h⟩ := h.ex
  obtain ⟨t_6a, t_6l, t_6c, e6, h⟩ := h.ex
  obtain ⟨k_12, e12, h⟩ := h.ex
  obtain ⟨I, N, h0, hs⟩ := h
  refine ⟨fun N => l5E (I N), N, (by show l5E (I N) ρ m; unfold l5E; rw [e1, e2, e6, e12]; exact h0), ?_⟩
  clear h0 e1 e2 e6 e12
  intro N ρ m h
  unfold l5E at h
  obtain ⟨w_1a, w_1l, w_1c, e1, h⟩ := h.ex
  obtain ⟨r_2b, r_2o, e2, h⟩ := h.ex
  obtain ⟨t_6a, t_6l, t_6c, e6, h⟩ := h.ex
  obtain ⟨k_12, e12, h⟩ := h.ex
  refine cpt_mono (P := P) (lP (bB (sR (sL (sR (cT (sR (cE (sR (cE (sR (bB (sR (sL (sR (sR (sR (body)))))))))))))))))) (Q := thenQ (l5E fun w_1a w_1l w_1c r_2b r_2o t_6a t_6l t_6c k_12 m => ∃ N1, N1 < N ∧ I N1 w_1a w_1l w_1c r_2b r_2o t_6a t_6l t_6c k_12 m) (l5Q  R)) (fun e ρ m h => ?_) ρ m ?_
  · cases e with
    | normal =>
      have h : l5E (fun w_1a w_1l w_1c r_2b r_2o t_6a t_6l t_6c k_12 m => ∃ N1, N1 < N ∧ I N1 w_1a w_1l w_1c r_2b r_2o t_6a t_6l t_6c k_12 m) ρ m := h
      unfold l5E at h
      obtain ⟨w_1a, w_1l, w_1c, e1, h⟩ := h.ex
      obtain ⟨r_2b, r_2o, e2, h⟩ := h.ex
      obtain ⟨t_6a, t_6l, t_6c, e6, h⟩ := h.ex
      obtain ⟨k_12, e12, h⟩ := h.ex
      obtain ⟨N1, hlt, h⟩ := h
      exact ⟨N1, hlt, (by show l5E (I N1) ρ m; unfold l5E; rw [e1, e2, e6, e12]; exact h)⟩
    | _ => exact h
  have hh := hs N w_1a w_1l w_1c r_2b r_2o t_6a t_6l t_6c k_12 m h
  generalize (fun w_1a w_1l w_1c r_2b r_2o t_6a t_6l t_6c k_12 m => ∃ N1, N1 < N ∧ I N1 w_1a w_1l w_1c r_2b r_2o t_6a t_6l t_6c k_12 m : Option Addr → Nat → Nat → Nat → Nat → Option Addr → Nat → Nat → Int → Mem → Prop) = K5 at hh ⊢
  rw [← upd_self e1, ← upd_self e2, ← upd_self e6, ← upd_self e12]
  rw [← l5_er  K5 R]
  refine acpt_sound (P := P) (l5A  K5 R) _ _ _ True.intro ?_
  exact Eq.mp (l5_eq  K5 R w_1a w_1l w_1c r_2b r_2o t_6a t_6l t_6c k_12 ρ m) hh
theorem l6_eq  (K6 : Int → Option Addr → Nat → Nat → Int → Mem → Prop) (R : Ending → Mem → Prop) (n_5 : Int) (x_13a : Option Addr) (x_13l : Nat) (x_13c : Nat) (i_14 : Int) (ρ : Env) (m : Mem) : l6B  K6 n_5 x_13a x_13l x_13c i_14 R m = acpt P od (panicR R) (l6A  K6 R) (thenQ (l6E K6) (l6Q  R)) (upd (upd (upd ρ 14 (.int .i64 i_14)) 13 (.slice x_13a x_13l x_13c)) 5 (.int .i64 n_5)) m := by kernel_rfl
theorem l6_er  (K6 : Int → Option Addr → Nat → Nat → Int → Mem → Prop) (R : Ending → Mem → Prop) : (l6A  K6 R).erase = lP (bB (sR (sL (cT (sR (sL (sR (sR (sR (sR (sR (body)))))))))))) := by kernel_rfl
theorem l6_ok  (R : Ending → Mem → Prop) (ρ : Env) (m : Mem) (h : (l6E fun n_5 x_13a x_13l x_13c i_14 m => l6  n_5 x_13a x_13l x_13c i_14 R m) ρ m) : cpt P od (panicR R) (.loop (lP (bB (sR (sL (cT (sR (sL (sR (sR (sR (sR (sR (body)))))))))))))) (l6Q  R) ρ m := by
  unfold l6E at h
  obtain ⟨n_5, e5, h⟩ := h.ex
  obtain ⟨x_13a, x_13l, x_13c, e13, h⟩ := h.ex
  obtain ⟨i_14, e14, h⟩ := h.ex
  obtain ⟨I, N, h0, hs⟩ := h
  refine ⟨fun N => l6E (I N), N, (by show l6E (I N) ρ m; unfold l6E; rw [e5, e13, e14]; exact h0), ?_⟩
  clear h0 e5 e13 e14
  intro N ρ m h
  unfold l6E at h
  obtain ⟨n_5, e5, h⟩ := h.ex
  obtain ⟨x_13a, x_13l, x_13c, e13, h⟩ := h.ex
  obtain ⟨i_14, e14, h⟩ := h.ex
  refine cpt_mono (P := P) (lP (bB (sR (sL (cT (sR (sL (sR (sR (sR (sR (sR (body))))))))))))) (Q := thenQ (l6E fun n_5 x_13a x_13l x_13c i_14 m => ∃ N1, N1 < N ∧ I N1 n_5 x_13a x_13l x_13c i_14 m) (l6Q  R)) (fun e ρ m h => ?_) ρ m ?_
  · cases e with
    | normal =>
      have h : l6E (fun n_5 x_13a x_13l x_13c i_14 m => ∃ N1, N1 < N ∧ I N1 n_5 x_13a x_13l x_13c i_14 m) ρ m := h
      unfold l6E at h
      obtain ⟨n_5, e5, h⟩ := h.ex
      obtain ⟨x_13a, x_13l, x_13c, e13, h⟩ := h.ex
      obtain ⟨i_14, e14, h⟩ := h.ex
      obtain ⟨N1, hlt, h⟩ := h
      exact ⟨N1, hlt, (by show l6E (I N1) ρ m; unfold l6E; rw [e5, e13, e14]; exact h)⟩
    | _ => exact h
  have hh := hs N n_5 x_13a x_13l x_13c i_14 m h
  generalize (fun n_5 x_13a x_13l x_13c i_14 m => ∃ N1, N1 < N ∧ I N1 n_5 x_13a x_13l x_13c i_14 m : Int → Option Addr → Nat → Nat → Int → Mem → Prop) = K6 at hh ⊢
  rw [← upd_self e5, ← upd_self e13, ← upd_self e14]
  rw [← l6_er  K6 R]
  refine acpt_sound (P := P) (l6A  K6 R) _ _ _ True.intro ?_
  exact Eq.mp (l6_eq  K6 R n_5 x_13a x_13l x_13c i_14 ρ m) hh
theorem l9_eq (K7 : Nat → Nat → Int → Option Addr → Nat → Nat → Option Addr → Nat → Nat → Int → Mem → Prop) (K8 : Nat → Nat → Int → Option Addr → Nat → Nat → Option Addr → Nat → Nat → Int → Int → Mem → Prop) (K9 : Nat → Nat → Int → Option Addr → Nat → Nat → Option Addr → Nat → Nat → Int → Int → Int → Mem → Prop) (R : Ending → Mem → Prop) (r_2b : Nat) (r_2o : Nat) (n_5 : Int) (t_6a : Option Addr) (t_6l : Nat) (t_6c : Nat) (x_13a : Option Addr) (x_13l : Nat) (x_13c : Nat) (i_15 : Int) (j_16 : Int) (k_17 : Int) (ρ : Env) (m : Mem) : l9B K7 K8 K9 r_2b r_2o n_5 t_6a t_6l t_6c x_13a x_13l x_13c i_15 j_16 k_17 R m = acpt P od (panicR R) (l9A K7 K8 K9 R) (thenQ (l9E K9) (l9Q K7 K8 R)) (upd (upd (upd (upd (upd (upd (upd ρ 17 (.int .i64 k_17)) 16 (.int .i64 j_16)) 15 (.int .i64 i_15)) 13 (.slice x_13a x_13l x_13c)) 6 (.slice t_6a t_6l t_6c)) 5 (.int .i64 n_5)) 2 (.pointer (some ⟨r_2b, r_2o, none⟩))) m := by kernel_rfl
theorem l9_er (K7 : Nat → Nat → Int → Option Addr → Nat → Nat → Option Addr → Nat → Nat → Int → Mem → Prop) (K8 : Nat → Nat → Int → Option Addr → Nat → Nat → Option Addr → Nat → Nat → Int → Int → Mem → Prop) (K9 : Nat → Nat → Int → Option Addr → Nat → Nat → Option Addr → Nat → Nat → Int → Int → Int → Mem → Prop) (R : Ending → Mem → Prop) : (l9A K7 K8 K9 R).erase = lP (bB (sR (bB (sL (sR (lP (bB (sR (bB (sL (sR (lP (bB (sR (sL (sR (sR (sR (sR (sR (sR (sR (body))))))))))))))))))))))) := by kernel_rfl
theorem l9_ok (K7 : Nat → Nat → Int → Option Addr → Nat → Nat → Option Addr → Nat → Nat → Int → Mem → Prop) (K8 : Nat → Nat → Int → Option Addr → Nat → Nat → Option Addr → Nat → Nat → Int → Int → Mem → Prop) (R : Ending → Mem → Prop) (ρ : Env) (m : Mem) (h : (l9E fun r_2b r_2o n_5 t_6a t_6l t_6c x_13a x_13l x_13c i_15 j_16 k_17 m => l9 K7 K8 r_2b r_2o n_5 t_6a t_6l t_6c x_13a x_13l x_13c i_15 j_16 k_17 R m) ρ m) : cpt P od (panicR R) (.loop (lP (bB (sR (bB (sL (sR (lP (bB (sR (bB (sL (sR (lP (bB (sR (sL (sR (sR (sR (sR (sR (sR (sR (body))))))))))))))))))))))))) (l9Q K7 K8 R) ρ m := by
  unfold l9E at h
  obtain ⟨r_2b, r_2o, e2, h⟩ := h.ex
  obtain ⟨n_5, e5, h⟩ := h.ex
  obtain ⟨t_6a, t_6l, t_6c, e6, h⟩ := h.ex
  obtain ⟨x_13a, x_13l, x_13c, e13, h⟩ := h.ex
  obtain ⟨i_15, e15, h⟩ := h.ex
  obtain ⟨j_16, e16, h⟩ := h.ex
  obtain ⟨k_17, e17, h⟩ := h.ex
  obtain ⟨I, N, h0, hs⟩ := h
  refine ⟨fun N => l9E (I N), N, (by show l9E (I N) ρ m; unfold l9E; rw [e2, e5, e6, e13, e15, e16, e17]; exact h0), ?_⟩
  clear h0 e2 e5 e6 e13 e15 e16 e17
  intro N ρ m h
  unfold l9E at h
  obtain ⟨r_2b, r_2o, e2, h⟩ := h.ex
  obtain ⟨n_5, e5, h⟩ := h.ex
  obtain ⟨t_6a, t_6l, t_6c, e6, h⟩ := h.ex
  obtain ⟨x_13a, x_13l, x_13c, e13, h⟩ := h.ex
  obtain ⟨i_15, e15, h⟩ := h.ex
  obtain ⟨j_16, e16, h⟩ := h.ex
  obtain ⟨k_17, e17, h⟩ := h.ex
  refine cpt_mono (P := P) (lP (bB (sR (bB (sL (sR (lP (bB (sR (bB (sL (sR (lP (bB (sR (sL (sR (sR (sR (sR (sR (sR (sR (body)))))))))))))))))))))))) (Q := thenQ (l9E fun r_2b r_2o n_5 t_6a t_6l t_6c x_13a x_13l x_13c i_15 j_16 k_17 m => ∃ N1, N1 < N ∧ I N1 r_2b r_2o n_5 t_6a t_6l t_6c x_13a x_13l x_13c i_15 j_16 k_17 m) (l9Q K7 K8 R)) (fun e ρ m h => ?_) ρ m ?_
  · cases e with
    | normal =>
      have h : l9E (fun r_2b r_2o n_5 t_6a t_6l t_6c x_13a x_13l x_13c i_15 j_16 k_17 m => ∃ N1, N1 < N ∧ I N1 r_2b r_2o n_5 t_6a t_6l t_6c x_13a x_13l x_13c i_15 j_16 k_17 m) ρ m := h
      unfold l9E at h
      obtain ⟨r_2b, r_2o, e2, h⟩ := h.ex
      obtain ⟨n_5, e5, h⟩ := h.ex
      obtain ⟨t_6a, t_6l, t_6c, e6, h⟩ := h.ex
      obtain ⟨x_13a, x_13l, x_13c, e13, h⟩ := h.ex
      obtain ⟨i_15, e15, h⟩ := h.ex
      obtain ⟨j_16, e16, h⟩ := h.ex
      obtain ⟨k_17, e17, h⟩ := h.ex
      obtain ⟨N1, hlt, h⟩ := h
      exact ⟨N1, hlt, (by show l9E (I N1) ρ m; unfold l9E; rw [e2, e5, e6, e13, e15, e16, e17]; exact h)⟩
    | _ => exact h
  have hh := hs N r_2b r_2o n_5 t_6a t_6l t_6c x_13a x_13l x_13c i_15 j_16 k_17 m h
  generalize (fun r_2b r_2o n_5 t_6a t_6l t_6c x_13a x_13l x_13c i_15 j_16 k_17 m => ∃ N1, N1 < N ∧ I N1 r_2b r_2o n_5 t_6a t_6l t_6c x_13a x_13l x_13c i_15 j_16 k_17 m : Nat → Nat → Int → Option Addr → Nat → Nat → Option Addr → Nat → Nat → Int → Int → Int → Mem → Prop) = K9 at hh ⊢
  rw [← upd_self e2, ← upd_self e5, ← upd_self e6, ← upd_self e13, ← upd_self e15, ← upd_self e16, ← upd_self e17]
  rw [← l9_er K7 K8 K9 R]
  refine acpt_sound (P := P) (l9A K7 K8 K9 R) _ _ _ True.intro ?_
  exact Eq.mp (l9_eq K7 K8 K9 R r_2b r_2o n_5 t_6a t_6l t_6c x_13a x_13l x_13c i_15 j_16 k_17 ρ m) hh
theorem l8_eq (K7 : Nat → Nat → Int → Option Addr → Nat → Nat → Option Addr → Nat → Nat → Int → Mem → Prop) (K8 : Nat → Nat → Int → Option Addr → Nat → Nat → Option Addr → Nat → Nat → Int → Int → Mem → Prop) (R : Ending → Mem → Prop) (r_2b : Nat) (r_2o : Nat) (n_5 : Int) (t_6a : Option Addr) (t_6l : Nat) (t_6c : Nat) (x_13a : Option Addr) (x_13l : Nat) (x_13c : Nat) (i_15 : Int) (j_16 : Int) (ρ : Env) (m : Mem) : l8B K7 K8 r_2b r_2o n_5 t_6a t_6l t_6c x_13a x_13l x_13c i_15 j_16 R m = acpt P od (panicR R) (l8A K7 K8 R) (thenQ (l8E K8) (l8Q K7 R)) (upd (upd (upd (upd (upd (upd ρ 16 (.int .i64 j_16)) 15 (.int .i64 i_15)) 13 (.slice x_13a x_13l x_13c)) 6 (.slice t_6a t_6l t_6c)) 5 (.int .i64 n_5)) 2 (.pointer (some ⟨r_2b, r_2o, none⟩))) m := by kernel_rfl
theorem l8_er (K7 : Nat → Nat → Int → Option Addr → Nat → Nat → Option Addr → Nat → Nat → Int → Mem → Prop) (K8 : Nat → Nat → Int → Option Addr → Nat → Nat → Option Addr → Nat → Nat → Int → Int → Mem → Prop) (R : Ending → Mem → Prop) : (l8A K7 K8 R).erase = lP (bB (sR (bB (sL (sR (lP (bB (sR (sL (sR (sR (sR (sR (sR (sR (sR (body))))))))))))))))) := by kernel_rfl
theorem l8_ok (K7 : Nat → Nat → Int → Option Addr → Nat → Nat → Option Addr → Nat → Nat → Int → Mem → Prop) (R : Ending → Mem → Prop) (ρ : Env) (m : Mem) (h : (l8E fun r_2b r_2o n_5 t_6a t_6l t_6c x_13a x_13l x_13c i_15 j_16 m => l8 K7 r_2b r_2o n_5 t_6a t_6l t_6c x_13a x_13l x_13c i_15 j_16 R m) ρ m) : cpt P od (panicR R) (.loop (lP (bB (sR (bB (sL (sR (lP (bB (sR (sL (sR (sR (sR (sR (sR (sR (sR (body))))))))))))))))))) (l8Q K7 R) ρ m := by
  unfold l8E at h
  obtain ⟨r_2b, r_2o, e2, h⟩ := h.ex
  obtain ⟨n_5, e5, h⟩ := h.ex
  obtain ⟨t_6a, t_6l, t_6c, e6, h⟩ := h.ex
  obtain ⟨x_13a, x_13l, x_13c, e13, h⟩ := h.ex
  obtain ⟨i_15, e15, h⟩ := h.ex
  obtain ⟨j_16, e16, h⟩ := h.ex
  obtain ⟨I, N, h0, hs⟩ := h
  refine ⟨fun N => l8E (I N), N, (by show l8E (I N) ρ m; unfold l8E; rw [e2, e5, e6, e13, e15, e16]; exact h0), ?_⟩
  clear h0 e2 e5 e6 e13 e15 e16
  intro N ρ m h
  unfold l8E at h
  obtain ⟨r_2b, r_2o, e2, h⟩ := h.ex
  obtain ⟨n_5, e5, h⟩ := h.ex
  obtain ⟨t_6a, t_6l, t_6c, e6, h⟩ := h.ex
  obtain ⟨x_13a, x_13l, x_13c, e13, h⟩ := h.ex
  obtain ⟨i_15, e15, h⟩ := h.ex
  obtain ⟨j_16, e16, h⟩ := h.ex
  refine cpt_mono (P := P) (lP (bB (sR (bB (sL (sR (lP (bB (sR (sL (sR (sR (sR (sR (sR (sR (sR (body)))))))))))))))))) (Q := thenQ (l8E fun r_2b r_2o n_5 t_6a t_6l t_6c x_13a x_13l x_13c i_15 j_16 m => ∃ N1, N1 < N ∧ I N1 r_2b r_2o n_5 t_6a t_6l t_6c x_13a x_13l x_13c i_15 j_16 m) (l8Q K7 R)) (fun e ρ m h => ?_) ρ m ?_
  · cases e with
    | normal =>
      have h : l8E (fun r_2b r_2o n_5 t_6a t_6l t_6c x_13a x_13l x_13c i_15 j_16 m => ∃ N1, N1 < N ∧ I N1 r_2b r_2o n_5 t_6a t_6l t_6c x_13a x_13l x_13c i_15 j_16 m) ρ m := h
      unfold l8E at h
      obtain ⟨r_2b, r_2o, e2, h⟩ := h.ex
      obtain ⟨n_5, e5, h⟩ := h.ex
      obtain ⟨t_6a, t_6l, t_6c, e6, h⟩ := h.ex
      obtain ⟨x_13a, x_13l, x_13c, e13, h⟩ := h.ex
      obtain ⟨i_15, e15, h⟩ := h.ex
      obtain ⟨j_16, e16, h⟩ := h.ex
      obtain ⟨N1, hlt, h⟩ := h
      exact ⟨N1, hlt, (by show l8E (I N1) ρ m; unfold l8E; rw [e2, e5, e6, e13, e15, e16]; exact h)⟩
    | _ => exact h
  have hh := hs N r_2b r_2o n_5 t_6a t_6l t_6c x_13a x_13l x_13c i_15 j_16 m h
  generalize (fun r_2b r_2o n_5 t_6a t_6l t_6c x_13a x_13l x_13c i_15 j_16 m => ∃ N1, N1 < N ∧ I N1 r_2b r_2o n_5 t_6a t_6l t_6c x_13a x_13l x_13c i_15 j_16 m : Nat → Nat → Int → Option Addr → Nat → Nat → Option Addr → Nat → Nat → Int → Int → Mem → Prop) = K8 at hh ⊢
  rw [← upd_self e2, ← upd_self e5, ← upd_self e6, ← upd_self e13, ← upd_self e15, ← upd_self e16]
  rw [← l8_er K7 K8 R]
  refine acpt_sound (P := P) (l8A K7 K8 R) _ _ _ ⟨⟨True.intro, ⟨(fun ρ m h => l9_ok K7 K8 R ρ m h), True.intro⟩⟩, True.intro⟩ ?_
  exact Eq.mp (l8_eq K7 K8 R r_2b r_2o n_5 t_6a t_6l t_6c x_13a x_13l x_13c i_15 j_16 ρ m) hh
theorem k10_eq  (R : Ending → Mem → Prop) (r_2b : Nat) (r_2o : Nat) (t_6a : Option Addr) (t_6l : Nat) (t_6c : Nat) (x_13a : Option Addr) (x_13l : Nat) (x_13c : Nat) (ρ : Env) (m : Mem) : k10  r_2b r_2o t_6a t_6l t_6c x_13a x_13l x_13c R m = acpt P od (panicR R) (k10A  R) (k10Q  R) (upd (upd (upd ρ 13 (.slice x_13a x_13l x_13c)) 6 (.slice t_6a t_6l t_6c)) 2 (.pointer (some ⟨r_2b, r_2o, none⟩))) m := by kernel_rfl
theorem k10_er  (R : Ending → Mem → Prop) : (k10A  R).erase = sR (sR (sR (sR (sR (sR (sR (sR (body)))))))) := by kernel_rfl
theorem k10_ok  (R : Ending → Mem → Prop) (ρ : Env) (m : Mem) (h : (k10E fun r_2b r_2o t_6a t_6l t_6c x_13a x_13l x_13c m => k10  r_2b r_2o t_6a t_6l t_6c x_13a x_13l x_13c R m) ρ m) : cpt P od (panicR R) (sR (sR (sR (sR (sR (sR (sR (sR (body))))))))) (k10Q  R) ρ m := by
  unfold k10E at h
  obtain ⟨r_2b, r_2o, e2, h⟩ := h.ex
  obtain ⟨t_6a, t_6l, t_6c, e6, h⟩ := h.ex
  obtain ⟨x_13a, x_13l, x_13c, e13, h⟩ := h.ex
  rw [← upd_self e2, ← upd_self e6, ← upd_self e13]
  rw [← k10_er  R]
  refine acpt_sound (P := P) (k10A  R) _ _ _ True.intro ?_
  exact Eq.mp (k10_eq  R r_2b r_2o t_6a t_6l t_6c x_13a x_13l x_13c ρ m) h
theorem l7_eq  (K7 : Nat → Nat → Int → Option Addr → Nat → Nat → Option Addr → Nat → Nat → Int → Mem → Prop) (R : Ending → Mem → Prop) (r_2b : Nat) (r_2o : Nat) (n_5 : Int) (t_6a : Option Addr) (t_6l : Nat) (t_6c : Nat) (x_13a : Option Addr) (x_13l : Nat) (x_13c : Nat) (i_15 : Int) (ρ : Env) (m : Mem) : l7B  K7 r_2b r_2o n_5 t_6a t_6l t_6c x_13a x_13l x_13c i_15 R m = acpt P od (panicR R) (l7A  K7 R) (thenQ (l7E K7) (l7Q  R)) (upd (upd (upd (upd (upd ρ 15 (.int .i64 i_15)) 13 (.slice x_13a x_13l x_13c)) 6 (.slice t_6a t_6l t_6c)) 5 (.int .i64 n_5)) 2 (.pointer (some ⟨r_2b, r_2o, none⟩))) m := by kernel_rfl
theorem l7_er  (K7 : Nat → Nat → Int → Option Addr → Nat → Nat → Option Addr → Nat → Nat → Int → Mem → Prop) (R : Ending → Mem → Prop) : (l7A  K7 R).erase = lP (bB (sR (sL (sR (sR (sR (sR (sR (sR (sR (body))))))))))) := by kernel_rfl
theorem l7_ok  (R : Ending → Mem → Prop) (ρ : Env) (m : Mem) (h : (l7E fun r_2b r_2o n_5 t_6a t_6l t_6c x_13a x_13l x_13c i_15 m => l7  r_2b r_2o n_5 t_6a t_6l t_6c x_13a x_13l x_13c i_15 R m) ρ m) : cpt P od (panicR R) (.loop (lP (bB (sR (sL (sR (sR (sR (sR (sR (sR (sR (body))))))))))))) (l7Q  R) ρ m := by
  unfold l7E at h
  obtain ⟨r_2b, r_2o, e2, h⟩ := h.ex
  obtain ⟨n_5, e5, h⟩ := h.ex
  obtain ⟨t_6a, t_6l, t_6c, e6, h⟩ := h.ex
  obtain ⟨x_13a, x_13l, x_13c, e13, h⟩ := h.ex
  obtain ⟨i_15, e15, h⟩ := h.ex
  obtain ⟨I, N, h0, hs⟩ := h
  refine ⟨fun N => l7E (I N), N, (by show l7E (I N) ρ m; unfold l7E; rw [e2, e5, e6, e13, e15]; exact h0), ?_⟩
  clear h0 e2 e5 e6 e13 e15
  intro N ρ m h
  unfold l7E at h
  obtain ⟨r_2b, r_2o, e2, h⟩ := h.ex
  obtain ⟨n_5, e5, h⟩ := h.ex
  obtain ⟨t_6a, t_6l, t_6c, e6, h⟩ := h.ex
  obtain ⟨x_13a, x_13l, x_13c, e13, h⟩ := h.ex
  obtain ⟨i_15, e15, h⟩ := h.ex
  refine cpt_mono (P := P) (lP (bB (sR (sL (sR (sR (sR (sR (sR (sR (sR (body)))))))))))) (Q := thenQ (l7E fun r_2b r_2o n_5 t_6a t_6l t_6c x_13a x_13l x_13c i_15 m => ∃ N1, N1 < N ∧ I N1 r_2b r_2o n_5 t_6a t_6l t_6c x_13a x_13l x_13c i_15 m) (l7Q  R)) (fun e ρ m h => ?_) ρ m ?_
  · cases e with
    | normal =>
      have h : l7E (fun r_2b r_2o n_5 t_6a t_6l t_6c x_13a x_13l x_13c i_15 m => ∃ N1, N1 < N ∧ I N1 r_2b r_2o n_5 t_6a t_6l t_6c x_13a x_13l x_13c i_15 m) ρ m := h
      unfold l7E at h
      obtain ⟨r_2b, r_2o, e2, h⟩ := h.ex
      obtain ⟨n_5, e5, h⟩ := h.ex
      obtain ⟨t_6a, t_6l, t_6c, e6, h⟩ := h.ex
      obtain ⟨x_13a, x_13l, x_13c, e13, h⟩ := h.ex
      obtain ⟨i_15, e15, h⟩ := h.ex
      obtain ⟨N1, hlt, h⟩ := h
      exact ⟨N1, hlt, (by show l7E (I N1) ρ m; unfold l7E; rw [e2, e5, e6, e13, e15]; exact h)⟩
    | _ => exact h
  have hh := hs N r_2b r_2o n_5 t_6a t_6l t_6c x_13a x_13l x_13c i_15 m h
  generalize (fun r_2b r_2o n_5 t_6a t_6l t_6c x_13a x_13l x_13c i_15 m => ∃ N1, N1 < N ∧ I N1 r_2b r_2o n_5 t_6a t_6l t_6c x_13a x_13l x_13c i_15 m : Nat → Nat → Int → Option Addr → Nat → Nat → Option Addr → Nat → Nat → Int → Mem → Prop) = K7 at hh ⊢
  rw [← upd_self e2, ← upd_self e5, ← upd_self e6, ← upd_self e13, ← upd_self e15]
  rw [← l7_er  K7 R]
  refine acpt_sound (P := P) (l7A  K7 R) _ _ _ ⟨⟨True.intro, ⟨(fun ρ m h => l8_ok K7 R ρ m h), True.intro⟩⟩, True.intro⟩ ?_
  exact Eq.mp (l7_eq  K7 R r_2b r_2o n_5 t_6a t_6l t_6c x_13a x_13l x_13c i_15 ρ m) hh
theorem e0_eq (r_0_0 : Int) (r_0_1 : Int) (r_0_2 : Int) (r_0_3 : Int) (r_0_4 : Int) (r_0_5a : Option Addr) (r_0_5l : Nat) (r_0_5c : Nat) (w_1a : Option Addr) (w_1l : Nat) (w_1c : Nat) (R : Ending → Mem → Prop) (m : Mem) : e0 r_0_0 r_0_1 r_0_2 r_0_3 r_0_4 r_0_5a r_0_5l r_0_5c w_1a w_1l w_1c R m = acpt P od (panicR R) (e0A R) (bodyQ P fn R) (argE (#[.agg #[.int .i64 r_0_0, .int .u64 r_0_1, .int .u64 r_0_2, .int .u64 r_0_3, .int .u64 r_0_4, .slice r_0_5a r_0_5l r_0_5c], .slice w_1a w_1l w_1c] : Array Value).toList) m := by kernel_rfl
theorem ok (r_0_0 : Int) (r_0_1 : Int) (r_0_2 : Int) (r_0_3 : Int) (r_0_4 : Int) (r_0_5a : Option Addr) (r_0_5l : Nat) (r_0_5c : Nat) (w_1a : Option Addr) (w_1l : Nat) (w_1c : Nat) (R : Ending → Mem → Prop) (m : Mem) (h : e0 r_0_0 r_0_1 r_0_2 r_0_3 r_0_4 r_0_5a r_0_5l r_0_5c w_1a w_1l w_1c R m) : HC P id #[.agg #[.int .i64 r_0_0, .int .u64 r_0_1, .int .u64 r_0_2, .int .u64 r_0_3, .int .u64 r_0_4, .slice r_0_5a r_0_5l r_0_5c], .slice w_1a w_1l w_1c] m R := by
  refine HC_of (fn := fn) (c := body) (od := od) (tb := tb) Go.Proofs.Try.func26 (by kernel_rfl) (by kernel_rfl) follows (by kernel_rfl) (of_decide_eq_true (by kernel_rfl)) ?_
  have he : (e0A R).erase = body := by kernel_rfl
  rw [← he]
  refine acpt_sound (P := P) (e0A R) _ _ _ ⟨⟨⟨⟨⟨⟨⟨⟨(fun ρ m h => k10_ok  R ρ m h), ⟨(fun ρ m h => l7_ok  R ρ m h), True.intro⟩⟩, True.intro⟩, ⟨⟨⟨True.intro, ⟨(fun ρ m h => l6_ok  R ρ m h), True.intro⟩⟩, True.intro⟩, True.intro⟩⟩, True.intro⟩, ⟨⟨⟨⟨True.intro, ⟨(fun ρ m h => l1_ok  R ρ m h), True.intro⟩⟩, ⟨⟨⟨True.intro, ⟨(fun ρ m h => l2_ok  R ρ m h), True.intro⟩⟩, ⟨⟨⟨⟨True.intro, ⟨(fun ρ m h => l5_ok  R ρ m h), True.intro⟩⟩, True.intro⟩, True.intro⟩, True.intro⟩⟩, True.intro⟩⟩, True.intro⟩, True.intro⟩⟩, True.intro⟩, True.intro⟩, True.intro⟩ ?_
  exact Eq.mp (e0_eq r_0_0 r_0_1 r_0_2 r_0_3 r_0_4 r_0_5a r_0_5l r_0_5c w_1a w_1l w_1c R m) h
end eyotref8_spans
end
end Go.E
set_option linter.unusedVariables false
set_option maxRecDepth 100000
namespace Go.E
open Go.H
noncomputable section
/-! ### eyot/eyotref8.Of -/
namespace eyotref8_Of
noncomputable def fn : Func := Go.Proofs.Try.f27
noncomputable def body : Code := fn.body.getD .skip
def od : Nat → Ord := fun | 5 => ordL [(0, 3), (1, 3), (2, 3), (3, 1), (4, 3), (5, 3), (6, 1), (7, 3), (8, 3), (9, 3), (10, 0), (11, 3), (12, 3), (13, 3), (14, 3), (15, 2)] .done | _ => .done
def tb : Nat → Tab := fun | 5 => (32768, [0, 0, 3, 7, 15, 31, 63, 0, 0, 384, 896, 1920, 3968, 8191, 16383, 32767], [(0, 1, 12), (0, 16, 13), (3, 6144, 14), (4, 8192, 15), (8, 16384, 16), (16, 32776, 17), (32, 65536, 18), (0, 1, 19), (0, 16, 20), (384, 786432, 21), (512, 1048576, 22), (1024, 2097152, 23), (2048, 4194304, 24), (4160, 8519680, 25), (16383, 32776, 26), (32767, 50331648, 0)]) | _ => (0, [], [])
def l1E (K : Option Addr → Nat → Nat → Nat → Nat → Nat → Nat → Int → Mem → Prop) : Env → Mem → Prop := fun ρ m => UnS (ρ 0) fun l_0a l_0l l_0c => UnPA (ρ 2) fun x2b x2o => UnPA (ρ 3) fun s_3b s_3o => UnI (ρ 4) .i64 fun i_4 => K l_0a l_0l l_0c x2b x2o s_3b s_3o i_4 m
def l1B  (K1 : Option Addr → Nat → Nat → Nat → Nat → Nat → Nat → Int → Mem → Prop) (l_0a : Option Addr) (l_0l : Nat) (l_0c : Nat) (x2b : Nat) (x2o : Nat) (s_3b : Nat) (s_3o : Nat) (i_4 : Int) (R : Ending → Mem → Prop) (m : Mem) : Prop :=
 Br (decide (i_4 < ((l_0l : Nat) : Int))) (
  Sub m fun r1 =>
  IxS l_0a l_0l i_4 1 fun x13b x13o =>
  LdV r1 x13b x13o fun v =>
  UnI v .u8 fun x14 =>
  0 ≤ (IntKind.u8.wrap (Int.tdiv x14 64) : Int) ∧ (IntKind.u8.wrap (Int.tdiv x14 64) : Int) < (4 : Nat) ∧ (
   LdV r1 s_3b (s_3o + (IntKind.u8.wrap (Int.tdiv x14 64) : Int).toNat * 1) fun v =>
   UnI v .u64 fun x17 =>
   IxS l_0a l_0l i_4 1 fun x20b x20o =>
   LdV m x20b x20o fun v =>
   UnI v .u8 fun x21 =>
   NnI (Int.tmod x21 64) (
    0 ≤ (IntKind.u8.wrap (Int.tdiv x14 64) : Int) ∧ (IntKind.u8.wrap (Int.tdiv x14 64) : Int) < (4 : Nat) ∧ (
     St1 m s_3b (s_3o + (IntKind.u8.wrap (Int.tdiv x14 64) : Int).toNat * 1) (.int .u64 (bitsV .or .u64 x17 (shlV .u64 1 (Int.tmod x21 64)))) fun m2 =>
     K1 l_0a l_0l l_0c x2b x2o s_3b s_3o (IntKind.i64.wrap (i_4 + 1)) m2)))) (
  LdV m s_3b s_3o fun v =>
  UnI v .u64 fun x26_0 =>
  LdV m s_3b (s_3o + 1) fun v =>
  UnI v .u64 fun x26_1 =>
  LdV m s_3b (s_3o + 2) fun v =>
  UnI v .u64 fun x26_2 =>
  LdV m s_3b (s_3o + 3) fun v =>
  UnI v .u64 fun x26_3 =>
  St1 m x2b x2o (.int .u64 x26_0) fun m1 =>
  St1 m1 x2b (x2o + 1) (.int .u64 x26_1) fun m2 =>
  St1 m2 x2b (x2o + 2) (.int .u64 x26_2) fun m3 =>
  St1 m3 x2b (x2o + 3) (.int .u64 x26_3) fun m4 =>
  LdV m4 x2b x2o fun v =>
  UnI v .u64 fun res0_0 =>
  LdV m4 x2b (x2o + 1) fun v =>
  UnI v .u64 fun res0_1 =>
  LdV m4 x2b (x2o + 2) fun v =>
  UnI v .u64 fun res0_2 =>
  LdV m4 x2b (x2o + 3) fun v =>
  UnI v .u64 fun res0_3 =>
  R (.returned (.agg #[.int .u64 res0_0, .int .u64 res0_1, .int .u64 res0_2, .int .u64 res0_3])) m4)
def l1  (l_0a : Option Addr) (l_0l : Nat) (l_0c : Nat) (x2b : Nat) (x2o : Nat) (s_3b : Nat) (s_3o : Nat) (i_4 : Int) (R : Ending → Mem → Prop) (m : Mem) : Prop :=
  ∃ (I : Nat → Option Addr → Nat → Nat → Nat → Nat → Nat → Nat → Int → Mem → Prop) (N : Nat), I N l_0a l_0l l_0c x2b x2o s_3b s_3o i_4 m ∧ ∀ N l_0a l_0l l_0c x2b x2o s_3b s_3o i_4 m, I N l_0a l_0l l_0c x2b x2o s_3b s_3o i_4 m → l1B  (fun l_0a l_0l l_0c x2b x2o s_3b s_3o i_4 m => ∃ N1, N1 < N ∧ I N1 l_0a l_0l l_0c x2b x2o s_3b s_3o i_4 m) l_0a l_0l l_0c x2b x2o s_3b s_3o i_4 R m
noncomputable def l1A  (K1 : Option Addr → Nat → Nat → Nat → Nat → Nat → Nat → Int → Mem → Prop) (R : Ending → Mem → Prop) : ACode := (.code (lP (bB (sR (sL (sR (sR (body))))))))
def e0 (l_0a : Option Addr) (l_0l : Nat) (l_0c : Nat) (R : Ending → Mem → Prop) (m : Mem) : Prop :=
 NewC m #[.int .u64 0, .int .u64 0, .int .u64 0, .int .u64 0] T_api_Set fun b2 m1 =>
 NewC m1 #[.int .u64 0, .int .u64 0, .int .u64 0, .int .u64 0] T_api_Set fun b_s_3 m2 =>
 l1  l_0a l_0l l_0c b2 0 b_s_3 0 0 R m2
noncomputable def e0A (R : Ending → Mem → Prop) : ACode := (.seq (.code (sL (body))) (.seq (.code (sL (sR (body)))) (.seq (.seq (.code (sL (sL (sR (sR (body)))))) (.block 0 (.cut (l1E fun l_0a l_0l l_0c x2b x2o s_3b s_3o i_4 m => l1  l_0a l_0l l_0c x2b x2o s_3b s_3o i_4 R m) (.loop (lP (bB (sR (sL (sR (sR (body))))))))))) (.code (sR (sR (sR (body))))))))
abbrev l1Q  (R : Ending → Mem → Prop) : Exit → Env → Mem → Prop := (blockQ 0 (thenQ (acpt P od (panicR R) (.code (sR (sR (sR (body))))) (bodyQ P fn R)) (bodyQ P fn R)))
theorem l1_eq  (K1 : Option Addr → Nat → Nat → Nat → Nat → Nat → Nat → Int → Mem → Prop) (R : Ending → Mem → Prop) (l_0a : Option Addr) (l_0l : Nat) (l_0c : Nat) (x2b : Nat) (x2o : Nat) (s_3b : Nat) (s_3o : Nat) (i_4 : Int) (ρ : Env) (m : Mem) : l1B  K1 l_0a l_0l l_0c x2b x2o s_3b s_3o i_4 R m = acpt P od (panicR R) (l1A  K1 R) (thenQ (l1E K1) (l1Q  R)) (upd (upd (upd (upd ρ 4 (.int .i64 i_4)) 3 (.pointer (some ⟨s_3b, s_3o, none⟩))) 2 (.pointer (some ⟨x2b, x2o, none⟩))) 0 (.slice l_0a l_0l l_0c)) m := by kernel_rfl
theorem l1_er  (K1 : Option Addr → Nat → Nat → Nat → Nat → Nat → Nat → Int → Mem → Prop) (R : Ending → Mem → Prop) : (l1A  K1 R).erase = lP (bB (sR (sL (sR (sR (body)))))) := by kernel_rfl
theorem l1_ok  (R : Ending → Mem → Prop) (ρ : Env) (m : Mem) (h : (l1E fun l_0a l_0l l_0c x2b x2o s_3b s_3o i_4 m => l1  l_0a l_0l l_0c x2b x2o s_3b s_3o i_4 R m) ρ m) : cpt P od (panicR R) (.loop (lP (bB (sR (sL (sR (sR (body)))))))) (l1Q  R) ρ m := by
  unfold l1E at h
  obtain ⟨l_0a, l_0l, l_0c, e0, h⟩ := h.ex
  obtain ⟨x2b, x2o, e2, h⟩ := h.ex
  obtain ⟨s_3b, s_3o, e3, h⟩ := h.ex
  obtain ⟨i_4, e4, h⟩ := h.ex
  obtain ⟨I, N, h0, hs⟩ := h
  refine ⟨fun N => l1E (I N), N, (by show l1E (I N) ρ m; unfold l1E; rw [e0, e2, e3, e4]; exact h0), ?_⟩
  clear h0 e0 e2 e3 e4
  intro N ρ m h
  unfold l1E at h
  obtain ⟨l_0a, l_0l, l_0c, e0, h⟩ := h.ex
  obtain ⟨x2b, x2o, e2, h⟩ := h.ex
  obtain ⟨s_3b, s_3o, e3, h⟩ := h.ex
  obtain ⟨i_4, e4, h⟩ := h.ex
  refine cpt_mono (P := P) (lP (bB (sR (sL (sR (sR (body))))))) (Q := thenQ (l1E fun l_0a l_0l l_0c x2b x2o s_3b s_3o i_4 m => ∃ N1, N1 < N ∧ I N1 l_0a l_0l l_0c x2b x2o s_3b s_3o i_4 m) (l1Q  R)) (fun e ρ m h => ?_) ρ m ?_
  · cases e with
    | normal =>
      have h : l1E (fun l_0a l_0l l_0c x2b x2o s_3b s_3o i_4 m => ∃ N1, N1 < N ∧ I N1 l_0a l_0l l_0c x2b x2o s_3b s_3o i_4 m) ρ m := h
      unfold l1E at h
      obtain ⟨l_0a, l_0l, l_0c, e0, h⟩ := h.ex
      obtain ⟨x2b, x2o, e2, h⟩ := h.ex
      obtain ⟨s_3b, s_3o, e3, h⟩ := h.ex
      obtain ⟨i_4, e4, h⟩ := h.ex
      obtain ⟨N1, hlt, h⟩ := h
      exact ⟨N1, hlt, (by show l1E (I N1) ρ m; unfold l1E; rw [e0, e2, e3, e4]; exact h)⟩
    | _ => exact h
  have hh := hs N l_0a l_0l l_0c x2b x2o s_3b s_3o i_4 m h
  generalize (fun l_0a l_0l l_0c x2b x2o s_3b s_3o i_4 m => ∃ N1, N1 < N ∧ I N1 l_0a l_0l l_0c x2b x2o s_3b s_3o i_4 m : Option Addr → Nat → Nat → Nat → Nat → Nat → Nat → Int → Mem → Prop) = K1 at hh ⊢
  rw [← upd_self e0, ← upd_self e2, ← upd_self e3, ← upd_self e4]
  rw [← l1_er  K1 R]
  refine acpt_sound (P := P) (l1A  K1 R) _ _ _ True.intro ?_
  exact Eq.mp (l1_eq  K1 R l_0a l_0l l_0c x2b x2o s_3b s_3o i_4 ρ m) hh
theorem e0_eq (l_0a : Option Addr) (l_0l : Nat) (l_0c : Nat) (R : Ending → Mem → Prop) (m : Mem) : e0 l_0a l_0l l_0c R m = acpt P od (panicR R) (e0A R) (bodyQ P fn R) (argE (#[.slice l_0a l_0l l_0c] : Array Value).toList) m := by kernel_rfl
theorem ok (l_0a : Option Addr) (l_0l : Nat) (l_0c : Nat) (R : Ending → Mem → Prop) (m : Mem) (h : e0 l_0a l_0l l_0c R m) : HC P id #[.slice l_0a l_0l l_0c] m R := by
  refine HC_of (fn := fn) (c := body) (od := od) (tb := tb) Go.Proofs.Try.func27 (by kernel_rfl) (by kernel_rfl) follows (by kernel_rfl) (of_decide_eq_true (by kernel_rfl)) ?_
  have he : (e0A R).erase = body := by kernel_rfl
  rw [← he]
  refine acpt_sound (P := P) (e0A R) _ _ _ ⟨⟨⟨True.intro, ⟨(fun ρ m h => l1_ok  R ρ m h), True.intro⟩⟩, True.intro⟩, True.intro⟩ ?_
  exact Eq.mp (e0_eq l_0a l_0l l_0c R m) h
end eyotref8_Of
/-! ### eyot/eyotref8.Not -/
namespace eyotref8_Not
noncomputable def fn : Func := Go.Proofs.Try.f28
noncomputable def body : Code := fn.body.getD .skip
def od : Nat → Ord := fun _ => .done
def tb : Nat → Tab := fun _ => (0, [], [])
def l1E (K : Nat → Nat → Nat → Nat → Option Addr → Nat → Nat → Int → Mem → Prop) : Env → Mem → Prop := fun ρ m => UnPA (ρ 1) fun a_1b a_1o => UnPA (ρ 2) fun x2b x2o => UnS (ρ 3) fun l_3a l_3l l_3c => UnI (ρ 4) .i64 fun i_4 => K a_1b a_1o x2b x2o l_3a l_3l l_3c i_4 m
def l1B  (K1 : Nat → Nat → Nat → Nat → Option Addr → Nat → Nat → Int → Mem → Prop) (a_1b : Nat) (a_1o : Nat) (x2b : Nat) (x2o : Nat) (l_3a : Option Addr) (l_3l : Nat) (l_3c : Nat) (i_4 : Int) (R : Ending → Mem → Prop) (m : Mem) : Prop :=
 Br (decide (i_4 < 256)) (
  LdV m a_1b a_1o fun v =>
  UnI v .u64 fun x9_0 =>
  LdV m a_1b (a_1o + 1) fun v =>
  UnI v .u64 fun x9_1 =>
  LdV m a_1b (a_1o + 2) fun v =>
  UnI v .u64 fun x9_2 =>
  LdV m a_1b (a_1o + 3) fun v =>
  UnI v .u64 fun x9_3 =>
  HC P eyotref8_Has.id #[.agg #[.int .u64 x9_0, .int .u64 x9_1, .int .u64 x9_2, .int .u64 x9_3], .int .u8 (IntKind.u8.wrap i_4)] m (Cont (fun v m1 =>
    UnB v fun x12 =>
    Br (!x12) (
     NewC m1 #[.int .u8 (IntKind.u8.wrap i_4)] T_uint8 fun b17 m2 =>
     BiN P .append #[T_sl_uint8, T_sl_uint8] T_sl_uint8 #[false, false] #[.slice l_3a l_3l l_3c, .slice (some ⟨b17, 0, none⟩) 1 1] m2 (fun w m3 =>
      UnS w fun x18a x18l x18c =>
      K1 a_1b a_1o x2b x2o x18a x18l x18c (IntKind.i64.wrap (i_4 + 1)) m3) (panicR R)) (
     K1 a_1b a_1o x2b x2o l_3a l_3l l_3c (IntKind.i64.wrap (i_4 + 1)) m1)) (panicR R))) (
  HC P eyotref8_Of.id #[.slice l_3a l_3l l_3c] m (Cont (fun v m1 =>
    UnAgg v fun l =>
    UnCons l fun v l =>
    UnI v .u64 fun x20_0 =>
    UnCons l fun v l =>
    UnI v .u64 fun x20_1 =>
    UnCons l fun v l =>
    UnI v .u64 fun x20_2 =>
    UnCons l fun v l =>
    UnI v .u64 fun x20_3 =>
    UnNil l (
     St1 m1 x2b x2o (.int .u64 x20_0) fun m2 =>
     St1 m2 x2b (x2o + 1) (.int .u64 x20_1) fun m3 =>
     St1 m3 x2b (x2o + 2) (.int .u64 x20_2) fun m4 =>
     St1 m4 x2b (x2o + 3) (.int .u64 x20_3) fun m5 =>
     LdV m5 x2b x2o fun v =>
     UnI v .u64 fun res0_0 =>
     LdV m5 x2b (x2o + 1) fun v =>
     UnI v .u64 fun res0_1 =>
     LdV m5 x2b (x2o + 2) fun v =>
     UnI v .u64 fun res0_2 =>
     LdV m5 x2b (x2o + 3) fun v =>
     UnI v .u64 fun res0_3 =>
     R (.returned (.agg #[.int .u64 res0_0, .int .u64 res0_1, .int .u64 res0_2, .int .u64 res0_3])) m5)) (panicR R)))
def l1  (a_1b : Nat) (a_1o : Nat) (x2b : Nat) (x2o : Nat) (l_3a : Option Addr) (l_3l : Nat) (l_3c : Nat) (i_4 : Int) (R : Ending → Mem → Prop) (m : Mem) : Prop :=
  ∃ (I : Nat → Nat → Nat → Nat → Nat → Option Addr → Nat → Nat → Int → Mem → Prop) (N : Nat), I N a_1b a_1o x2b x2o l_3a l_3l l_3c i_4 m ∧ ∀ N a_1b a_1o x2b x2o l_3a l_3l l_3c i_4 m, I N a_1b a_1o x2b x2o l_3a l_3l l_3c i_4 m → l1B  (fun a_1b a_1o x2b x2o l_3a l_3l l_3c i_4 m => ∃ N1, N1 < N ∧ I N1 a_1b a_1o x2b x2o l_3a l_3l l_3c i_4 m) a_1b a_1o x2b x2o l_3a l_3l l_3c i_4 R m
noncomputable def l1A  (K1 : Nat → Nat → Nat → Nat → Option Addr → Nat → Nat → Int → Mem → Prop) (R : Ending → Mem → Prop) : ACode := (.code (lP (bB (sR (sL (sR (sR (body))))))))
def e0 (a_0_0 : Int) (a_0_1 : Int) (a_0_2 : Int) (a_0_3 : Int) (R : Ending → Mem → Prop) (m : Mem) : Prop :=
 NewC m #[.int .u64 a_0_0, .int .u64 a_0_1, .int .u64 a_0_2, .int .u64 a_0_3] T_api_Set fun b_a_1 m1 =>
 NewC m1 #[.int .u64 0, .int .u64 0, .int .u64 0, .int .u64 0] T_api_Set fun b2 m2 =>
 l1  b_a_1 0 b2 0 none 0 0 0 R m2
noncomputable def e0A (R : Ending → Mem → Prop) : ACode := (.seq (.code (sL (body))) (.seq (.code (sL (sR (body)))) (.seq (.seq (.code (sL (sL (sR (sR (body)))))) (.block 0 (.cut (l1E fun a_1b a_1o x2b x2o l_3a l_3l l_3c i_4 m => l1  a_1b a_1o x2b x2o l_3a l_3l l_3c i_4 R m) (.loop (lP (bB (sR (sL (sR (sR (body))))))))))) (.code (sR (sR (sR (body))))))))
abbrev l1Q  (R : Ending → Mem → Prop) : Exit → Env → Mem → Prop := (blockQ 0 (thenQ (acpt P od (panicR R) (.code (sR (sR (sR (body))))) (bodyQ P fn R)) (bodyQ P fn R)))
theorem l1_eq  (K1 : Nat → Nat → Nat → Nat → Option Addr → Nat → Nat → Int → Mem → Prop) (R : Ending → Mem → Prop) (a_1b : Nat) (a_1o : Nat) (x2b : Nat) (x2o : Nat) (l_3a : Option Addr) (l_3l : Nat) (l_3c : Nat) (i_4 : Int) (ρ : Env) (m : Mem) : l1B  K1 a_1b a_1o x2b x2o l_3a l_3l l_3c i_4 R m = acpt P od (panicR R) (l1A  K1 R) (thenQ (l1E K1) (l1Q  R)) (upd (upd (upd (upd ρ 4 (.int .i64 i_4)) 3 (.slice l_3a l_3l l_3c)) 2 (.pointer (some ⟨x2b, x2o, none⟩))) 1 (.pointer (some ⟨a_1b, a_1o, none⟩))) m := by kernel_rfl
theorem l1_er  (K1 : Nat → Nat → Nat → Nat → Option Addr → Nat → Nat → Int → Mem → Prop) (R : Ending → Mem → Prop) : (l1A  K1 R).erase = lP (bB (sR (sL (sR (sR (body)))))) := by kernel_rfl
theorem l1_ok  (R : Ending → Mem → Prop) (ρ : Env) (m : Mem) (h : (l1E fun a_1b a_1o x2b x2o l_3a l_3l l_3c i_4 m => l1  a_1b a_1o x2b x2o l_3a l_3l l_3c i_4 R m) ρ m) : cpt P od (panicR R) (.loop (lP (bB (sR (sL (sR (sR (body)))))))) (l1Q  R) ρ m := by
  unfold l1E at h
  obtain ⟨a_1b, a_1o, e1, h⟩ := h.ex
  obtain ⟨x2b, x2o, e2, h⟩ := h.ex
  obtain ⟨l_3a, l_3l, l_3c, e3, h⟩ := h.ex
  obtain ⟨i_4, e4, h⟩ := h.ex
  obtain ⟨I, N, h0, hs⟩ := h
  refine ⟨fun N => l1E (I N), N, (by show l1E (I N) ρ m; unfold l1E; rw [e1, e2, e3, e4]; exact h0), ?_⟩
  clear h0 e1 e2 e3 e4
  intro N ρ m h
  unfold l1E at h
  obtain ⟨a_1b, a_1o, e1, h⟩ := h.ex
  obtain ⟨x2b, x2o, e2, h⟩ := h.ex
  obtain ⟨l_3a, l_3l, l_3c, e3, h⟩ := h.ex
  obtain ⟨i_4, e4, h⟩ := h.ex
  refine cpt_mono (P := P) (lP (bB (sR (sL (sR (sR (body))))))) (Q := thenQ (l1E fun a_1b a_1o x2b x2o l_3a l_3l l_3c i_4 m => ∃ N1, N1 < N ∧ I N1 a_1b a_1o x2b x2o l_3a l_3l l_3c i_4 m) (l1Q  R)) (fun e ρ m h => ?_) ρ m ?_
  · cases e with
    | normal =>
      have h : l1E (fun a_1b a_1o x2b x2o l_3a l_3l l_3c i_4 m => ∃ N1, N1 < N ∧ I N1 a_1b a_1o x2b x2o l_3a l_3l l_3c i_4 m) ρ m := h
      unfold l1E at h
      obtain ⟨a_1b, a_1o, e1, h⟩ := h.ex
      obtain ⟨x2b, x2o, e2, h⟩ := h.ex
      obtain ⟨l_3a, l_3l, l_3c, e3, h⟩ := h.ex
      obtain ⟨i_4, e4, h⟩ := h.ex
      obtain ⟨N1, hlt, h⟩ := h
      exact ⟨N1, hlt, (by show l1E (I N1) ρ m; unfold l1E; rw [e1, e2, e3, e4]; exact h)⟩
    | _ => exact h
  have hh := hs N a_1b a_1o x2b x2o l_3a l_3l l_3c i_4 m h
  generalize (fun a_1b a_1o x2b x2o l_3a l_3l l_3c i_4 m => ∃ N1, N1 < N ∧ I N1 a_1b a_1o x2b x2o l_3a l_3l l_3c i_4 m : Nat → Nat → Nat → Nat → Option Addr → Nat → Nat → Int → Mem → Prop) = K1 at hh ⊢
  rw [← upd_self e1, ← upd_self e2, ← upd_self e3, ← upd_self e4]
  rw [← l1_er  K1 R]
  refine acpt_sound (P := P) (l1A  K1 R) _ _ _ True.intro ?_
  exact Eq.mp (l1_eq  K1 R a_1b a_1o x2b x2o l_3a l_3l l_3c i_4 ρ m) hh
theorem e0_eq (a_0_0 : Int) (a_0_1 : Int) (a_0_2 : Int) (a_0_3 : Int) (R : Ending → Mem → Prop) (m : Mem) : e0 a_0_0 a_0_1 a_0_2 a_0_3 R m = acpt P od (panicR R) (e0A R) (bodyQ P fn R) (argE (#[.agg #[.int .u64 a_0_0, .int .u64 a_0_1, .int .u64 a_0_2, .int .u64 a_0_3]] : Array Value).toList) m := by kernel_rfl
theorem ok (a_0_0 : Int) (a_0_1 : Int) (a_0_2 : Int) (a_0_3 : Int) (R : Ending → Mem → Prop) (m : Mem) (h : e0 a_0_0 a_0_1 a_0_2 a_0_3 R m) : HC P id #[.agg #[.int .u64 a_0_0, .int .u64 a_0_1, .int .u64 a_0_2, .int .u64 a_0_3]] m R := by
  refine HC_of (fn := fn) (c := body) (od := od) (tb := tb) Go.Proofs.Try.func28 (by kernel_rfl) (by kernel_rfl) follows (by kernel_rfl) (of_decide_eq_true (by kernel_rfl)) ?_
  have he : (e0A R).erase = body := by kernel_rfl
  rw [← he]
  refine acpt_sound (P := P) (e0A R) _ _ _ ⟨⟨⟨True.intro, ⟨(fun ρ m h => l1_ok  R ρ m h), True.intro⟩⟩, True.intro⟩, True.intro⟩ ?_
  exact Eq.mp (e0_eq a_0_0 a_0_1 a_0_2 a_0_3 R m) h
end eyotref8_Not
/-! ### eyot/regex.formed -/
namespace regex_formed
noncomputable def fn : Func := Go.Proofs.Try.f29
noncomputable def body : Code := fn.body.getD .skip
def od : Nat → Ord := fun _ => .done
def tb : Nat → Tab := fun _ => (0, [], [])
def l3E (K : Nat → Nat → Option Addr → Nat → Nat → Int → Int → Mem → Prop) : Env → Mem → Prop := fun ρ m => UnPA (ρ 1) fun r_1b r_1o => UnS (ρ 52) fun x52a x52l x52c => UnI (ρ 53) .i64 fun x53 => UnI (ρ 54) .i64 fun x54 => K r_1b r_1o x52a x52l x52c x53 x54 m
def l3B  (K3 : Nat → Nat → Option Addr → Nat → Nat → Int → Int → Mem → Prop) (r_1b : Nat) (r_1o : Nat) (x52a : Option Addr) (x52l : Nat) (x52c : Nat) (x53 : Int) (x54 : Int) (R : Ending → Mem → Prop) (m : Mem) : Prop :=
 Br (decide (x54 < x53)) (
  IxS x52a x52l x54 6 fun x56b x56o =>
  LdV m x56b x56o fun v =>
  UnI v .i64 fun x57_0 =>
  LdV m x56b (x56o + 1) fun v =>
  UnI v .u64 fun x57_1 =>
  LdV m x56b (x56o + 2) fun v =>
  UnI v .u64 fun x57_2 =>
  LdV m x56b (x56o + 3) fun v =>
  UnI v .u64 fun x57_3 =>
  LdV m x56b (x56o + 4) fun v =>
  UnI v .u64 fun x57_4 =>
  LdV m x56b (x56o + 5) fun v =>
  UnS v fun x57_5a x57_5l x57_5c =>
  NewC m #[.int .i64 0, .int .u64 0, .int .u64 0, .int .u64 0, .int .u64 0, .slice none 0 0] T_api_Rx fun b_x_4 m1 =>
  St1 m1 b_x_4 0 (.int .i64 x57_0) fun m2 =>
  St1 m2 b_x_4 1 (.int .u64 x57_1) fun m3 =>
  St1 m3 b_x_4 2 (.int .u64 x57_2) fun m4 =>
  St1 m4 b_x_4 3 (.int .u64 x57_3) fun m5 =>
  St1 m5 b_x_4 4 (.int .u64 x57_4) fun m6 =>
  St1 m6 b_x_4 5 (.slice x57_5a x57_5l x57_5c) fun m7 =>
  LdV m7 b_x_4 0 fun v =>
  UnI v .i64 fun x59 =>
  LdV m7 r_1b r_1o fun v =>
  UnI v .i64 fun x61 =>
  Br (x59 == x61) (
   R (.returned (.bool false)) m7) (
   LdV m7 b_x_4 0 fun v =>
   UnI v .i64 fun x64_0 =>
   LdV m7 b_x_4 1 fun v =>
   UnI v .u64 fun x64_1 =>
   LdV m7 b_x_4 2 fun v =>
   UnI v .u64 fun x64_2 =>
   LdV m7 b_x_4 3 fun v =>
   UnI v .u64 fun x64_3 =>
   LdV m7 b_x_4 4 fun v =>
   UnI v .u64 fun x64_4 =>
   LdV m7 b_x_4 5 fun v =>
   UnS v fun x64_5a x64_5l x64_5c =>
   HC P regex_formed.id #[.agg #[.int .i64 x64_0, .int .u64 x64_1, .int .u64 x64_2, .int .u64 x64_3, .int .u64 x64_4, .slice x64_5a x64_5l x64_5c]] m7 (Cont (fun v m8 =>
     UnB v fun x65 =>
     Br (!x65) (
      R (.returned (.bool false)) m8) (
      K3 r_1b r_1o x52a x52l x52c x53 (IntKind.i64.wrap (x54 + 1)) m8)) (panicR R)))) (
  R (.returned (.bool true)) m)
def l3  (r_1b : Nat) (r_1o : Nat) (x52a : Option Addr) (x52l : Nat) (x52c : Nat) (x53 : Int) (x54 : Int) (R : Ending → Mem → Prop) (m : Mem) : Prop :=
  ∃ (I : Nat → Nat → Nat → Option Addr → Nat → Nat → Int → Int → Mem → Prop) (N : Nat), I N r_1b r_1o x52a x52l x52c x53 x54 m ∧ ∀ N r_1b r_1o x52a x52l x52c x53 x54 m, I N r_1b r_1o x52a x52l x52c x53 x54 m → l3B  (fun r_1b r_1o x52a x52l x52c x53 x54 m => ∃ N1, N1 < N ∧ I N1 r_1b r_1o x52a x52l x52c x53 x54 m) r_1b r_1o x52a x52l x52c x53 x54 R m
noncomputable def l3A  (K3 : Nat → Nat → Option Addr → Nat → Nat → Int → Int → Mem → Prop) (R : Ending → Mem → Prop) : ACode := (.code (lP (bB (sR (sL (sR (sR (body))))))))
def k2E (K : Nat → Nat → Mem → Prop) : Env → Mem → Prop := fun ρ m => UnPA (ρ 1) fun r_1b r_1o => K r_1b r_1o m
def k2  (r_1b : Nat) (r_1o : Nat) (R : Ending → Mem → Prop) (m : Mem) : Prop :=
 LdV m r_1b (r_1o + 5) fun v =>
 UnS v fun x52a x52l x52c =>
 l3  r_1b r_1o x52a x52l x52c ((x52l : Nat) : Int) 0 R m
noncomputable def k2A  (R : Ending → Mem → Prop) : ACode := (.seq (.seq (.code (sL (sL (sR (sR (body)))))) (.block 1 (.cut (l3E fun r_1b r_1o x52a x52l x52c x53 x54 m => l3  r_1b r_1o x52a x52l x52c x53 x54 R m) (.loop (lP (bB (sR (sL (sR (sR (body))))))))))) (.code (sR (sR (sR (body))))))
def k1E (K : Nat → Nat → Bool → Mem → Prop) : Env → Mem → Prop := fun ρ m => UnPA (ρ 1) fun r_1b r_1o => UnB (ρ 24) fun x24 => K r_1b r_1o x24 m
def k1  (r_1b : Nat) (r_1o : Nat) (x24 : Bool) (R : Ending → Mem → Prop) (m : Mem) : Prop :=
 Br x24 (
  LdV m r_1b (r_1o + 5) fun v =>
  UnS v fun x32a x32l x32c =>
  Br (decide (((x32l : Nat) : Int) < 2)) (
   R (.returned (.bool false)) m) (
   k2  r_1b r_1o R m)) (
  LdV m r_1b r_1o fun v =>
  UnI v .i64 fun x37 =>
  HC P regex_sign.id #[.int .i64 x37] m (Cont (fun v m1 =>
    UnB v fun x38 =>
    Br x38 (
     LdV m1 r_1b (r_1o + 5) fun v =>
     UnS v fun x40a x40l x40c =>
     Br (((x40l : Nat) : Int) != 1) (
      R (.returned (.bool false)) m1) (
      LdV m1 r_1b (r_1o + 5) fun v =>
      UnS v fun x45a x45l x45c =>
      IxS x45a x45l 0 6 fun x46b x46o =>
      LdV m1 x46b x46o fun v =>
      UnI v .i64 fun x48 =>
      HC P regex_sign.id #[.int .i64 x48] m1 (Cont (fun v m2 =>
        UnB v fun x49 =>
        Br x49 (
        R (.returned (.bool false)) m2) (
        k2  r_1b r_1o R m2)) (panicR R)))) (
     R (.returned (.bool false)) m1)) (panicR R)))
noncomputable def k1A  (R : Ending → Mem → Prop) : ACode := (.code (sR (cE (sR (cE (sR (bB (sL (sR (body))))))))))
def e0 (r_0_0 : Int) (r_0_1 : Int) (r_0_2 : Int) (r_0_3 : Int) (r_0_4 : Int) (r_0_5a : Option Addr) (r_0_5l : Nat) (r_0_5c : Nat) (R : Ending → Mem → Prop) (m : Mem) : Prop :=
 NewC m #[.int .i64 r_0_0, .int .u64 r_0_1, .int .u64 r_0_2, .int .u64 r_0_3, .int .u64 r_0_4, .slice r_0_5a r_0_5l r_0_5c] T_api_Rx fun b_r_1 m1 =>
 LdV m1 b_r_1 0 fun v =>
 UnI v .i64 fun x7 =>
 Br (x7 == 1) (
  LdV m1 b_r_1 5 fun v =>
  UnS v fun x10a x10l x10c =>
  Br (((x10l : Nat) : Int) == 0) (
   LdV m1 b_r_1 1 fun v =>
   UnI v .u64 fun x15_0 =>
   LdV m1 b_r_1 2 fun v =>
   UnI v .u64 fun x15_1 =>
   LdV m1 b_r_1 3 fun v =>
   UnI v .u64 fun x15_2 =>
   LdV m1 b_r_1 4 fun v =>
   UnI v .u64 fun x15_3 =>
   R (.returned (.bool (!(eqL [.int .u64 x15_0, .int .u64 x15_1, .int .u64 x15_2, .int .u64 x15_3] [.int .u64 0, .int .u64 0, .int .u64 0, .int .u64 0])))) m1) (
   R (.returned (.bool false)) m1)) (
  LdV m1 b_r_1 1 fun v =>
  UnI v .u64 fun x21_0 =>
  LdV m1 b_r_1 2 fun v =>
  UnI v .u64 fun x21_1 =>
  LdV m1 b_r_1 3 fun v =>
  UnI v .u64 fun x21_2 =>
  LdV m1 b_r_1 4 fun v =>
  UnI v .u64 fun x21_3 =>
  Br (!(eqL [.int .u64 x21_0, .int .u64 x21_1, .int .u64 x21_2, .int .u64 x21_3] [.int .u64 0, .int .u64 0, .int .u64 0, .int .u64 0])) (
   R (.returned (.bool false)) m1) (
   LdV m1 b_r_1 0 fun v =>
   UnI v .i64 fun x26 =>
   Br (x26 == 2) (
    k1  b_r_1 0 true R m1) (
    LdV m1 b_r_1 0 fun v =>
    UnI v .i64 fun x29 =>
    k1  b_r_1 0 (x29 == 3) R m1)))
noncomputable def e0A (R : Ending → Mem → Prop) : ACode := (.seq (.code (sL (body))) (.seq (.block 0 (.seq (.code (sL (bB (sL (sR (body)))))) (.cond (.tmp 5) (.code (cT (sR (bB (sL (sR (body))))))) (.seq (.code (sL (cE (sR (bB (sL (sR (body)))))))) (.cond (.tmp 19) (.code (cT (sR (cE (sR (bB (sL (sR (body))))))))) (.seq (.code (sL (cE (sR (cE (sR (bB (sL (sR (body)))))))))) (.cut (k1E fun r_1b r_1o x24 m => k1  r_1b r_1o x24 R m) (sR (cE (sR (cE (sR (bB (sL (sR (body)))))))))))))))) (.cut (k2E fun r_1b r_1o m => k2  r_1b r_1o R m) (sR (sR (body))))))
abbrev k2Q  (R : Ending → Mem → Prop) : Exit → Env → Mem → Prop := (bodyQ P fn R)
abbrev l3Q  (R : Ending → Mem → Prop) : Exit → Env → Mem → Prop := (blockQ 1 (thenQ (acpt P od (panicR R) (.code (sR (sR (sR (body))))) (k2Q  R)) (k2Q  R)))
abbrev k1Q  (R : Ending → Mem → Prop) : Exit → Env → Mem → Prop := (blockQ 0 (thenQ (acpt P od (panicR R) (.cut (k2E fun r_1b r_1o m => k2  r_1b r_1o R m) (sR (sR (body)))) (bodyQ P fn R)) (bodyQ P fn R)))
theorem l3_eq  (K3 : Nat → Nat → Option Addr → Nat → Nat → Int → Int → Mem → Prop) (R : Ending → Mem → Prop) (r_1b : Nat) (r_1o : Nat) (x52a : Option Addr) (x52l : Nat) (x52c : Nat) (x53 : Int) (x54 : Int) (ρ : Env) (m : Mem) : l3B  K3 r_1b r_1o x52a x52l x52c x53 x54 R m = acpt P od (panicR R) (l3A  K3 R) (thenQ (l3E K3) (l3Q  R)) (upd (upd (upd (upd ρ 54 (.int .i64 x54)) 53 (.int .i64 x53)) 52 (.slice x52a x52l x52c)) 1 (.pointer (some ⟨r_1b, r_1o, none⟩))) m := by kernel_rfl
theorem l3_er  (K3 : Nat → Nat → Option Addr → Nat → Nat → Int → Int → Mem → Prop) (R : Ending → Mem → Prop) : (l3A  K3 R).erase = lP (bB (sR (sL (sR (sR (body)))))) := by kernel_rfl
theorem l3_ok  (R : Ending → Mem → Prop) (ρ : Env) (m : Mem) (h : (l3E fun r_1b r_1o x52a x52l x52c x53 x54 m => l3  r_1b r_1o x52a x52l x52c x53 x54 R m) ρ m) : cpt P od (panicR R) (.loop (lP (bB (sR (sL (sR (sR (body)))))))) (l3Q  R) ρ m := by
  unfold l3E at h
  obtain ⟨r_1b, r_1o, e1, h⟩ := h.ex
  obtain ⟨x52a, x52l, x52c, e52, h⟩ := h.ex
  obtain ⟨x53, e53, h⟩ := h.ex
  obtain ⟨x54, e54, h⟩ := h.ex
  obtain ⟨I, N, h0, hs⟩ := h
  refine ⟨fun N => l3E (I N), N, (by show l3E (I N) ρ m; unfold l3E; rw [e1, e52, e53, e54]; exact h0), ?_⟩
  clear h0 e1 e52 e53 e54
  intro N ρ m h
  unfold l3E at h
  obtain ⟨r_1b, r_1o, e1, h⟩ := h.ex
  obtain ⟨x52a, x52l, x52c, e52, h⟩ := h.ex
  obtain ⟨x53, e53, h⟩ := h.ex
  obtain ⟨x54, e54, h⟩ := h.ex
  refine cpt_mono (P := P) (lP (bB (sR (sL (sR (sR (body))))))) (Q := thenQ (l3E fun r_1b r_1o x52a x52l x52c x53 x54 m => ∃ N1, N1 < N ∧ I N1 r_1b r_1o x52a x52l x52c x53 x54 m) (l3Q  R)) (fun e ρ m h => ?_) ρ m ?_
  · cases e with
    | normal =>
      have h : l3E (fun r_1b r_1o x52a x52l x52c x53 x54 m => ∃ N1, N1 < N ∧ I N1 r_1b r_1o x52a x52l x52c x53 x54 m) ρ m := h
      unfold l3E at h
      obtain ⟨r_1b, r_1o, e1, h⟩ := h.ex
      obtain ⟨x52a, x52l, x52c, e52, h⟩ := h.ex
      obtain ⟨x53, e53, h⟩ := h.ex
      obtain ⟨x54, e54, h⟩ := h.ex
      obtain ⟨N1, hlt, h⟩ := h
      exact ⟨N1, hlt, (by show l3E (I N1) ρ m; unfold l3E; rw [e1, e52, e53, e54]; exact h)⟩
    | _ => exact h
  have hh := hs N r_1b r_1o x52a x52l x52c x53 x54 m h
  generalize (fun r_1b r_1o x52a x52l x52c x53 x54 m => ∃ N1, N1 < N ∧ I N1 r_1b r_1o x52a x52l x52c x53 x54 m : Nat → Nat → Option Addr → Nat → Nat → Int → Int → Mem → Prop) = K3 at hh ⊢
  rw [← upd_self e1, ← upd_self e52, ← upd_self e53, ← upd_self e54]
  rw [← l3_er  K3 R]
  refine acpt_sound (P := P) (l3A  K3 R) _ _ _ True.intro ?_
  exact Eq.mp (l3_eq  K3 R r_1b r_1o x52a x52l x52c x53 x54 ρ m) hh
theorem k2_eq  (R : Ending → Mem → Prop) (r_1b : Nat) (r_1o : Nat) (ρ : Env) (m : Mem) : k2  r_1b r_1o R m = acpt P od (panicR R) (k2A  R) (k2Q  R) (upd ρ 1 (.pointer (some ⟨r_1b, r_1o, none⟩))) m := by kernel_rfl
theorem k2_er  (R : Ending → Mem → Prop) : (k2A  R).erase = sR (sR (body)) := by kernel_rfl
theorem k2_ok  (R : Ending → Mem → Prop) (ρ : Env) (m : Mem) (h : (k2E fun r_1b r_1o m => k2  r_1b r_1o R m) ρ m) : cpt P od (panicR R) (sR (sR (body))) (k2Q  R) ρ m := by
  unfold k2E at h
  obtain ⟨r_1b, r_1o, e1, h⟩ := h.ex
  rw [← upd_self e1]
  rw [← k2_er  R]
  refine acpt_sound (P := P) (k2A  R) _ _ _ ⟨True.intro, ⟨(fun ρ m h => l3_ok  R ρ m h), True.intro⟩⟩ ?_
  exact Eq.mp (k2_eq  R r_1b r_1o ρ m) h
theorem k1_eq  (R : Ending → Mem → Prop) (r_1b : Nat) (r_1o : Nat) (x24 : Bool) (ρ : Env) (m : Mem) : k1  r_1b r_1o x24 R m = acpt P od (panicR R) (k1A  R) (k1Q  R) (upd (upd ρ 24 (.bool x24)) 1 (.pointer (some ⟨r_1b, r_1o, none⟩))) m := by kernel_rfl
theorem k1_er  (R : Ending → Mem → Prop) : (k1A  R).erase = sR (cE (sR (cE (sR (bB (sL (sR (body)))))))) := by kernel_rfl
theorem k1_ok  (R : Ending → Mem → Prop) (ρ : Env) (m : Mem) (h : (k1E fun r_1b r_1o x24 m => k1  r_1b r_1o x24 R m) ρ m) : cpt P od (panicR R) (sR (cE (sR (cE (sR (bB (sL (sR (body))))))))) (k1Q  R) ρ m := by
  unfold k1E at h
  obtain ⟨r_1b, r_1o, e1, h⟩ := h.ex
  obtain ⟨x24, e24, h⟩ := h.ex
  rw [← upd_self e1, ← upd_self e24]
  rw [← k1_er  R]
  refine acpt_sound (P := P) (k1A  R) _ _ _ True.intro ?_
  exact Eq.mp (k1_eq  R r_1b r_1o x24 ρ m) h
theorem e0_eq (r_0_0 : Int) (r_0_1 : Int) (r_0_2 : Int) (r_0_3 : Int) (r_0_4 : Int) (r_0_5a : Option Addr) (r_0_5l : Nat) (r_0_5c : Nat) (R : Ending → Mem → Prop) (m : Mem) : e0 r_0_0 r_0_1 r_0_2 r_0_3 r_0_4 r_0_5a r_0_5l r_0_5c R m = acpt P od (panicR R) (e0A R) (bodyQ P fn R) (argE (#[.agg #[.int .i64 r_0_0, .int .u64 r_0_1, .int .u64 r_0_2, .int .u64 r_0_3, .int .u64 r_0_4, .slice r_0_5a r_0_5l r_0_5c]] : Array Value).toList) m := by kernel_rfl
theorem ok (r_0_0 : Int) (r_0_1 : Int) (r_0_2 : Int) (r_0_3 : Int) (r_0_4 : Int) (r_0_5a : Option Addr) (r_0_5l : Nat) (r_0_5c : Nat) (R : Ending → Mem → Prop) (m : Mem) (h : e0 r_0_0 r_0_1 r_0_2 r_0_3 r_0_4 r_0_5a r_0_5l r_0_5c R m) : HC P id #[.agg #[.int .i64 r_0_0, .int .u64 r_0_1, .int .u64 r_0_2, .int .u64 r_0_3, .int .u64 r_0_4, .slice r_0_5a r_0_5l r_0_5c]] m R := by
  refine HC_of (fn := fn) (c := body) (od := od) (tb := tb) Go.Proofs.Try.func29 (by kernel_rfl) (by kernel_rfl) follows (by kernel_rfl) (of_decide_eq_true (by kernel_rfl)) ?_
  have he : (e0A R).erase = body := by kernel_rfl
  rw [← he]
  refine acpt_sound (P := P) (e0A R) _ _ _ ⟨⟨(fun ρ m h => k2_ok  R ρ m h), ⟨⟨True.intro, ⟨⟨True.intro, ⟨(fun ρ m h => k1_ok  R ρ m h), True.intro⟩⟩, True.intro⟩⟩, True.intro⟩⟩, True.intro⟩ ?_
  exact Eq.mp (e0_eq r_0_0 r_0_1 r_0_2 r_0_3 r_0_4 r_0_5a r_0_5l r_0_5c R m) h
end regex_formed
/-! ### eyot/regex.size -/
namespace regex_size
noncomputable def fn : Func := Go.Proofs.Try.f30
noncomputable def body : Code := fn.body.getD .skip
def od : Nat → Ord := fun _ => .done
def tb : Nat → Tab := fun _ => (0, [], [])
def k2E (K : Int → Int → Mem → Prop) : Env → Mem → Prop := fun ρ m => UnI (ρ 2) .i64 fun nodes_2 => UnI (ρ 3) .i64 fun deep_3 => K nodes_2 deep_3 m
def k2  (nodes_2 : Int) (deep_3 : Int) (R : Ending → Mem → Prop) (m : Mem) : Prop :=
 R (.returned (.tuple #[.int .i64 (IntKind.i64.wrap (nodes_2 + 1)), .int .i64 (IntKind.i64.wrap (deep_3 + 1))])) m
noncomputable def k2A  (R : Ending → Mem → Prop) : ACode := (.code (sR (sR (body))))
def l1E (K : Int → Int → Option Addr → Nat → Nat → Int → Int → Mem → Prop) : Env → Mem → Prop := fun ρ m => UnI (ρ 2) .i64 fun nodes_2 => UnI (ρ 3) .i64 fun deep_3 => UnS (ρ 9) fun x9a x9l x9c => UnI (ρ 10) .i64 fun x10 => UnI (ρ 11) .i64 fun x11 => K nodes_2 deep_3 x9a x9l x9c x10 x11 m
def l1B  (K1 : Int → Int → Option Addr → Nat → Nat → Int → Int → Mem → Prop) (nodes_2 : Int) (deep_3 : Int) (x9a : Option Addr) (x9l : Nat) (x9c : Nat) (x10 : Int) (x11 : Int) (R : Ending → Mem → Prop) (m : Mem) : Prop :=
 Br (decide (x11 < x10)) (
  IxS x9a x9l x11 6 fun x13b x13o =>
  LdV m x13b x13o fun v =>
  UnI v .i64 fun x14_0 =>
  LdV m x13b (x13o + 1) fun v =>
  UnI v .u64 fun x14_1 =>
  LdV m x13b (x13o + 2) fun v =>
  UnI v .u64 fun x14_2 =>
  LdV m x13b (x13o + 3) fun v =>
  UnI v .u64 fun x14_3 =>
  LdV m x13b (x13o + 4) fun v =>
  UnI v .u64 fun x14_4 =>
  LdV m x13b (x13o + 5) fun v =>
  UnS v fun x14_5a x14_5l x14_5c =>
  NewC m #[.int .i64 0, .int .u64 0, .int .u64 0, .int .u64 0, .int .u64 0, .slice none 0 0] T_api_Rx fun b_x_5 m1 =>
  St1 m1 b_x_5 0 (.int .i64 x14_0) fun m2 =>
  St1 m2 b_x_5 1 (.int .u64 x14_1) fun m3 =>
  St1 m3 b_x_5 2 (.int .u64 x14_2) fun m4 =>
  St1 m4 b_x_5 3 (.int .u64 x14_3) fun m5 =>
  St1 m5 b_x_5 4 (.int .u64 x14_4) fun m6 =>
  St1 m6 b_x_5 5 (.slice x14_5a x14_5l x14_5c) fun m7 =>
  LdV m7 b_x_5 0 fun v =>
  UnI v .i64 fun x16_0 =>
  LdV m7 b_x_5 1 fun v =>
  UnI v .u64 fun x16_1 =>
  LdV m7 b_x_5 2 fun v =>
  UnI v .u64 fun x16_2 =>
  LdV m7 b_x_5 3 fun v =>
  UnI v .u64 fun x16_3 =>
  LdV m7 b_x_5 4 fun v =>
  UnI v .u64 fun x16_4 =>
  LdV m7 b_x_5 5 fun v =>
  UnS v fun x16_5a x16_5l x16_5c =>
  HC P regex_size.id #[.agg #[.int .i64 x16_0, .int .u64 x16_1, .int .u64 x16_2, .int .u64 x16_3, .int .u64 x16_4, .slice x16_5a x16_5l x16_5c]] m7 (Cont (fun v m8 =>
    UnTup v fun us0 =>
    UnCons us0 fun w us1 =>
    UnI w .i64 fun x17_0 =>
    UnCons us1 fun w us2 =>
    UnI w .i64 fun x17_1 =>
    UnNil us2 (
     K1 (IntKind.i64.wrap (nodes_2 + x17_0)) (if x17_1 > deep_3 then x17_1 else deep_3) x9a x9l x9c x10 (IntKind.i64.wrap (x11 + 1)) m8)) (panicR R))) (
  k2  nodes_2 deep_3 R m)
def l1  (nodes_2 : Int) (deep_3 : Int) (x9a : Option Addr) (x9l : Nat) (x9c : Nat) (x10 : Int) (x11 : Int) (R : Ending → Mem → Prop) (m : Mem) : Prop :=
  ∃ (I : Nat → Int → Int → Option Addr → Nat → Nat → Int → Int → Mem → Prop) (N : Nat), I N nodes_2 deep_3 x9a x9l x9c x10 x11 m ∧ ∀ N nodes_2 deep_3 x9a x9l x9c x10 x11 m, I N nodes_2 deep_3 x9a x9l x9c x10 x11 m → l1B  (fun nodes_2 deep_3 x9a x9l x9c x10 x11 m => ∃ N1, N1 < N ∧ I N1 nodes_2 deep_3 x9a x9l x9c x10 x11 m) nodes_2 deep_3 x9a x9l x9c x10 x11 R m
noncomputable def l1A  (K1 : Int → Int → Option Addr → Nat → Nat → Int → Int → Mem → Prop) (R : Ending → Mem → Prop) : ACode := (.code (lP (bB (sR (sL (sR (body)))))))
def e0 (r_0_0 : Int) (r_0_1 : Int) (r_0_2 : Int) (r_0_3 : Int) (r_0_4 : Int) (r_0_5a : Option Addr) (r_0_5l : Nat) (r_0_5c : Nat) (R : Ending → Mem → Prop) (m : Mem) : Prop :=
 NewC m #[.int .i64 r_0_0, .int .u64 r_0_1, .int .u64 r_0_2, .int .u64 r_0_3, .int .u64 r_0_4, .slice r_0_5a r_0_5l r_0_5c] T_api_Rx fun b_r_1 m1 =>
 LdV m1 b_r_1 5 fun v =>
 UnS v fun x9a x9l x9c =>
 l1  0 0 x9a x9l x9c ((x9l : Nat) : Int) 0 R m1
noncomputable def e0A (R : Ending → Mem → Prop) : ACode := (.seq (.code (sL (body))) (.seq (.seq (.code (sL (sL (sR (body))))) (.block 0 (.cut (l1E fun nodes_2 deep_3 x9a x9l x9c x10 x11 m => l1  nodes_2 deep_3 x9a x9l x9c x10 x11 R m) (.loop (lP (bB (sR (sL (sR (body)))))))))) (.cut (k2E fun nodes_2 deep_3 m => k2  nodes_2 deep_3 R m) (sR (sR (body))))))
abbrev k2Q  (R : Ending → Mem → Prop) : Exit → Env → Mem → Prop := (bodyQ P fn R)
abbrev l1Q  (R : Ending → Mem → Prop) : Exit → Env → Mem → Prop := (blockQ 0 (thenQ (acpt P od (panicR R) (.cut (k2E fun nodes_2 deep_3 m => k2  nodes_2 deep_3 R m) (sR (sR (body)))) (bodyQ P fn R)) (bodyQ P fn R)))
theorem k2_eq  (R : Ending → Mem → Prop) (nodes_2 : Int) (deep_3 : Int) (ρ : Env) (m : Mem) : k2  nodes_2 deep_3 R m = acpt P od (panicR R) (k2A  R) (k2Q  R) (upd (upd ρ 3 (.int .i64 deep_3)) 2 (.int .i64 nodes_2)) m := by kernel_rfl
theorem k2_er  (R : Ending → Mem → Prop) : (k2A  R).erase = sR (sR (body)) := by kernel_rfl
theorem k2_ok  (R : Ending → Mem → Prop) (ρ : Env) (m : Mem) (h : (k2E fun nodes_2 deep_3 m => k2  nodes_2 deep_3 R m) ρ m) : cpt P od (panicR R) (sR (sR (body))) (k2Q  R) ρ m := by
  unfold k2E at h
  obtain ⟨nodes_2, e2, h⟩ := h.ex
  obtain ⟨deep_3, e3, h⟩ := h.ex
  rw [← upd_self e2, ← upd_self e3]
  rw [← k2_er  R]
  refine acpt_sound (P := P) (k2A  R) _ _ _ True.intro ?_
  exact Eq.mp (k2_eq  R nodes_2 deep_3 ρ m) h
theorem l1_eq  (K1 : Int → Int → Option Addr → Nat → Nat → Int → Int → Mem → Prop) (R : Ending → Mem → Prop) (nodes_2 : Int) (deep_3 : Int) (x9a : Option Addr) (x9l : Nat) (x9c : Nat) (x10 : Int) (x11 : Int) (ρ : Env) (m : Mem) : l1B  K1 nodes_2 deep_3 x9a x9l x9c x10 x11 R m = acpt P od (panicR R) (l1A  K1 R) (thenQ (l1E K1) (l1Q  R)) (upd (upd (upd (upd (upd ρ 11 (.int .i64 x11)) 10 (.int .i64 x10)) 9 (.slice x9a x9l x9c)) 3 (.int .i64 deep_3)) 2 (.int .i64 nodes_2)) m := by kernel_rfl
theorem l1_er  (K1 : Int → Int → Option Addr → Nat → Nat → Int → Int → Mem → Prop) (R : Ending → Mem → Prop) : (l1A  K1 R).erase = lP (bB (sR (sL (sR (body))))) := by kernel_rfl
theorem l1_ok  (R : Ending → Mem → Prop) (ρ : Env) (m : Mem) (h : (l1E fun nodes_2 deep_3 x9a x9l x9c x10 x11 m => l1  nodes_2 deep_3 x9a x9l x9c x10 x11 R m) ρ m) : cpt P od (panicR R) (.loop (lP (bB (sR (sL (sR (body))))))) (l1Q  R) ρ m := by
  unfold l1E at h
  obtain ⟨nodes_2, e2, h⟩ := h.ex
  obtain ⟨deep_3, e3, h⟩ := h.ex
  obtain ⟨x9a, x9l, x9c, e9, h⟩ := h.ex
  obtain ⟨x10, e10, h⟩ := h.ex
  obtain ⟨x11, e11, h⟩ := h.ex
  obtain ⟨I, N, h0, hs⟩ := h
  refine ⟨fun N => l1E (I N), N, (by show l1E (I N) ρ m; unfold l1E; rw [e2, e3, e9, e10, e11]; exact h0), ?_⟩
  clear h0 e2 e3 e9 e10 e11
  intro N ρ m h
  unfold l1E at h
  obtain ⟨nodes_2, e2, h⟩ := h.ex
  obtain ⟨deep_3, e3, h⟩ := h.ex
  obtain ⟨x9a, x9l, x9c, e9, h⟩ := h.ex
  obtain ⟨x10, e10, h⟩ := h.ex
  obtain ⟨x11, e11, h⟩ := h.ex
  refine cpt_mono (P := P) (lP (bB (sR (sL (sR (body)))))) (Q := thenQ (l1E fun nodes_2 deep_3 x9a x9l x9c x10 x11 m => ∃ N1, N1 < N ∧ I N1 nodes_2 deep_3 x9a x9l x9c x10 x11 m) (l1Q  R)) (fun e ρ m h => ?_) ρ m ?_
  · cases e with
    | normal =>
      have h : l1E (fun nodes_2 deep_3 x9a x9l x9c x10 x11 m => ∃ N1, N1 < N ∧ I N1 nodes_2 deep_3 x9a x9l x9c x10 x11 m) ρ m := h
      unfold l1E at h
      obtain ⟨nodes_2, e2, h⟩ := h.ex
      obtain ⟨deep_3, e3, h⟩ := h.ex
      obtain ⟨x9a, x9l, x9c, e9, h⟩ := h.ex
      obtain ⟨x10, e10, h⟩ := h.ex
      obtain ⟨x11, e11, h⟩ := h.ex
      obtain ⟨N1, hlt, h⟩ := h
      exact ⟨N1, hlt, (by show l1E (I N1) ρ m; unfold l1E; rw [e2, e3, e9, e10, e11]; exact h)⟩
    | _ => exact h
  have hh := hs N nodes_2 deep_3 x9a x9l x9c x10 x11 m h
  generalize (fun nodes_2 deep_3 x9a x9l x9c x10 x11 m => ∃ N1, N1 < N ∧ I N1 nodes_2 deep_3 x9a x9l x9c x10 x11 m : Int → Int → Option Addr → Nat → Nat → Int → Int → Mem → Prop) = K1 at hh ⊢
  rw [← upd_self e2, ← upd_self e3, ← upd_self e9, ← upd_self e10, ← upd_self e11]
  rw [← l1_er  K1 R]
  refine acpt_sound (P := P) (l1A  K1 R) _ _ _ True.intro ?_
  exact Eq.mp (l1_eq  K1 R nodes_2 deep_3 x9a x9l x9c x10 x11 ρ m) hh
theorem e0_eq (r_0_0 : Int) (r_0_1 : Int) (r_0_2 : Int) (r_0_3 : Int) (r_0_4 : Int) (r_0_5a : Option Addr) (r_0_5l : Nat) (r_0_5c : Nat) (R : Ending → Mem → Prop) (m : Mem) : e0 r_0_0 r_0_1 r_0_2 r_0_3 r_0_4 r_0_5a r_0_5l r_0_5c R m = acpt P od (panicR R) (e0A R) (bodyQ P fn R) (argE (#[.agg #[.int .i64 r_0_0, .int .u64 r_0_1, .int .u64 r_0_2, .int .u64 r_0_3, .int .u64 r_0_4, .slice r_0_5a r_0_5l r_0_5c]] : Array Value).toList) m := by kernel_rfl
theorem ok (r_0_0 : Int) (r_0_1 : Int) (r_0_2 : Int) (r_0_3 : Int) (r_0_4 : Int) (r_0_5a : Option Addr) (r_0_5l : Nat) (r_0_5c : Nat) (R : Ending → Mem → Prop) (m : Mem) (h : e0 r_0_0 r_0_1 r_0_2 r_0_3 r_0_4 r_0_5a r_0_5l r_0_5c R m) : HC P id #[.agg #[.int .i64 r_0_0, .int .u64 r_0_1, .int .u64 r_0_2, .int .u64 r_0_3, .int .u64 r_0_4, .slice r_0_5a r_0_5l r_0_5c]] m R := by
  refine HC_of (fn := fn) (c := body) (od := od) (tb := tb) Go.Proofs.Try.func30 (by kernel_rfl) (by kernel_rfl) follows (by kernel_rfl) (of_decide_eq_true (by kernel_rfl)) ?_
  have he : (e0A R).erase = body := by kernel_rfl
  rw [← he]
  refine acpt_sound (P := P) (e0A R) _ _ _ ⟨⟨(fun ρ m h => k2_ok  R ρ m h), ⟨(fun ρ m h => l1_ok  R ρ m h), True.intro⟩⟩, True.intro⟩ ?_
  exact Eq.mp (e0_eq r_0_0 r_0_1 r_0_2 r_0_3 r_0_4 r_0_5a r_0_5l r_0_5c R m) h
end regex_size
/-! ### (*eyot/place.Places).links -/
namespace place_Places_links
noncomputable def fn : Func := Go.Proofs.Try.f31
noncomputable def body : Code := fn.body.getD .skip
def od : Nat → Ord := fun | 3 => ordL [(0, 3), (1, 3), (2, 3), (3, 1), (4, 3), (5, 3), (6, 3), (7, 3), (8, 1), (9, 3), (10, 3), (11, 1), (12, 3), (13, 0), (14, 3), (15, 2)] .done | _ => .done
def tb : Nat → Tab := fun | 3 => (32768, [0, 1, 3, 7, 0, 0, 32, 96, 224, 0, 992, 2016, 0, 8160, 16383, 32767], [(0, 1, 15), (1, 16384, 16), (2, 32768, 17), (4, 65536, 18), (0, 128, 19), (0, 1, 20), (32, 524288, 21), (64, 1048576, 22), (128, 2097152, 23), (0, 128, 24), (768, 12582912, 25), (1024, 16777216, 26), (0, 4, 27), (6144, 100663296, 28), (16383, 393216, 29), (32767, 402653184, 0)]) | _ => (0, [], [])
def l1E (K : Option Addr → Option Addr → Nat → Nat → Option Addr → Nat → Nat → Int → Int → Mem → Prop) : Env → Mem → Prop := fun ρ m => UnP (ρ 0) fun p_0 => UnS (ρ 2) fun first_2a first_2l first_2c => UnS (ρ 8) fun x8a x8l x8c => UnI (ρ 9) .i64 fun x9 => UnI (ρ 10) .i64 fun x10 => K p_0 first_2a first_2l first_2c x8a x8l x8c x9 x10 m
def l1B  (K1 : Option Addr → Option Addr → Nat → Nat → Option Addr → Nat → Nat → Int → Int → Mem → Prop) (p_0 : Option Addr) (first_2a : Option Addr) (first_2l : Nat) (first_2c : Nat) (x8a : Option Addr) (x8l : Nat) (x8c : Nat) (x9 : Int) (x10 : Int) (R : Ending → Mem → Prop) (m : Mem) : Prop :=
 Br (decide (x10 < x9)) (
  IxS x8a x8l x10 1 fun x12b x12o =>
  LdV m x12b x12o fun v =>
  UnI v .i64 fun x13 =>
  Sub m fun r1 =>
  NilC p_0 (fun x15b x15o =>
   LdV r1 x15b (x15o + 3) fun v =>
   UnS v fun x17a x17l x17c =>
   NilC p_0 (fun x20b x20o =>
    LdV r1 x20b (x20o + 3) fun v =>
    UnS v fun x22a x22l x22c =>
    IxS x22a x22l x13 1 fun x24b x24o =>
    LdV r1 x24b x24o fun v =>
    UnS v fun x25a x25l x25c =>
    HC P place_also.id #[.slice x25a x25l x25c, .slice first_2a first_2l first_2c] m (Cont (fun v m2 =>
      UnS v fun x27a x27l x27c =>
      Lk r1 m2 fun r3 =>
      IxS x17a x17l x13 1 fun x28b x28o =>
      St1 m2 x28b x28o (.slice x27a x27l x27c) fun m4 =>
      K1 p_0 first_2a first_2l first_2c x8a x8l x8c x9 (IntKind.i64.wrap (x10 + 1)) m4) (panicR R))) (False)) (False)) (
  R (.returned (.tuple #[])) m)
def l1  (p_0 : Option Addr) (first_2a : Option Addr) (first_2l : Nat) (first_2c : Nat) (x8a : Option Addr) (x8l : Nat) (x8c : Nat) (x9 : Int) (x10 : Int) (R : Ending → Mem → Prop) (m : Mem) : Prop :=
  ∃ (I : Nat → Option Addr → Option Addr → Nat → Nat → Option Addr → Nat → Nat → Int → Int → Mem → Prop) (N : Nat), I N p_0 first_2a first_2l first_2c x8a x8l x8c x9 x10 m ∧ ∀ N p_0 first_2a first_2l first_2c x8a x8l x8c x9 x10 m, I N p_0 first_2a first_2l first_2c x8a x8l x8c x9 x10 m → l1B  (fun p_0 first_2a first_2l first_2c x8a x8l x8c x9 x10 m => ∃ N1, N1 < N ∧ I N1 p_0 first_2a first_2l first_2c x8a x8l x8c x9 x10 m) p_0 first_2a first_2l first_2c x8a x8l x8c x9 x10 R m
noncomputable def l1A  (K1 : Option Addr → Option Addr → Nat → Nat → Option Addr → Nat → Nat → Int → Int → Mem → Prop) (R : Ending → Mem → Prop) : ACode := (.code (lP (bB (sR (body)))))
def e0 (p_0 : Option Addr) (last_1a : Option Addr) (last_1l : Nat) (last_1c : Nat) (first_2a : Option Addr) (first_2l : Nat) (first_2c : Nat) (R : Ending → Mem → Prop) (m : Mem) : Prop :=
 l1  p_0 first_2a first_2l first_2c last_1a last_1l last_1c ((last_1l : Nat) : Int) 0 R m
noncomputable def e0A (R : Ending → Mem → Prop) : ACode := (.seq (.code (sL (body))) (.block 0 (.cut (l1E fun p_0 first_2a first_2l first_2c x8a x8l x8c x9 x10 m => l1  p_0 first_2a first_2l first_2c x8a x8l x8c x9 x10 R m) (.loop (lP (bB (sR (body))))))))
abbrev l1Q  (R : Ending → Mem → Prop) : Exit → Env → Mem → Prop := (blockQ 0 (bodyQ P fn R))
theorem l1_eq  (K1 : Option Addr → Option Addr → Nat → Nat → Option Addr → Nat → Nat → Int → Int → Mem → Prop) (R : Ending → Mem → Prop) (p_0 : Option Addr) (first_2a : Option Addr) (first_2l : Nat) (first_2c : Nat) (x8a : Option Addr) (x8l : Nat) (x8c : Nat) (x9 : Int) (x10 : Int) (ρ : Env) (m : Mem) : l1B  K1 p_0 first_2a first_2l first_2c x8a x8l x8c x9 x10 R m = acpt P od (panicR R) (l1A  K1 R) (thenQ (l1E K1) (l1Q  R)) (upd (upd (upd (upd (upd ρ 10 (.int .i64 x10)) 9 (.int .i64 x9)) 8 (.slice x8a x8l x8c)) 2 (.slice first_2a first_2l first_2c)) 0 (.pointer p_0)) m := by kernel_rfl
theorem l1_er  (K1 : Option Addr → Option Addr → Nat → Nat → Option Addr → Nat → Nat → Int → Int → Mem → Prop) (R : Ending → Mem → Prop) : (l1A  K1 R).erase = lP (bB (sR (body))) := by kernel_rfl
theorem l1_ok  (R : Ending → Mem → Prop) (ρ : Env) (m : Mem) (h : (l1E fun p_0 first_2a first_2l first_2c x8a x8l x8c x9 x10 m => l1  p_0 first_2a first_2l first_2c x8a x8l x8c x9 x10 R m) ρ m) : cpt P od (panicR R) (.loop (lP (bB (sR (body))))) (l1Q  R) ρ m := by
  unfold l1E at h
  obtain ⟨p_0, e0, h⟩ := h.ex
  obtain ⟨first_2a, first_2l, first_2c, e2, h⟩ := h.ex
  obtain ⟨x8a, x8l, x8c, e8, h⟩ := h.ex
  obtain ⟨x9, e9, h⟩ := h.ex
  obtain ⟨x10, e10, h⟩ := h.ex
  obtain ⟨I, N, h0, hs⟩ := h
  refine ⟨fun N => l1E (I N), N, (by show l1E (I N) ρ m; unfold l1E; rw [e0, e2, e8, e9, e10]; exact h0), ?_⟩
  clear h0 e0 e2 e8 e9 e10
  intro N ρ m h
  unfold l1E at h
  obtain ⟨p_0, e0, h⟩ := h.ex
  obtain ⟨first_2a, first_2l, first_2c, e2, h⟩ := h.ex
  obtain ⟨x8a, x8l, x8c, e8, h⟩ := h.ex
  obtain ⟨x9, e9, h⟩ := h.ex
  obtain ⟨x10, e10, h⟩ := h.ex
  refine cpt_mono (P := P) (lP (bB (sR (body)))) (Q := thenQ (l1E fun p_0 first_2a first_2l first_2c x8a x8l x8c x9 x10 m => ∃ N1, N1 < N ∧ I N1 p_0 first_2a first_2l first_2c x8a x8l x8c x9 x10 m) (l1Q  R)) (fun e ρ m h => ?_) ρ m ?_
  · cases e with
    | normal =>
      have h : l1E (fun p_0 first_2a first_2l first_2c x8a x8l x8c x9 x10 m => ∃ N1, N1 < N ∧ I N1 p_0 first_2a first_2l first_2c x8a x8l x8c x9 x10 m) ρ m := h
      unfold l1E at h
      obtain ⟨p_0, e0, h⟩ := h.ex
      obtain ⟨first_2a, first_2l, first_2c, e2, h⟩ := h.ex
      obtain ⟨x8a, x8l, x8c, e8, h⟩ := h.ex
      obtain ⟨x9, e9, h⟩ := h.ex
      obtain ⟨x10, e10, h⟩ := h.ex
      obtain ⟨N1, hlt, h⟩ := h
      exact ⟨N1, hlt, (by show l1E (I N1) ρ m; unfold l1E; rw [e0, e2, e8, e9, e10]; exact h)⟩
    | _ => exact h
  have hh := hs N p_0 first_2a first_2l first_2c x8a x8l x8c x9 x10 m h
  generalize (fun p_0 first_2a first_2l first_2c x8a x8l x8c x9 x10 m => ∃ N1, N1 < N ∧ I N1 p_0 first_2a first_2l first_2c x8a x8l x8c x9 x10 m : Option Addr → Option Addr → Nat → Nat → Option Addr → Nat → Nat → Int → Int → Mem → Prop) = K1 at hh ⊢
  rw [← upd_self e0, ← upd_self e2, ← upd_self e8, ← upd_self e9, ← upd_self e10]
  rw [← l1_er  K1 R]
  refine acpt_sound (P := P) (l1A  K1 R) _ _ _ True.intro ?_
  exact Eq.mp (l1_eq  K1 R p_0 first_2a first_2l first_2c x8a x8l x8c x9 x10 ρ m) hh
theorem e0_eq (p_0 : Option Addr) (last_1a : Option Addr) (last_1l : Nat) (last_1c : Nat) (first_2a : Option Addr) (first_2l : Nat) (first_2c : Nat) (R : Ending → Mem → Prop) (m : Mem) : e0 p_0 last_1a last_1l last_1c first_2a first_2l first_2c R m = acpt P od (panicR R) (e0A R) (bodyQ P fn R) (argE (#[.pointer p_0, .slice last_1a last_1l last_1c, .slice first_2a first_2l first_2c] : Array Value).toList) m := by kernel_rfl
theorem ok (p_0 : Option Addr) (last_1a : Option Addr) (last_1l : Nat) (last_1c : Nat) (first_2a : Option Addr) (first_2l : Nat) (first_2c : Nat) (R : Ending → Mem → Prop) (m : Mem) (h : e0 p_0 last_1a last_1l last_1c first_2a first_2l first_2c R m) : HC P id #[.pointer p_0, .slice last_1a last_1l last_1c, .slice first_2a first_2l first_2c] m R := by
  refine HC_of (fn := fn) (c := body) (od := od) (tb := tb) Go.Proofs.Try.func31 (by kernel_rfl) (by kernel_rfl) follows (by kernel_rfl) (of_decide_eq_true (by kernel_rfl)) ?_
  have he : (e0A R).erase = body := by kernel_rfl
  rw [← he]
  refine acpt_sound (P := P) (e0A R) _ _ _ ⟨(fun ρ m h => l1_ok  R ρ m h), True.intro⟩ ?_
  exact Eq.mp (e0_eq p_0 last_1a last_1l last_1c first_2a first_2l first_2c R m) h
end place_Places_links
/-! ### eyot/place.also -/
namespace place_also
noncomputable def fn : Func := Go.Proofs.Try.f32
noncomputable def body : Code := fn.body.getD .skip
def od : Nat → Ord := fun _ => .done
def tb : Nat → Tab := fun _ => (0, [], [])
def e0 (a_0a : Option Addr) (a_0l : Nat) (a_0c : Nat) (b_1a : Option Addr) (b_1l : Nat) (b_1c : Nat) (R : Ending → Mem → Prop) (m : Mem) : Prop :=
 NewC m #[.slice a_0a a_0l a_0c, .slice b_1a b_1l b_1c] T_sl_int fun b8 m1 =>
 HC P slices_Concat_s_int_int.id #[.slice (some ⟨b8, 0, none⟩) 2 2] m1 (Cont (fun v m2 =>
   UnS v fun x9a x9l x9c =>
   HC P slices_Sort_s_int_int.id #[.slice x9a x9l x9c] m2 (Cont (fun v m3 =>
     UnTup v fun us0 =>
     UnNil us0 (
      HC P slices_Compact_s_int_int.id #[.slice x9a x9l x9c] m3 (Cont (fun v m4 =>
        UnS v fun x13a x13l x13c =>
        R (.returned (.slice x13a x13l x13c)) m4) (panicR R)))) (panicR R))) (panicR R))
noncomputable def e0A (R : Ending → Mem → Prop) : ACode := (.code (body))
theorem e0_eq (a_0a : Option Addr) (a_0l : Nat) (a_0c : Nat) (b_1a : Option Addr) (b_1l : Nat) (b_1c : Nat) (R : Ending → Mem → Prop) (m : Mem) : e0 a_0a a_0l a_0c b_1a b_1l b_1c R m = acpt P od (panicR R) (e0A R) (bodyQ P fn R) (argE (#[.slice a_0a a_0l a_0c, .slice b_1a b_1l b_1c] : Array Value).toList) m := by kernel_rfl
theorem ok (a_0a : Option Addr) (a_0l : Nat) (a_0c : Nat) (b_1a : Option Addr) (b_1l : Nat) (b_1c : Nat) (R : Ending → Mem → Prop) (m : Mem) (h : e0 a_0a a_0l a_0c b_1a b_1l b_1c R m) : HC P id #[.slice a_0a a_0l a_0c, .slice b_1a b_1l b_1c] m R := by
  refine HC_of (fn := fn) (c := body) (od := od) (tb := tb) Go.Proofs.Try.func32 (by kernel_rfl) (by kernel_rfl) follows (by kernel_rfl) (of_decide_eq_true (by kernel_rfl)) ?_
  have he : (e0A R).erase = body := by kernel_rfl
  rw [← he]
  refine acpt_sound (P := P) (e0A R) _ _ _ True.intro ?_
  exact Eq.mp (e0_eq a_0a a_0l a_0c b_1a b_1l b_1c R m) h
end place_also
end
end Go.E
set_option linter.unusedVariables false
set_option maxRecDepth 100000
namespace Go.E
open Go.H
noncomputable section
/-! ### eyot/eyotref8.table -/
namespace eyotref8_table
noncomputable def fn : Func := Go.Proofs.Try.f37
noncomputable def body : Code := fn.body.getD .skip
def od : Nat → Ord := fun _ => .done
def tb : Nat → Tab := fun _ => (0, [], [])
def l1E (K : Int → Option Addr → Nat → Nat → Int → Mem → Prop) : Env → Mem → Prop := fun ρ m => UnI (ρ 0) .i64 fun n_0 => UnS (ρ 3) fun t_3a t_3l t_3c => UnI (ρ 4) .i64 fun i_4 => K n_0 t_3a t_3l t_3c i_4 m
def l1B  (K1 : Int → Option Addr → Nat → Nat → Int → Mem → Prop) (n_0 : Int) (t_3a : Option Addr) (t_3l : Nat) (t_3c : Nat) (i_4 : Int) (R : Ending → Mem → Prop) (m : Mem) : Prop :=
 Br (decide (i_4 < n_0)) (
  MkS P m T_sl_bool (.int .i64 n_0) (.int .i64 n_0) (fun w m1 =>
   UnS w fun x15a x15l x15c =>
   IxS t_3a t_3l i_4 1 fun x16b x16o =>
   St1 m1 x16b x16o (.slice x15a x15l x15c) fun m2 =>
   K1 n_0 t_3a t_3l t_3c (IntKind.i64.wrap (i_4 + 1)) m2) (panicR R)) (
  R (.returned (.slice t_3a t_3l t_3c)) m)
def l1  (n_0 : Int) (t_3a : Option Addr) (t_3l : Nat) (t_3c : Nat) (i_4 : Int) (R : Ending → Mem → Prop) (m : Mem) : Prop :=
  ∃ (I : Nat → Int → Option Addr → Nat → Nat → Int → Mem → Prop) (N : Nat), I N n_0 t_3a t_3l t_3c i_4 m ∧ ∀ N n_0 t_3a t_3l t_3c i_4 m, I N n_0 t_3a t_3l t_3c i_4 m → l1B  (fun n_0 t_3a t_3l t_3c i_4 m => ∃ N1, N1 < N ∧ I N1 n_0 t_3a t_3l t_3c i_4 m) n_0 t_3a t_3l t_3c i_4 R m
noncomputable def l1A  (K1 : Int → Option Addr → Nat → Nat → Int → Mem → Prop) (R : Ending → Mem → Prop) : ACode := (.code (lP (bB (sR (sL (sR (sR (body))))))))
def e0 (n_0 : Int) (R : Ending → Mem → Prop) (m : Mem) : Prop :=
 MkS P m T_sl_sl_bool (.int .i64 n_0) (.int .i64 n_0) (fun w m1 =>
  UnS w fun x6a x6l x6c =>
  l1  n_0 x6a x6l x6c 0 R m1) (panicR R)
noncomputable def e0A (R : Ending → Mem → Prop) : ACode := (.seq (.code (sL (body))) (.seq (.code (sL (sR (body)))) (.seq (.seq (.code (sL (sL (sR (sR (body)))))) (.block 0 (.cut (l1E fun n_0 t_3a t_3l t_3c i_4 m => l1  n_0 t_3a t_3l t_3c i_4 R m) (.loop (lP (bB (sR (sL (sR (sR (body))))))))))) (.code (sR (sR (sR (body))))))))
abbrev l1Q  (R : Ending → Mem → Prop) : Exit → Env → Mem → Prop := (blockQ 0 (thenQ (acpt P od (panicR R) (.code (sR (sR (sR (body))))) (bodyQ P fn R)) (bodyQ P fn R)))
theorem l1_eq  (K1 : Int → Option Addr → Nat → Nat → Int → Mem → Prop) (R : Ending → Mem → Prop) (n_0 : Int) (t_3a : Option Addr) (t_3l : Nat) (t_3c : Nat) (i_4 : Int) (ρ : Env) (m : Mem) : l1B  K1 n_0 t_3a t_3l t_3c i_4 R m = acpt P od (panicR R) (l1A  K1 R) (thenQ (l1E K1) (l1Q  R)) (upd (upd (upd ρ 4 (.int .i64 i_4)) 3 (.slice t_3a t_3l t_3c)) 0 (.int .i64 n_0)) m := by kernel_rfl
theorem l1_er  (K1 : Int → Option Addr → Nat → Nat → Int → Mem → Prop) (R : Ending → Mem → Prop) : (l1A  K1 R).erase = lP (bB (sR (sL (sR (sR (body)))))) := by kernel_rfl
theorem l1_ok  (R : Ending → Mem → Prop) (ρ : Env) (m : Mem) (h : (l1E fun n_0 t_3a t_3l t_3c i_4 m => l1  n_0 t_3a t_3l t_3c i_4 R m) ρ m) : cpt P od (panicR R) (.loop (lP (bB (sR (sL (sR (sR (body)))))))) (l1Q  R) ρ m := by
  unfold l1E at h
  obtain ⟨n_0, e0, h⟩ := h.ex
  obtain ⟨t_3a, t_3l, t_3c, e3, h⟩ := h.ex
  obtain ⟨i_4, e4, h⟩ := h.ex
  obtain ⟨I, N, h0, hs⟩ := h
  refine ⟨fun N => l1E (I N), N, (by show l1E (I N) ρ m; unfold l1E; rw [e0, e3, e4]; exact h0), ?_⟩
  clear h0 e0 e3 e4
  intro N ρ m h
  unfold l1E at h
  obtain ⟨n_0, e0, h⟩ := h.ex
  obtain ⟨t_3a, t_3l, t_3c, e3, h⟩ := h.ex
  obtain ⟨i_4, e4, h⟩ := h.ex
  refine cpt_mono (P := P) (lP (bB (sR (sL (sR (sR (body))))))) (Q := thenQ (l1E fun n_0 t_3a t_3l t_3c i_4 m => ∃ N1, N1 < N ∧ I N1 n_0 t_3a t_3l t_3c i_4 m) (l1Q  R)) (fun e ρ m h => ?_) ρ m ?_
  · cases e with
    | normal =>
      have h : l1E (fun n_0 t_3a t_3l t_3c i_4 m => ∃ N1, N1 < N ∧ I N1 n_0 t_3a t_3l t_3c i_4 m) ρ m := h
      unfold l1E at h
      obtain ⟨n_0, e0, h⟩ := h.ex
      obtain ⟨t_3a, t_3l, t_3c, e3, h⟩ := h.ex
      obtain ⟨i_4, e4, h⟩ := h.ex
      obtain ⟨N1, hlt, h⟩ := h
      exact ⟨N1, hlt, (by show l1E (I N1) ρ m; unfold l1E; rw [e0, e3, e4]; exact h)⟩
    | _ => exact h
  have hh := hs N n_0 t_3a t_3l t_3c i_4 m h
  generalize (fun n_0 t_3a t_3l t_3c i_4 m => ∃ N1, N1 < N ∧ I N1 n_0 t_3a t_3l t_3c i_4 m : Int → Option Addr → Nat → Nat → Int → Mem → Prop) = K1 at hh ⊢
  rw [← upd_self e0, ← upd_self e3, ← upd_self e4]
  rw [← l1_er  K1 R]
  refine acpt_sound (P := P) (l1A  K1 R) _ _ _ True.intro ?_
  exact Eq.mp (l1_eq  K1 R n_0 t_3a t_3l t_3c i_4 ρ m) hh
theorem e0_eq (n_0 : Int) (R : Ending → Mem → Prop) (m : Mem) : e0 n_0 R m = acpt P od (panicR R) (e0A R) (bodyQ P fn R) (argE (#[.int .i64 n_0] : Array Value).toList) m := by kernel_rfl
theorem ok (n_0 : Int) (R : Ending → Mem → Prop) (m : Mem) (h : e0 n_0 R m) : HC P id #[.int .i64 n_0] m R := by
  refine HC_of (fn := fn) (c := body) (od := od) (tb := tb) Go.Proofs.Try.func37 (by kernel_rfl) (by kernel_rfl) follows (by kernel_rfl) (of_decide_eq_true (by kernel_rfl)) ?_
  have he : (e0A R).erase = body := by kernel_rfl
  rw [← he]
  refine acpt_sound (P := P) (e0A R) _ _ _ ⟨⟨⟨True.intro, ⟨(fun ρ m h => l1_ok  R ρ m h), True.intro⟩⟩, True.intro⟩, True.intro⟩ ?_
  exact Eq.mp (e0_eq n_0 R m) h
end eyotref8_table
/-! ### eyot/eyotref8.same -/
namespace eyotref8_same
noncomputable def fn : Func := Go.Proofs.Try.f38
noncomputable def body : Code := fn.body.getD .skip
def od : Nat → Ord := fun _ => .done
def tb : Nat → Tab := fun _ => (0, [], [])
def l1E (K : Int → Option Addr → Nat → Nat → Int → Mem → Prop) : Env → Mem → Prop := fun ρ m => UnI (ρ 0) .i64 fun n_0 => UnS (ρ 3) fun t_3a t_3l t_3c => UnI (ρ 4) .i64 fun i_4 => K n_0 t_3a t_3l t_3c i_4 m
def l1B  (K1 : Int → Option Addr → Nat → Nat → Int → Mem → Prop) (n_0 : Int) (t_3a : Option Addr) (t_3l : Nat) (t_3c : Nat) (i_4 : Int) (R : Ending → Mem → Prop) (m : Mem) : Prop :=
 Br (decide (i_4 < n_0)) (
  IxS t_3a t_3l i_4 1 fun x14b x14o =>
  LdV m x14b x14o fun v =>
  UnS v fun x15a x15l x15c =>
  IxS x15a x15l i_4 1 fun x17b x17o =>
  St1 m x17b x17o (.bool true) fun m1 =>
  K1 n_0 t_3a t_3l t_3c (IntKind.i64.wrap (i_4 + 1)) m1) (
  R (.returned (.slice t_3a t_3l t_3c)) m)
def l1  (n_0 : Int) (t_3a : Option Addr) (t_3l : Nat) (t_3c : Nat) (i_4 : Int) (R : Ending → Mem → Prop) (m : Mem) : Prop :=
  ∃ (I : Nat → Int → Option Addr → Nat → Nat → Int → Mem → Prop) (N : Nat), I N n_0 t_3a t_3l t_3c i_4 m ∧ ∀ N n_0 t_3a t_3l t_3c i_4 m, I N n_0 t_3a t_3l t_3c i_4 m → l1B  (fun n_0 t_3a t_3l t_3c i_4 m => ∃ N1, N1 < N ∧ I N1 n_0 t_3a t_3l t_3c i_4 m) n_0 t_3a t_3l t_3c i_4 R m
noncomputable def l1A  (K1 : Int → Option Addr → Nat → Nat → Int → Mem → Prop) (R : Ending → Mem → Prop) : ACode := (.code (lP (bB (sR (sL (sR (sR (body))))))))
def e0 (n_0 : Int) (R : Ending → Mem → Prop) (m : Mem) : Prop :=
 HC P eyotref8_table.id #[.int .i64 n_0] m (Cont (fun v m1 =>
   UnS v fun x6a x6l x6c =>
   l1  n_0 x6a x6l x6c 0 R m1) (panicR R))
noncomputable def e0A (R : Ending → Mem → Prop) : ACode := (.seq (.code (sL (body))) (.seq (.code (sL (sR (body)))) (.seq (.seq (.code (sL (sL (sR (sR (body)))))) (.block 0 (.cut (l1E fun n_0 t_3a t_3l t_3c i_4 m => l1  n_0 t_3a t_3l t_3c i_4 R m) (.loop (lP (bB (sR (sL (sR (sR (body))))))))))) (.code (sR (sR (sR (body))))))))
abbrev l1Q  (R : Ending → Mem → Prop) : Exit → Env → Mem → Prop := (blockQ 0 (thenQ (acpt P od (panicR R) (.code (sR (sR (sR (body))))) (bodyQ P fn R)) (bodyQ P fn R)))
theorem l1_eq  (K1 : Int → Option Addr → Nat → Nat → Int → Mem → Prop) (R : Ending → Mem → Prop) (n_0 : Int) (t_3a : Option Addr) (t_3l : Nat) (t_3c : Nat) (i_4 : Int) (ρ : Env) (m : Mem) : l1B  K1 n_0 t_3a t_3l t_3c i_4 R m = acpt P od (panicR R) (l1A  K1 R) (thenQ (l1E K1) (l1Q  R)) (upd (upd (upd ρ 4 (.int .i64 i_4)) 3 (.slice t_3a t_3l t_3c)) 0 (.int .i64 n_0)) m := by kernel_rfl
theorem l1_er  (K1 : Int → Option Addr → Nat → Nat → Int → Mem → Prop) (R : Ending → Mem → Prop) : (l1A  K1 R).erase = lP (bB (sR (sL (sR (sR (body)))))) := by kernel_rfl
theorem l1_ok  (R : Ending → Mem → Prop) (ρ : Env) (m : Mem) (h : (l1E fun n_0 t_3a t_3l t_3c i_4 m => l1  n_0 t_3a t_3l t_3c i_4 R m) ρ m) : cpt P od (panicR R) (.loop (lP (bB (sR (sL (sR (sR (body)))))))) (l1Q  R) ρ m := by
  unfold l1E at h
  obtain ⟨n_0, e0, h⟩ := h.ex
  obtain ⟨t_3a, t_3l, t_3c, e3, h⟩ := h.ex
  obtain ⟨i_4, e4, h⟩ := h.ex
  obtain ⟨I, N, h0, hs⟩ := h
  refine ⟨fun N => l1E (I N), N, (by show l1E (I N) ρ m; unfold l1E; rw [e0, e3, e4]; exact h0), ?_⟩
  clear h0 e0 e3 e4
  intro N ρ m h
  unfold l1E at h
  obtain ⟨n_0, e0, h⟩ := h.ex
  obtain ⟨t_3a, t_3l, t_3c, e3, h⟩ := h.ex
  obtain ⟨i_4, e4, h⟩ := h.ex
  refine cpt_mono (P := P) (lP (bB (sR (sL (sR (sR (body))))))) (Q := thenQ (l1E fun n_0 t_3a t_3l t_3c i_4 m => ∃ N1, N1 < N ∧ I N1 n_0 t_3a t_3l t_3c i_4 m) (l1Q  R)) (fun e ρ m h => ?_) ρ m ?_
  · cases e with
    | normal =>
      have h : l1E (fun n_0 t_3a t_3l t_3c i_4 m => ∃ N1, N1 < N ∧ I N1 n_0 t_3a t_3l t_3c i_4 m) ρ m := h
      unfold l1E at h
      obtain ⟨n_0, e0, h⟩ := h.ex
      obtain ⟨t_3a, t_3l, t_3c, e3, h⟩ := h.ex
      obtain ⟨i_4, e4, h⟩ := h.ex
      obtain ⟨N1, hlt, h⟩ := h
      exact ⟨N1, hlt, (by show l1E (I N1) ρ m; unfold l1E; rw [e0, e3, e4]; exact h)⟩
    | _ => exact h
  have hh := hs N n_0 t_3a t_3l t_3c i_4 m h
  generalize (fun n_0 t_3a t_3l t_3c i_4 m => ∃ N1, N1 < N ∧ I N1 n_0 t_3a t_3l t_3c i_4 m : Int → Option Addr → Nat → Nat → Int → Mem → Prop) = K1 at hh ⊢
  rw [← upd_self e0, ← upd_self e3, ← upd_self e4]
  rw [← l1_er  K1 R]
  refine acpt_sound (P := P) (l1A  K1 R) _ _ _ True.intro ?_
  exact Eq.mp (l1_eq  K1 R n_0 t_3a t_3l t_3c i_4 ρ m) hh
theorem e0_eq (n_0 : Int) (R : Ending → Mem → Prop) (m : Mem) : e0 n_0 R m = acpt P od (panicR R) (e0A R) (bodyQ P fn R) (argE (#[.int .i64 n_0] : Array Value).toList) m := by kernel_rfl
theorem ok (n_0 : Int) (R : Ending → Mem → Prop) (m : Mem) (h : e0 n_0 R m) : HC P id #[.int .i64 n_0] m R := by
  refine HC_of (fn := fn) (c := body) (od := od) (tb := tb) Go.Proofs.Try.func38 (by kernel_rfl) (by kernel_rfl) follows (by kernel_rfl) (of_decide_eq_true (by kernel_rfl)) ?_
  have he : (e0A R).erase = body := by kernel_rfl
  rw [← he]
  refine acpt_sound (P := P) (e0A R) _ _ _ ⟨⟨⟨True.intro, ⟨(fun ρ m h => l1_ok  R ρ m h), True.intro⟩⟩, True.intro⟩, True.intro⟩ ?_
  exact Eq.mp (e0_eq n_0 R m) h
end eyotref8_same
end
end Go.E
set_option linter.unusedVariables false
set_option maxRecDepth 100000
namespace Go.E
open Go.H
noncomputable section
/-! ### eyot/eyotref8.behind -/
namespace eyotref8_behind
noncomputable def fn : Func := Go.Proofs.Try.f39
noncomputable def body : Code := fn.body.getD .skip
def od : Nat → Ord := fun | 11 => ordL [(0, 3), (1, 3), (2, 3), (3, 1), (4, 3), (5, 3), (6, 3), (7, 3), (8, 1), (9, 3), (10, 3), (11, 0), (12, 3), (13, 3), (14, 3), (15, 3), (16, 1), (17, 3), (18, 3), (19, 0), (20, 3), (21, 3), (22, 2)] .done | _ => .done
def tb : Nat → Tab := fun | 11 => (4194304, [0, 0, 3, 7, 0, 0, 0, 96, 224, 0, 992, 2016, 4064, 8160, 8160, 32736, 65504, 8160, 262112, 524256, 1048544, 2097151, 4194303], [(0, 32, 42), (0, 64, 43), (3, 6597069766656, 44), (4, 8796093022208, 45), (0, 256, 46), (0, 32, 47), (0, 64, 48), (96, 211106232532992, 49), (128, 281474976710656, 50), (0, 256, 51), (768, 1688849860263936, 52), (1024, 2251799813685248, 53), (2048, 4503599627370496, 54), (4096, 9007199254740994, 55), (4096, 9007199254741120, 56), (28672, 63050394783186944, 57), (36864, 81064793292668928, 58), (4096, 9007199254741248, 59), (200704, 441352763482308608, 60), (266240, 585467951558164480, 61), (528384, 1161928703861587968, 62), (2097151, 52776558133248, 63), (4194303, 6917529027641081856, 0)]) | _ => (0, [], [])
def l3E (K : Option Addr → Nat → Nat → Option Addr → Nat → Nat → Option Addr → Nat → Nat → Int → Int → Int → Mem → Prop) : Env → Mem → Prop := fun ρ m => UnS (ρ 0) fun a_0a a_0l a_0c => UnS (ρ 1) fun b_1a b_1l b_1c => UnS (ρ 5) fun t_5a t_5l t_5c => UnI (ρ 6) .i64 fun i_6 => UnI (ρ 7) .i64 fun j_7 => UnI (ρ 8) .i64 fun k_8 => K a_0a a_0l a_0c b_1a b_1l b_1c t_5a t_5l t_5c i_6 j_7 k_8 m
def l3B (K1 : Option Addr → Nat → Nat → Option Addr → Nat → Nat → Option Addr → Nat → Nat → Int → Mem → Prop) (K2 : Option Addr → Nat → Nat → Option Addr → Nat → Nat → Option Addr → Nat → Nat → Int → Int → Mem → Prop) (K3 : Option Addr → Nat → Nat → Option Addr → Nat → Nat → Option Addr → Nat → Nat → Int → Int → Int → Mem → Prop) (a_0a : Option Addr) (a_0l : Nat) (a_0c : Nat) (b_1a : Option Addr) (b_1l : Nat) (b_1c : Nat) (t_5a : Option Addr) (t_5l : Nat) (t_5c : Nat) (i_6 : Int) (j_7 : Int) (k_8 : Int) (R : Ending → Mem → Prop) (m : Mem) : Prop :=
 Br (decide (k_8 < ((a_0l : Nat) : Int))) (
  IxS a_0a a_0l i_6 1 fun x33b x33o =>
  LdV m x33b x33o fun v =>
  UnS v fun x34a x34l x34c =>
  IxS x34a x34l j_7 1 fun x36b x36o =>
  LdV m x36b x36o fun v =>
  UnB v fun x37 =>
  Br x37 (
   Sub m fun r1 =>
   IxS t_5a t_5l i_6 1 fun x43b x43o =>
   LdV r1 x43b x43o fun v =>
   UnS v fun x44a x44l x44c =>
   IxS t_5a t_5l i_6 1 fun x48b x48o =>
   LdV r1 x48b x48o fun v =>
   UnS v fun x49a x49l x49c =>
   IxS x49a x49l k_8 1 fun x51b x51o =>
   LdV m x51b x51o fun v =>
   UnB v fun x52 =>
   Br x52 (
    IxS x44a x44l k_8 1 fun x62b x62o =>
    St1 m x62b x62o (.bool true) fun m2 =>
    K3 a_0a a_0l a_0c b_1a b_1l b_1c t_5a t_5l t_5c i_6 j_7 (IntKind.i64.wrap (k_8 + 1)) m2) (
    IxS b_1a b_1l j_7 1 fun x56b x56o =>
    LdV r1 x56b x56o fun v =>
    UnS v fun x57a x57l x57c =>
    IxS x57a x57l k_8 1 fun x59b x59o =>
    LdV m x59b x59o fun v =>
    UnB v fun x60 =>
    IxS x44a x44l k_8 1 fun x62b x62o =>
    St1 m x62b x62o (.bool x60) fun m2 =>
    K3 a_0a a_0l a_0c b_1a b_1l b_1c t_5a t_5l t_5c i_6 j_7 (IntKind.i64.wrap (k_8 + 1)) m2)) (
   K2 a_0a a_0l a_0c b_1a b_1l b_1c t_5a t_5l t_5c i_6 (IntKind.i64.wrap (j_7 + 1)) m)) (
  K2 a_0a a_0l a_0c b_1a b_1l b_1c t_5a t_5l t_5c i_6 (IntKind.i64.wrap (j_7 + 1)) m)
def l3 (K1 : Option Addr → Nat → Nat → Option Addr → Nat → Nat → Option Addr → Nat → Nat → Int → Mem → Prop) (K2 : Option Addr → Nat → Nat → Option Addr → Nat → Nat → Option Addr → Nat → Nat → Int → Int → Mem → Prop) (a_0a : Option Addr) (a_0l : Nat) (a_0c : Nat) (b_1a : Option Addr) (b_1l : Nat) (b_1c : Nat) (t_5a : Option Addr) (t_5l : Nat) (t_5c : Nat) (i_6 : Int) (j_7 : Int) (k_8 : Int) (R : Ending → Mem → Prop) (m : Mem) : Prop :=
  ∃ (I : Nat → Option Addr → Nat → Nat → Option Addr → Nat → Nat → Option Addr → Nat → Nat → Int → Int → Int → Mem → Prop) (N : Nat), I N a_0a a_0l a_0c b_1a b_1l b_1c t_5a t_5l t_5c i_6 j_7 k_8 m ∧ ∀ N a_0a a_0l a_0c b_1a b_1l b_1c t_5a t_5l t_5c i_6 j_7 k_8 m, I N a_0a a_0l a_0c b_1a b_1l b_1c t_5a t_5l t_5c i_6 j_7 k_8 m → l3B K1 K2 (fun a_0a a_0l a_0c b_1a b_1l b_1c t_5a t_5l t_5c i_6 j_7 k_8 m => ∃ N1, N1 < N ∧ I N1 a_0a a_0l a_0c b_1a b_1l b_1c t_5a t_5l t_5c i_6 j_7 k_8 m) a_0a a_0l a_0c b_1a b_1l b_1c t_5a t_5l t_5c i_6 j_7 k_8 R m
noncomputable def l3A (K1 : Option Addr → Nat → Nat → Option Addr → Nat → Nat → Option Addr → Nat → Nat → Int → Mem → Prop) (K2 : Option Addr → Nat → Nat → Option Addr → Nat → Nat → Option Addr → Nat → Nat → Int → Int → Mem → Prop) (K3 : Option Addr → Nat → Nat → Option Addr → Nat → Nat → Option Addr → Nat → Nat → Int → Int → Int → Mem → Prop) (R : Ending → Mem → Prop) : ACode := (.code (lP (bB (sR (bB (sL (sR (lP (bB (sR (bB (sL (sR (lP (bB (sR (sL (sR (sR (body))))))))))))))))))))
def l2E (K : Option Addr → Nat → Nat → Option Addr → Nat → Nat → Option Addr → Nat → Nat → Int → Int → Mem → Prop) : Env → Mem → Prop := fun ρ m => UnS (ρ 0) fun a_0a a_0l a_0c => UnS (ρ 1) fun b_1a b_1l b_1c => UnS (ρ 5) fun t_5a t_5l t_5c => UnI (ρ 6) .i64 fun i_6 => UnI (ρ 7) .i64 fun j_7 => K a_0a a_0l a_0c b_1a b_1l b_1c t_5a t_5l t_5c i_6 j_7 m
def l2B (K1 : Option Addr → Nat → Nat → Option Addr → Nat → Nat → Option Addr → Nat → Nat → Int → Mem → Prop) (K2 : Option Addr → Nat → Nat → Option Addr → Nat → Nat → Option Addr → Nat → Nat → Int → Int → Mem → Prop) (a_0a : Option Addr) (a_0l : Nat) (a_0c : Nat) (b_1a : Option Addr) (b_1l : Nat) (b_1c : Nat) (t_5a : Option Addr) (t_5l : Nat) (t_5c : Nat) (i_6 : Int) (j_7 : Int) (R : Ending → Mem → Prop) (m : Mem) : Prop :=
 Br (decide (j_7 < ((a_0l : Nat) : Int))) (
  l3 K1 K2 a_0a a_0l a_0c b_1a b_1l b_1c t_5a t_5l t_5c i_6 j_7 j_7 R m) (
  K1 a_0a a_0l a_0c b_1a b_1l b_1c t_5a t_5l t_5c (IntKind.i64.wrap (i_6 + 1)) m)
def l2 (K1 : Option Addr → Nat → Nat → Option Addr → Nat → Nat → Option Addr → Nat → Nat → Int → Mem → Prop) (a_0a : Option Addr) (a_0l : Nat) (a_0c : Nat) (b_1a : Option Addr) (b_1l : Nat) (b_1c : Nat) (t_5a : Option Addr) (t_5l : Nat) (t_5c : Nat) (i_6 : Int) (j_7 : Int) (R : Ending → Mem → Prop) (m : Mem) : Prop :=
  ∃ (I : Nat → Option Addr → Nat → Nat → Option Addr → Nat → Nat → Option Addr → Nat → Nat → Int → Int → Mem → Prop) (N : Nat), I N a_0a a_0l a_0c b_1a b_1l b_1c t_5a t_5l t_5c i_6 j_7 m ∧ ∀ N a_0a a_0l a_0c b_1a b_1l b_1c t_5a t_5l t_5c i_6 j_7 m, I N a_0a a_0l a_0c b_1a b_1l b_1c t_5a t_5l t_5c i_6 j_7 m → l2B K1 (fun a_0a a_0l a_0c b_1a b_1l b_1c t_5a t_5l t_5c i_6 j_7 m => ∃ N1, N1 < N ∧ I N1 a_0a a_0l a_0c b_1a b_1l b_1c t_5a t_5l t_5c i_6 j_7 m) a_0a a_0l a_0c b_1a b_1l b_1c t_5a t_5l t_5c i_6 j_7 R m
noncomputable def l2A (K1 : Option Addr → Nat → Nat → Option Addr → Nat → Nat → Option Addr → Nat → Nat → Int → Mem → Prop) (K2 : Option Addr → Nat → Nat → Option Addr → Nat → Nat → Option Addr → Nat → Nat → Int → Int → Mem → Prop) (R : Ending → Mem → Prop) : ACode := (.seq (.code (sL (lP (bB (sR (bB (sL (sR (lP (bB (sR (sL (sR (sR (body))))))))))))))) (.seq (.block 3 (.seq (.code (sL (bB (sL (sR (lP (bB (sR (bB (sL (sR (lP (bB (sR (sL (sR (sR (body)))))))))))))))))) (.block 4 (.cut (l3E fun a_0a a_0l a_0c b_1a b_1l b_1c t_5a t_5l t_5c i_6 j_7 k_8 m => l3 K1 K2 a_0a a_0l a_0c b_1a b_1l b_1c t_5a t_5l t_5c i_6 j_7 k_8 R m) (.loop (lP (bB (sR (bB (sL (sR (lP (bB (sR (bB (sL (sR (lP (bB (sR (sL (sR (sR (body)))))))))))))))))))))))) (.code (sR (sR (lP (bB (sR (bB (sL (sR (lP (bB (sR (sL (sR (sR (body))))))))))))))))))
def l1E (K : Option Addr → Nat → Nat → Option Addr → Nat → Nat → Option Addr → Nat → Nat → Int → Mem → Prop) : Env → Mem → Prop := fun ρ m => UnS (ρ 0) fun a_0a a_0l a_0c => UnS (ρ 1) fun b_1a b_1l b_1c => UnS (ρ 5) fun t_5a t_5l t_5c => UnI (ρ 6) .i64 fun i_6 => K a_0a a_0l a_0c b_1a b_1l b_1c t_5a t_5l t_5c i_6 m
def l1B  (K1 : Option Addr → Nat → Nat → Option Addr → Nat → Nat → Option Addr → Nat → Nat → Int → Mem → Prop) (a_0a : Option Addr) (a_0l : Nat) (a_0c : Nat) (b_1a : Option Addr) (b_1l : Nat) (b_1c : Nat) (t_5a : Option Addr) (t_5l : Nat) (t_5c : Nat) (i_6 : Int) (R : Ending → Mem → Prop) (m : Mem) : Prop :=
 Br (decide (i_6 < ((a_0l : Nat) : Int))) (
  l2 K1 a_0a a_0l a_0c b_1a b_1l b_1c t_5a t_5l t_5c i_6 i_6 R m) (
  R (.returned (.slice t_5a t_5l t_5c)) m)
def l1  (a_0a : Option Addr) (a_0l : Nat) (a_0c : Nat) (b_1a : Option Addr) (b_1l : Nat) (b_1c : Nat) (t_5a : Option Addr) (t_5l : Nat) (t_5c : Nat) (i_6 : Int) (R : Ending → Mem → Prop) (m : Mem) : Prop :=
  ∃ (I : Nat → Option Addr → Nat → Nat → Option Addr → Nat → Nat → Option Addr → Nat → Nat → Int → Mem → Prop) (N : Nat), I N a_0a a_0l a_0c b_1a b_1l b_1c t_5a t_5l t_5c i_6 m ∧ ∀ N a_0a a_0l a_0c b_1a b_1l b_1c t_5a t_5l t_5c i_6 m, I N a_0a a_0l a_0c b_1a b_1l b_1c t_5a t_5l t_5c i_6 m → l1B  (fun a_0a a_0l a_0c b_1a b_1l b_1c t_5a t_5l t_5c i_6 m => ∃ N1, N1 < N ∧ I N1 a_0a a_0l a_0c b_1a b_1l b_1c t_5a t_5l t_5c i_6 m) a_0a a_0l a_0c b_1a b_1l b_1c t_5a t_5l t_5c i_6 R m
noncomputable def l1A  (K1 : Option Addr → Nat → Nat → Option Addr → Nat → Nat → Option Addr → Nat → Nat → Int → Mem → Prop) (R : Ending → Mem → Prop) : ACode := (.seq (.code (sL (lP (bB (sR (sL (sR (sR (body))))))))) (.seq (.block 1 (.seq (.code (sL (bB (sL (sR (lP (bB (sR (sL (sR (sR (body)))))))))))) (.block 2 (.cut (l2E fun a_0a a_0l a_0c b_1a b_1l b_1c t_5a t_5l t_5c i_6 j_7 m => l2 K1 a_0a a_0l a_0c b_1a b_1l b_1c t_5a t_5l t_5c i_6 j_7 R m) (.loop (lP (bB (sR (bB (sL (sR (lP (bB (sR (sL (sR (sR (body)))))))))))))))))) (.code (sR (sR (lP (bB (sR (sL (sR (sR (body))))))))))))
def e0 (a_0a : Option Addr) (a_0l : Nat) (a_0c : Nat) (b_1a : Option Addr) (b_1l : Nat) (b_1c : Nat) (R : Ending → Mem → Prop) (m : Mem) : Prop :=
 HC P eyotref8_table.id #[.int .i64 ((a_0l : Nat) : Int)] m (Cont (fun v m1 =>
   UnS v fun x11a x11l x11c =>
   l1  a_0a a_0l a_0c b_1a b_1l b_1c x11a x11l x11c 0 R m1) (panicR R))
noncomputable def e0A (R : Ending → Mem → Prop) : ACode := (.seq (.code (sL (body))) (.seq (.code (sL (sR (body)))) (.seq (.seq (.code (sL (sL (sR (sR (body)))))) (.block 0 (.cut (l1E fun a_0a a_0l a_0c b_1a b_1l b_1c t_5a t_5l t_5c i_6 m => l1  a_0a a_0l a_0c b_1a b_1l b_1c t_5a t_5l t_5c i_6 R m) (.loop (lP (bB (sR (sL (sR (sR (body))))))))))) (.code (sR (sR (sR (body))))))))
abbrev l1Q  (R : Ending → Mem → Prop) : Exit → Env → Mem → Prop := (blockQ 0 (thenQ (acpt P od (panicR R) (.code (sR (sR (sR (body))))) (bodyQ P fn R)) (bodyQ P fn R)))
abbrev l2Q (K1 : Option Addr → Nat → Nat → Option Addr → Nat → Nat → Option Addr → Nat → Nat → Int → Mem → Prop) (R : Ending → Mem → Prop) : Exit → Env → Mem → Prop := (blockQ 2 (blockQ 1 (thenQ (acpt P od (panicR R) (.code (sR (sR (lP (bB (sR (sL (sR (sR (body)))))))))) (thenQ (l1E K1) (l1Q  R))) (thenQ (l1E K1) (l1Q  R)))))
abbrev l3Q (K1 : Option Addr → Nat → Nat → Option Addr → Nat → Nat → Option Addr → Nat → Nat → Int → Mem → Prop) (K2 : Option Addr → Nat → Nat → Option Addr → Nat → Nat → Option Addr → Nat → Nat → Int → Int → Mem → Prop) (R : Ending → Mem → Prop) : Exit → Env → Mem → Prop := (blockQ 4 (blockQ 3 (thenQ (acpt P od (panicR R) (.code (sR (sR (lP (bB (sR (bB (sL (sR (lP (bB (sR (sL (sR (sR (body)))))))))))))))) (thenQ (l2E K2) (l2Q K1 R))) (thenQ (l2E K2) (l2Q K1 R)))))
theorem l3_eq (K1 : Option Addr → Nat → Nat → Option Addr → Nat → Nat → Option Addr → Nat → Nat → Int → Mem → Prop) (K2 : Option Addr → Nat → Nat → Option Addr → Nat → Nat → Option Addr → Nat → Nat → Int → Int → Mem → Prop) (K3 : Option Addr → Nat → Nat → Option Addr → Nat → Nat → Option Addr → Nat → Nat → Int → Int → Int → Mem → Prop) (R : Ending → Mem → Prop) (a_0a : Option Addr) (a_0l : Nat) (a_0c : Nat) (b_1a : Option Addr) (b_1l : Nat) (b_1c : Nat) (t_5a : Option Addr) (t_5l : Nat) (t_5c : Nat) (i_6 : Int) (j_7 : Int) (k_8 : Int) (ρ : Env) (m : Mem) : l3B K1 K2 K3 a_0a a_0l a_0c b_1a b_1l b_1c t_5a t_5l t_5c i_6 j_7 k_8 R m = acpt P od (panicR R) (l3A K1 K2 K3 R) (thenQ (l3E K3) (l3Q K1 K2 R)) (upd (upd (upd (upd (upd (upd ρ 8 (.int .i64 k_8)) 7 (.int .i64 j_7)) 6 (.int .i64 i_6)) 5 (.slice t_5a t_5l t_5c)) 1 (.slice b_1a b_1l b_1c)) 0 (.slice a_0a a_0l a_0c)) m := by kernel_rfl
theorem l3_er (K1 : Option Addr → Nat → Nat → Option Addr → Nat → Nat → Option Addr → Nat → Nat → Int → Mem → Prop) (K2 : Option Addr → Nat → Nat → Option Addr → Nat → Nat → Option Addr → Nat → Nat → Int → Int → Mem → Prop) (K3 : Option Addr → Nat → Nat → Option Addr → Nat → Nat → Option Addr → Nat → Nat → Int → Int → Int → Mem → Prop) (R : Ending → Mem → Prop) : (l3A K1 K2 K3 R).erase = lP (bB (sR (bB (sL (sR (lP (bB (sR (bB (sL (sR (lP (bB (sR (sL (sR (sR (body)))))))))))))))))) := by kernel_rfl
theorem l3_ok (K1 : Option Addr → Nat → Nat → Option Addr → Nat → Nat → Option Addr → Nat → Nat → Int → Mem → Prop) (K2 : Option Addr → Nat → Nat → Option Addr → Nat → Nat → Option Addr → Nat → Nat → Int → Int → Mem → Prop) (R : Ending → Mem → Prop) (ρ : Env) (m : Mem) (h : (l3E fun a_0a a_0l a_0c b_1a b_1l b_1c t_5a t_5l t_5c i_6 j_7 k_8 m => l3 K1 K2 a_0a a_0l a_0c b_1a b_1l b_1c t_5a t_5l t_5c i_6 j_7 k_8 R m) ρ m) : cpt P od (panicR R) (.loop (lP (bB (sR (bB (sL (sR (lP (bB (sR (bB (sL (sR (lP (bB (sR (sL (sR (sR (body)))))))))))))))))))) (l3Q K1 K2 R) ρ m := by
  unfold l3E at h
  obtain ⟨a_0a, a_0l, a_0c, e0, h⟩ := h.ex
  obtain ⟨b_1a, b_1l, b_1c, e1, h⟩ := h.ex
  obtain ⟨t_5a, t_5l, t_5c, e5, h⟩ := h.ex
  obtain ⟨i_6, e6, h⟩ := h.ex
  obtain ⟨j_7, e7, h⟩ := h.ex
  obtain ⟨k_8, e8, h⟩ := h.ex
  obtain ⟨I, N, h0, hs⟩ := h
  refine ⟨fun N => l3E (I N), N, (by show l3E (I N) ρ m; unfold l3E; rw [e0, e1, e5, e6, e7, e8]; exact h0), ?_⟩
  clear h0 e0 e1 e5 e6 e7 e8
  intro N ρ m h
  unfold l3E at h
  obtain ⟨a_0a, a_0l, a_0c, e0, h⟩ := h.ex
  obtain ⟨b_1a, b_1l, b_1c, e1, h⟩ := h.ex
  obtain ⟨t_5a, t_5l, t_5c, e5, h⟩ := h.ex
  obtain ⟨i_6, e6, h⟩ := h.ex
  obtain ⟨j_7, e7, h⟩ := h.ex
  obtain ⟨k_8, e8, h⟩ := h.ex
  refine cpt_mono (P := P) (lP (bB (sR (bB (sL (sR (lP (bB (sR (bB (sL (sR (lP (bB (sR (sL (sR (sR (body))))))))))))))))))) (Q := thenQ (l3E fun a_0a a_0l a_0c b_1a b_1l b_1c t_5a t_5l t_5c i_6 j_7 k_8 m => ∃ N1, N1 < N ∧ I N1 a_0a a_0l a_0c b_1a b_1l b_1c t_5a t_5l t_5c i_6 j_7 k_8 m) (l3Q K1 K2 R)) (fun e ρ m h => ?_) ρ m ?_
  · cases e with
    | normal =>
      have h : l3E (fun a_0a a_0l a_0c b_1a b_1l b_1c t_5a t_5l t_5c i_6 j_7 k_8 m => ∃ N1, N1 < N ∧ I N1 a_0a a_0l a_0c b_1a b_1l b_1c t_5a t_5l t_5c i_6 j_7 k_8 m) ρ m := h
      unfold l3E at h
      obtain ⟨a_0a, a_0l, a_0c, e0, h⟩ := h.ex
      obtain ⟨b_1a, b_1l, b_1c, e1, h⟩ := h.ex
      obtain ⟨t_5a, t_5l, t_5c, e5, h⟩ := h.ex
      obtain ⟨i_6, e6, h⟩ := h.ex
      obtain ⟨j_7, e7, h⟩ := h.ex
      obtain ⟨k_8, e8, h⟩ := h.ex
      obtain ⟨N1, hlt, h⟩ := h
      exact ⟨N1, hlt, (by show l3E (I N1) ρ m; unfold l3E; rw [e0, e1, e5, e6, e7, e8]; exact h)⟩
    | _ => exact h
  have hh := hs N a_0a a_0l a_0c b_1a b_1l b_1c t_5a t_5l t_5c i_6 j_7 k_8 m h
  generalize (fun a_0a a_0l a_0c b_1a b_1l b_1c t_5a t_5l t_5c i_6 j_7 k_8 m => ∃ N1, N1 < N ∧ I N1 a_0a a_0l a_0c b_1a b_1l b_1c t_5a t_5l t_5c i_6 j_7 k_8 m : Option Addr → Nat → Nat → Option Addr → Nat → Nat → Option Addr → Nat → Nat → Int → Int → Int → Mem → Prop) = K3 at hh ⊢
  rw [← upd_self e0, ← upd_self e1, ← upd_self e5, ← upd_self e6, ← upd_self e7, ← upd_self e8]
  rw [← l3_er K1 K2 K3 R]
  refine acpt_sound (P := P) (l3A K1 K2 K3 R) _ _ _ True.intro ?_
  exact Eq.mp (l3_eq K1 K2 K3 R a_0a a_0l a_0c b_1a b_1l b_1c t_5a t_5l t_5c i_6 j_7 k_8 ρ m) hh
theorem l2_eq (K1 : Option Addr → Nat → Nat → Option Addr → Nat → Nat → Option Addr → Nat → Nat → Int → Mem → Prop) (K2 : Option Addr → Nat → Nat → Option Addr → Nat → Nat → Option Addr → Nat → Nat → Int → Int → Mem → Prop) (R : Ending → Mem → Prop) (a_0a : Option Addr) (a_0l : Nat) (a_0c : Nat) (b_1a : Option Addr) (b_1l : Nat) (b_1c : Nat) (t_5a : Option Addr) (t_5l : Nat) (t_5c : Nat) (i_6 : Int) (j_7 : Int) (ρ : Env) (m : Mem) : l2B K1 K2 a_0a a_0l a_0c b_1a b_1l b_1c t_5a t_5l t_5c i_6 j_7 R m = acpt P od (panicR R) (l2A K1 K2 R) (thenQ (l2E K2) (l2Q K1 R)) (upd (upd (upd (upd (upd ρ 7 (.int .i64 j_7)) 6 (.int .i64 i_6)) 5 (.slice t_5a t_5l t_5c)) 1 (.slice b_1a b_1l b_1c)) 0 (.slice a_0a a_0l a_0c)) m := by kernel_rfl
theorem l2_er (K1 : Option Addr → Nat → Nat → Option Addr → Nat → Nat → Option Addr → Nat → Nat → Int → Mem → Prop) (K2 : Option Addr → Nat → Nat → Option Addr → Nat → Nat → Option Addr → Nat → Nat → Int → Int → Mem → Prop) (R : Ending → Mem → Prop) : (l2A K1 K2 R).erase = lP (bB (sR (bB (sL (sR (lP (bB (sR (sL (sR (sR (body)))))))))))) := by kernel_rfl
theorem l2_ok (K1 : Option Addr → Nat → Nat → Option Addr → Nat → Nat → Option Addr → Nat → Nat → Int → Mem → Prop) (R : Ending → Mem → Prop) (ρ : Env) (m : Mem) (h : (l2E fun a_0a a_0l a_0c b_1a b_1l b_1c t_5a t_5l t_5c i_6 j_7 m => l2 K1 a_0a a_0l a_0c b_1a b_1l b_1c t_5a t_5l t_5c i_6 j_7 R m) ρ m) : cpt P od (panicR R) (.loop (lP (bB (sR (bB (sL (sR (lP (bB (sR (sL (sR (sR (body)))))))))))))) (l2Q K1 R) ρ m := by
  unfold l2E at h
  obtain ⟨a_0a, a_0l, a_0c, e0, h⟩ := h.ex
  obtain ⟨b_1a, b_1l, b_1c, e1, h⟩ := h.ex
  obtain ⟨t_5a, t_5l, t_5c, e5, h⟩ := h.ex
  obtain ⟨i_6, e6, h⟩ := h.ex
  obtain ⟨j_7, e7, h⟩ := h.ex
  obtain ⟨I, N, h0, hs⟩ := h
  refine ⟨fun N => l2E (I N), N, (by show l2E (I N) ρ m; unfold l2E; rw [e0, e1, e5, e6, e7]; exact h0), ?_⟩
  clear h0 e0 e1 e5 e6 e7
  intro N ρ m h
  unfold l2E at h
  obtain ⟨a_0a, a_0l, a_0c, e0, h⟩ := h.ex
  obtain ⟨b_1a, b_1l, b_1c, e1, h⟩ := h.ex
  obtain ⟨t_5a, t_5l, t_5c, e5, h⟩ := h.ex
  obtain ⟨i_6, e6, h⟩ := h.ex
  obtain ⟨j_7, e7, h⟩ := h.ex
  refine cpt_mono (P := P) (lP (bB (sR (bB (sL (sR (lP (bB (sR (sL (sR (sR (body))))))))))))) (Q := thenQ (l2E fun a_0a a_0l a_0c b_1a b_1l b_1c t_5a t_5l t_5c i_6 j_7 m => ∃ N1, N1 < N ∧ I N1 a_0a a_0l a_0c b_1a b_1l b_1c t_5a t_5l t_5c i_6 j_7 m) (l2Q K1 R)) (fun e ρ m h => ?_) ρ m ?_
  · cases e with
    | normal =>
      have h : l2E (fun a_0a a_0l a_0c b_1a b_1l b_1c t_5a t_5l t_5c i_6 j_7 m => ∃ N1, N1 < N ∧ I N1 a_0a a_0l a_0c b_1a b_1l b_1c t_5a t_5l t_5c i_6 j_7 m) ρ m := h
      unfold l2E at h
      obtain ⟨a_0a, a_0l, a_0c, e0, h⟩ := h.ex
      obtain ⟨b_1a, b_1l, b_1c, e1, h⟩ := h.ex
      obtain ⟨t_5a, t_5l, t_5c, e5, h⟩ := h.ex
      obtain ⟨i_6, e6, h⟩ := h.ex
      obtain ⟨j_7, e7, h⟩ := h.ex
      obtain ⟨N1, hlt, h⟩ := h
      exact ⟨N1, hlt, (by show l2E (I N1) ρ m; unfold l2E; rw [e0, e1, e5, e6, e7]; exact h)⟩
    | _ => exact h
  have hh := hs N a_0a a_0l a_0c b_1a b_1l b_1c t_5a t_5l t_5c i_6 j_7 m h
  generalize (fun a_0a a_0l a_0c b_1a b_1l b_1c t_5a t_5l t_5c i_6 j_7 m => ∃ N1, N1 < N ∧ I N1 a_0a a_0l a_0c b_1a b_1l b_1c t_5a t_5l t_5c i_6 j_7 m : Option Addr → Nat → Nat → Option Addr → Nat → Nat → Option Addr → Nat → Nat → Int → Int → Mem → Prop) = K2 at hh ⊢
  rw [← upd_self e0, ← upd_self e1, ← upd_self e5, ← upd_self e6, ← upd_self e7]
  rw [← l2_er K1 K2 R]
  refine acpt_sound (P := P) (l2A K1 K2 R) _ _ _ ⟨⟨True.intro, ⟨(fun ρ m h => l3_ok K1 K2 R ρ m h), True.intro⟩⟩, True.intro⟩ ?_
  exact Eq.mp (l2_eq K1 K2 R a_0a a_0l a_0c b_1a b_1l b_1c t_5a t_5l t_5c i_6 j_7 ρ m) hh
theorem l1_eq  (K1 : Option Addr → Nat → Nat → Option Addr → Nat → Nat → Option Addr → Nat → Nat → Int → Mem → Prop) (R : Ending → Mem → Prop) (a_0a : Option Addr) (a_0l : Nat) (a_0c : Nat) (b_1a : Option Addr) (b_1l : Nat) (b_1c : Nat) (t_5a : Option Addr) (t_5l : Nat) (t_5c : Nat) (i_6 : Int) (ρ : Env) (m : Mem) : l1B  K1 a_0a a_0l a_0c b_1a b_1l b_1c t_5a t_5l t_5c i_6 R m = acpt P od (panicR R) (l1A  K1 R) (thenQ (l1E K1) (l1Q  R)) (upd (upd (upd (upd ρ 6 (.int .i64 i_6)) 5 (.slice t_5a t_5l t_5c)) 1 (.slice b_1a b_1l b_1c)) 0 (.slice a_0a a_0l a_0c)) m := by kernel_rfl
theorem l1_er  (K1 : Option Addr → Nat → Nat → Option Addr → Nat → Nat → Option Addr → Nat → Nat → Int → Mem → Prop) (R : Ending → Mem → Prop) : (l1A  K1 R).erase = lP (bB (sR (sL (sR (sR (body)))))) := by kernel_rfl
theorem l1_ok  (R : Ending → Mem → Prop) (ρ : Env) (m : Mem) (h : (l1E fun a_0a a_0l a_0c b_1a b_1l b_1c t_5a t_5l t_5c i_6 m => l1  a_0a a_0l a_0c b_1a b_1l b_1c t_5a t_5l t_5c i_6 R m) ρ m) : cpt P od (panicR R) (.loop (lP (bB (sR (sL (sR (sR (body)))))))) (l1Q  R) ρ m := by
  unfold l1E at h
  obtain ⟨a_0a, a_0l, a_0c, e0, h⟩ := h.ex
  obtain ⟨b_1a, b_1l, b_1c, e1, h⟩ := h.ex
  obtain ⟨t_5a, t_5l, t_5c, e5, h⟩ := h.ex
  obtain ⟨i_6, e6, h⟩ := h.ex
  obtain ⟨I, N, h0, hs⟩ := h
  refine ⟨fun N => l1E (I N), N, (by show l1E (I N) ρ m; unfold l1E; rw [e0, e1, e5, e6]; exact h0), ?_⟩
  clear h0 e0 e1 e5 e6
  intro N ρ m h
  unfold l1E at h
  obtain ⟨a_0a, a_0l, a_0c, e0, h⟩ := h.ex
  obtain ⟨b_1a, b_1l, b_1c, e1, h⟩ := h.ex
  obtain ⟨t_5a, t_5l, t_5c, e5, h⟩ := h.ex
  obtain ⟨i_6, e6, h⟩ := h.ex
  refine cpt_mono (P := P) (lP (bB (sR (sL (sR (sR (body))))))) (Q := thenQ (l1E fun a_0a a_0l a_0c b_1a b_1l b_1c t_5a t_5l t_5c i_6 m => ∃ N1, N1 < N ∧ I N1 a_0a a_0l a_0c b_1a b_1l b_1c t_5a t_5l t_5c i_6 m) (l1Q  R)) (fun e ρ m h => ?_) ρ m ?_
  · cases e with
    | normal =>
      have h : l1E (fun a_0a a_0l a_0c b_1a b_1l b_1c t_5a t_5l t_5c i_6 m => ∃ N1, N1 < N ∧ I N1 a_0a a_0l a_0c b_1a b_1l b_1c t_5a t_5l t_5c i_6 m) ρ m := h
      unfold l1E at h
      obtain ⟨a_0a, a_0l, a_0c, e0, h⟩ := h.ex
      obtain ⟨b_1a, b_1l, b_1c, e1, h⟩ := h.ex
      obtain ⟨t_5a, t_5l, t_5c, e5, h⟩ := h.ex
      obtain ⟨i_6, e6, h⟩ := h.ex
      obtain ⟨N1, hlt, h⟩ := h
      exact ⟨N1, hlt, (by show l1E (I N1) ρ m; unfold l1E; rw [e0, e1, e5, e6]; exact h)⟩
    | _ => exact h
  have hh := hs N a_0a a_0l a_0c b_1a b_1l b_1c t_5a t_5l t_5c i_6 m h
  generalize (fun a_0a a_0l a_0c b_1a b_1l b_1c t_5a t_5l t_5c i_6 m => ∃ N1, N1 < N ∧ I N1 a_0a a_0l a_0c b_1a b_1l b_1c t_5a t_5l t_5c i_6 m : Option Addr → Nat → Nat → Option Addr → Nat → Nat → Option Addr → Nat → Nat → Int → Mem → Prop) = K1 at hh ⊢
  rw [← upd_self e0, ← upd_self e1, ← upd_self e5, ← upd_self e6]
  rw [← l1_er  K1 R]
  refine acpt_sound (P := P) (l1A  K1 R) _ _ _ ⟨⟨True.intro, ⟨(fun ρ m h => l2_ok K1 R ρ m h), True.intro⟩⟩, True.intro⟩ ?_
  exact Eq.mp (l1_eq  K1 R a_0a a_0l a_0c b_1a b_1l b_1c t_5a t_5l t_5c i_6 ρ m) hh
theorem e0_eq (a_0a : Option Addr) (a_0l : Nat) (a_0c : Nat) (b_1a : Option Addr) (b_1l : Nat) (b_1c : Nat) (R : Ending → Mem → Prop) (m : Mem) : e0 a_0a a_0l a_0c b_1a b_1l b_1c R m = acpt P od (panicR R) (e0A R) (bodyQ P fn R) (argE (#[.slice a_0a a_0l a_0c, .slice b_1a b_1l b_1c] : Array Value).toList) m := by kernel_rfl
theorem ok (a_0a : Option Addr) (a_0l : Nat) (a_0c : Nat) (b_1a : Option Addr) (b_1l : Nat) (b_1c : Nat) (R : Ending → Mem → Prop) (m : Mem) (h : e0 a_0a a_0l a_0c b_1a b_1l b_1c R m) : HC P id #[.slice a_0a a_0l a_0c, .slice b_1a b_1l b_1c] m R := by
  refine HC_of (fn := fn) (c := body) (od := od) (tb := tb) Go.Proofs.Try.func39 (by kernel_rfl) (by kernel_rfl) follows (by kernel_rfl) (of_decide_eq_true (by kernel_rfl)) ?_
  have he : (e0A R).erase = body := by kernel_rfl
  rw [← he]
  refine acpt_sound (P := P) (e0A R) _ _ _ ⟨⟨⟨True.intro, ⟨(fun ρ m h => l1_ok  R ρ m h), True.intro⟩⟩, True.intro⟩, True.intro⟩ ?_
  exact Eq.mp (e0_eq a_0a a_0l a_0c b_1a b_1l b_1c R m) h
end eyotref8_behind
/-! ### eyot/regex.sign -/
namespace regex_sign
noncomputable def fn : Func := Go.Proofs.Try.f40
noncomputable def body : Code := fn.body.getD .skip
def od : Nat → Ord := fun _ => .done
def tb : Nat → Tab := fun _ => (0, [], [])
def e0 (kind_0 : Int) (R : Ending → Mem → Prop) (m : Mem) : Prop :=
 Br (decide (kind_0 ≥ 4)) (
  R (.returned (.bool (decide (kind_0 ≤ 6)))) m) (
  R (.returned (.bool false)) m)
noncomputable def e0A (R : Ending → Mem → Prop) : ACode := (.code (body))
theorem e0_eq (kind_0 : Int) (R : Ending → Mem → Prop) (m : Mem) : e0 kind_0 R m = acpt P od (panicR R) (e0A R) (bodyQ P fn R) (argE (#[.int .i64 kind_0] : Array Value).toList) m := by kernel_rfl
theorem ok (kind_0 : Int) (R : Ending → Mem → Prop) (m : Mem) (h : e0 kind_0 R m) : HC P id #[.int .i64 kind_0] m R := by
  refine HC_of (fn := fn) (c := body) (od := od) (tb := tb) Go.Proofs.Try.func40 (by kernel_rfl) (by kernel_rfl) follows (by kernel_rfl) (of_decide_eq_true (by kernel_rfl)) ?_
  have he : (e0A R).erase = body := by kernel_rfl
  rw [← he]
  refine acpt_sound (P := P) (e0A R) _ _ _ True.intro ?_
  exact Eq.mp (e0_eq kind_0 R m) h
end regex_sign
/-! ### slices.Concat[[]int,int] -/
namespace slices_Concat_s_int_int
noncomputable def fn : Func := Go.Proofs.Try.f41
noncomputable def body : Code := fn.body.getD .skip
def od : Nat → Ord := fun _ => .done
def tb : Nat → Tab := fun _ => (0, [], [])
def l3E (K : Option Addr → Nat → Nat → Option Addr → Nat → Nat → Int → Int → Mem → Prop) : Env → Mem → Prop := fun ρ m => UnS (ρ 6) fun newslice_6a newslice_6l newslice_6c => UnS (ρ 25) fun x25a x25l x25c => UnI (ρ 26) .i64 fun x26 => UnI (ρ 27) .i64 fun x27 => K newslice_6a newslice_6l newslice_6c x25a x25l x25c x26 x27 m
def l3B  (K3 : Option Addr → Nat → Nat → Option Addr → Nat → Nat → Int → Int → Mem → Prop) (newslice_6a : Option Addr) (newslice_6l : Nat) (newslice_6c : Nat) (x25a : Option Addr) (x25l : Nat) (x25c : Nat) (x26 : Int) (x27 : Int) (R : Ending → Mem → Prop) (m : Mem) : Prop :=
 Br (decide (x27 < x26)) (
  IxS x25a x25l x27 1 fun x29b x29o =>
  LdV m x29b x29o fun v =>
  UnS v fun x30a x30l x30c =>
  BiN P .append #[T_sl_int, T_sl_int] T_sl_int #[false, false] #[.slice newslice_6a newslice_6l newslice_6c, .slice x30a x30l x30c] m (fun w m1 =>
   UnS w fun x33a x33l x33c =>
   K3 x33a x33l x33c x25a x25l x25c x26 (IntKind.i64.wrap (x27 + 1)) m1) (panicR R)) (
  R (.returned (.slice newslice_6a newslice_6l newslice_6c)) m)
def l3  (newslice_6a : Option Addr) (newslice_6l : Nat) (newslice_6c : Nat) (x25a : Option Addr) (x25l : Nat) (x25c : Nat) (x26 : Int) (x27 : Int) (R : Ending → Mem → Prop) (m : Mem) : Prop :=
  ∃ (I : Nat → Option Addr → Nat → Nat → Option Addr → Nat → Nat → Int → Int → Mem → Prop) (N : Nat), I N newslice_6a newslice_6l newslice_6c x25a x25l x25c x26 x27 m ∧ ∀ N newslice_6a newslice_6l newslice_6c x25a x25l x25c x26 x27 m, I N newslice_6a newslice_6l newslice_6c x25a x25l x25c x26 x27 m → l3B  (fun newslice_6a newslice_6l newslice_6c x25a x25l x25c x26 x27 m => ∃ N1, N1 < N ∧ I N1 newslice_6a newslice_6l newslice_6c x25a x25l x25c x26 x27 m) newslice_6a newslice_6l newslice_6c x25a x25l x25c x26 x27 R m
noncomputable def l3A  (K3 : Option Addr → Nat → Nat → Option Addr → Nat → Nat → Int → Int → Mem → Prop) (R : Ending → Mem → Prop) : ACode := (.code (lP (bB (sR (sL (sR (sR (sR (sR (body))))))))))
def k2E (K : Option Addr → Nat → Nat → Int → Mem → Prop) : Env → Mem → Prop := fun ρ m => UnS (ρ 0) fun slices_0a slices_0l slices_0c => UnI (ρ 3) .i64 fun size_3 => K slices_0a slices_0l slices_0c size_3 m
def k2  (slices_0a : Option Addr) (slices_0l : Nat) (slices_0c : Nat) (size_3 : Int) (R : Ending → Mem → Prop) (m : Mem) : Prop :=
 HC P slices_Grow_s_int_int.id #[.slice none 0 0, .int .i64 size_3] m (Cont (fun v m1 =>
   UnS v fun x24a x24l x24c =>
   l3  x24a x24l x24c slices_0a slices_0l slices_0c ((slices_0l : Nat) : Int) 0 R m1) (panicR R))
noncomputable def k2A  (R : Ending → Mem → Prop) : ACode := (.seq (.code (sL (sR (sR (sR (body)))))) (.seq (.seq (.code (sL (sL (sR (sR (sR (sR (body)))))))) (.block 2 (.cut (l3E fun newslice_6a newslice_6l newslice_6c x25a x25l x25c x26 x27 m => l3  newslice_6a newslice_6l newslice_6c x25a x25l x25c x26 x27 R m) (.loop (lP (bB (sR (sL (sR (sR (sR (sR (body))))))))))))) (.code (sR (sR (sR (sR (sR (body)))))))))
def l1E (K : Option Addr → Nat → Nat → Int → Option Addr → Nat → Nat → Int → Int → Mem → Prop) : Env → Mem → Prop := fun ρ m => UnS (ρ 0) fun slices_0a slices_0l slices_0c => UnI (ρ 3) .i64 fun size_3 => UnS (ρ 9) fun x9a x9l x9c => UnI (ρ 10) .i64 fun x10 => UnI (ρ 11) .i64 fun x11 => K slices_0a slices_0l slices_0c size_3 x9a x9l x9c x10 x11 m
def l1B  (K1 : Option Addr → Nat → Nat → Int → Option Addr → Nat → Nat → Int → Int → Mem → Prop) (slices_0a : Option Addr) (slices_0l : Nat) (slices_0c : Nat) (size_3 : Int) (x9a : Option Addr) (x9l : Nat) (x9c : Nat) (x10 : Int) (x11 : Int) (R : Ending → Mem → Prop) (m : Mem) : Prop :=
 Br (decide (x11 < x10)) (
  IxS x9a x9l x11 1 fun x13b x13o =>
  LdV m x13b x13o fun v =>
  UnS v fun x14a x14l x14c =>
  Br (decide ((IntKind.i64.wrap (size_3 + ((x14l : Nat) : Int))) < 0)) (
   R (.panicked [{ v := .iface T_string (.string (ByteArray.mk #[108, 101, 110, 32, 111, 117, 116, 32, 111, 102, 32, 114, 97, 110, 103, 101])), recovered := false }]) m) (
   K1 slices_0a slices_0l slices_0c (IntKind.i64.wrap (size_3 + ((x14l : Nat) : Int))) x9a x9l x9c x10 (IntKind.i64.wrap (x11 + 1)) m)) (
  k2  slices_0a slices_0l slices_0c size_3 R m)
def l1  (slices_0a : Option Addr) (slices_0l : Nat) (slices_0c : Nat) (size_3 : Int) (x9a : Option Addr) (x9l : Nat) (x9c : Nat) (x10 : Int) (x11 : Int) (R : Ending → Mem → Prop) (m : Mem) : Prop :=
  ∃ (I : Nat → Option Addr → Nat → Nat → Int → Option Addr → Nat → Nat → Int → Int → Mem → Prop) (N : Nat), I N slices_0a slices_0l slices_0c size_3 x9a x9l x9c x10 x11 m ∧ ∀ N slices_0a slices_0l slices_0c size_3 x9a x9l x9c x10 x11 m, I N slices_0a slices_0l slices_0c size_3 x9a x9l x9c x10 x11 m → l1B  (fun slices_0a slices_0l slices_0c size_3 x9a x9l x9c x10 x11 m => ∃ N1, N1 < N ∧ I N1 slices_0a slices_0l slices_0c size_3 x9a x9l x9c x10 x11 m) slices_0a slices_0l slices_0c size_3 x9a x9l x9c x10 x11 R m
noncomputable def l1A  (K1 : Option Addr → Nat → Nat → Int → Option Addr → Nat → Nat → Int → Int → Mem → Prop) (R : Ending → Mem → Prop) : ACode := (.code (lP (bB (sR (sL (sR (sR (body))))))))
def e0 (slices_0a : Option Addr) (slices_0l : Nat) (slices_0c : Nat) (R : Ending → Mem → Prop) (m : Mem) : Prop :=
 l1  slices_0a slices_0l slices_0c 0 slices_0a slices_0l slices_0c ((slices_0l : Nat) : Int) 0 R m
noncomputable def e0A (R : Ending → Mem → Prop) : ACode := (.seq (.code (sL (body))) (.seq (.code (sL (sR (body)))) (.seq (.seq (.code (sL (sL (sR (sR (body)))))) (.block 0 (.cut (l1E fun slices_0a slices_0l slices_0c size_3 x9a x9l x9c x10 x11 m => l1  slices_0a slices_0l slices_0c size_3 x9a x9l x9c x10 x11 R m) (.loop (lP (bB (sR (sL (sR (sR (body))))))))))) (.cut (k2E fun slices_0a slices_0l slices_0c size_3 m => k2  slices_0a slices_0l slices_0c size_3 R m) (sR (sR (sR (body))))))))
abbrev k2Q  (R : Ending → Mem → Prop) : Exit → Env → Mem → Prop := (bodyQ P fn R)
abbrev l1Q  (R : Ending → Mem → Prop) : Exit → Env → Mem → Prop := (blockQ 0 (thenQ (acpt P od (panicR R) (.cut (k2E fun slices_0a slices_0l slices_0c size_3 m => k2  slices_0a slices_0l slices_0c size_3 R m) (sR (sR (sR (body))))) (bodyQ P fn R)) (bodyQ P fn R)))
abbrev l3Q  (R : Ending → Mem → Prop) : Exit → Env → Mem → Prop := (blockQ 2 (thenQ (acpt P od (panicR R) (.code (sR (sR (sR (sR (sR (body))))))) (k2Q  R)) (k2Q  R)))
theorem l3_eq  (K3 : Option Addr → Nat → Nat → Option Addr → Nat → Nat → Int → Int → Mem → Prop) (R : Ending → Mem → Prop) (newslice_6a : Option Addr) (newslice_6l : Nat) (newslice_6c : Nat) (x25a : Option Addr) (x25l : Nat) (x25c : Nat) (x26 : Int) (x27 : Int) (ρ : Env) (m : Mem) : l3B  K3 newslice_6a newslice_6l newslice_6c x25a x25l x25c x26 x27 R m = acpt P od (panicR R) (l3A  K3 R) (thenQ (l3E K3) (l3Q  R)) (upd (upd (upd (upd ρ 27 (.int .i64 x27)) 26 (.int .i64 x26)) 25 (.slice x25a x25l x25c)) 6 (.slice newslice_6a newslice_6l newslice_6c)) m := by kernel_rfl
theorem l3_er  (K3 : Option Addr → Nat → Nat → Option Addr → Nat → Nat → Int → Int → Mem → Prop) (R : Ending → Mem → Prop) : (l3A  K3 R).erase = lP (bB (sR (sL (sR (sR (sR (sR (body)))))))) := by kernel_rfl
theorem l3_ok  (R : Ending → Mem → Prop) (ρ : Env) (m : Mem) (h : (l3E fun newslice_6a newslice_6l newslice_6c x25a x25l x25c x26 x27 m => l3  newslice_6a newslice_6l newslice_6c x25a x25l x25c x26 x27 R m) ρ m) : cpt P od (panicR R) (.loop (lP (bB (sR (sL (sR (sR (sR (sR (body)))))))))) (l3Q  R) ρ m := by
  unfold l3E at h
  obtain ⟨newslice_6a, newslice_6l, newslice_6c, e6, h⟩ := h.ex
  obtain ⟨x25a, x25l, x25c, e25, h⟩ := h.ex
  obtain ⟨x26, e26, h⟩ := h.ex
  obtain ⟨x27, e27, h⟩ := h.ex
  obtain ⟨I, N, h0, hs⟩ := h
  refine ⟨fun N => l3E (I N), N, (by show l3E (I N) ρ m; unfold l3E; rw [e6, e25, e26, e27]; exact h0), ?_⟩
  clear h0 e6 e25 e26 e27
  intro N ρ m h
  unfold l3E at h
  obtain ⟨newslice_6a, newslice_6l, newslice_6c, e6, h⟩ := h.ex
  obtain ⟨x25a, x25l, x25c, e25, h⟩ := h.ex
  obtain ⟨x26, e26, h⟩ := h.ex
  obtain ⟨x27, e27, h⟩ := h.ex
  refine cpt_mono (P := P) (lP (bB (sR (sL (sR (sR (sR (sR (body))))))))) (Q := thenQ (l3E fun newslice_6a newslice_6l newslice_6c x25a x25l x25c x26 x27 m => ∃ N1, N1 < N ∧ I N1 newslice_6a newslice_6l newslice_6c x25a x25l x25c x26 x27 m) (l3Q  R)) (fun e ρ m h => ?_) ρ m ?_
  · cases e with
    | normal =>
      have h : l3E (fun newslice_6a newslice_6l newslice_6c x25a x25l x25c x26 x27 m => ∃ N1, N1 < N ∧ I N1 newslice_6a newslice_6l newslice_6c x25a x25l x25c x26 x27 m) ρ m := h
      unfold l3E at h
      obtain ⟨newslice_6a, newslice_6l, newslice_6c, e6, h⟩ := h.ex
      obtain ⟨x25a, x25l, x25c, e25, h⟩ := h.ex
      obtain ⟨x26, e26, h⟩ := h.ex
      obtain ⟨x27, e27, h⟩ := h.ex
      obtain ⟨N1, hlt, h⟩ := h
      exact ⟨N1, hlt, (by show l3E (I N1) ρ m; unfold l3E; rw [e6, e25, e26, e27]; exact h)⟩
    | _ => exact h
  have hh := hs N newslice_6a newslice_6l newslice_6c x25a x25l x25c x26 x27 m h
  generalize (fun newslice_6a newslice_6l newslice_6c x25a x25l x25c x26 x27 m => ∃ N1, N1 < N ∧ I N1 newslice_6a newslice_6l newslice_6c x25a x25l x25c x26 x27 m : Option Addr → Nat → Nat → Option Addr → Nat → Nat → Int → Int → Mem → Prop) = K3 at hh ⊢
  rw [← upd_self e6, ← upd_self e25, ← upd_self e26, ← upd_self e27]
  rw [← l3_er  K3 R]
  refine acpt_sound (P := P) (l3A  K3 R) _ _ _ True.intro ?_
  exact Eq.mp (l3_eq  K3 R newslice_6a newslice_6l newslice_6c x25a x25l x25c x26 x27 ρ m) hh
theorem k2_eq  (R : Ending → Mem → Prop) (slices_0a : Option Addr) (slices_0l : Nat) (slices_0c : Nat) (size_3 : Int) (ρ : Env) (m : Mem) : k2  slices_0a slices_0l slices_0c size_3 R m = acpt P od (panicR R) (k2A  R) (k2Q  R) (upd (upd ρ 3 (.int .i64 size_3)) 0 (.slice slices_0a slices_0l slices_0c)) m := by kernel_rfl
theorem k2_er  (R : Ending → Mem → Prop) : (k2A  R).erase = sR (sR (sR (body))) := by kernel_rfl
theorem k2_ok  (R : Ending → Mem → Prop) (ρ : Env) (m : Mem) (h : (k2E fun slices_0a slices_0l slices_0c size_3 m => k2  slices_0a slices_0l slices_0c size_3 R m) ρ m) : cpt P od (panicR R) (sR (sR (sR (body)))) (k2Q  R) ρ m := by
  unfold k2E at h
  obtain ⟨slices_0a, slices_0l, slices_0c, e0, h⟩ := h.ex
  obtain ⟨size_3, e3, h⟩ := h.ex
  rw [← upd_self e0, ← upd_self e3]
  rw [← k2_er  R]
  refine acpt_sound (P := P) (k2A  R) _ _ _ ⟨⟨True.intro, ⟨(fun ρ m h => l3_ok  R ρ m h), True.intro⟩⟩, True.intro⟩ ?_
  exact Eq.mp (k2_eq  R slices_0a slices_0l slices_0c size_3 ρ m) h
theorem l1_eq  (K1 : Option Addr → Nat → Nat → Int → Option Addr → Nat → Nat → Int → Int → Mem → Prop) (R : Ending → Mem → Prop) (slices_0a : Option Addr) (slices_0l : Nat) (slices_0c : Nat) (size_3 : Int) (x9a : Option Addr) (x9l : Nat) (x9c : Nat) (x10 : Int) (x11 : Int) (ρ : Env) (m : Mem) : l1B  K1 slices_0a slices_0l slices_0c size_3 x9a x9l x9c x10 x11 R m = acpt P od (panicR R) (l1A  K1 R) (thenQ (l1E K1) (l1Q  R)) (upd (upd (upd (upd (upd ρ 11 (.int .i64 x11)) 10 (.int .i64 x10)) 9 (.slice x9a x9l x9c)) 3 (.int .i64 size_3)) 0 (.slice slices_0a slices_0l slices_0c)) m := by kernel_rfl
theorem l1_er  (K1 : Option Addr → Nat → Nat → Int → Option Addr → Nat → Nat → Int → Int → Mem → Prop) (R : Ending → Mem → Prop) : (l1A  K1 R).erase = lP (bB (sR (sL (sR (sR (body)))))) := by kernel_rfl
theorem l1_ok  (R : Ending → Mem → Prop) (ρ : Env) (m : Mem) (h : (l1E fun slices_0a slices_0l slices_0c size_3 x9a x9l x9c x10 x11 m => l1  slices_0a slices_0l slices_0c size_3 x9a x9l x9c x10 x11 R m) ρ m) : cpt P od (panicR R) (.loop (lP (bB (sR (sL (sR (sR (body)))))))) (l1Q  R) ρ m := by
  unfold l1E at h
  obtain ⟨slices_0a, slices_0l, slices_0c, e0, h⟩ := h.ex
  obtain ⟨size_3, e3, h⟩ := h.ex
  obtain ⟨x9a, x9l, x9c, e9, h⟩ := h.ex
  obtain ⟨x10, e10, h⟩ := h.ex
  obtain ⟨x11, e11, h⟩ := h.ex
  obtain ⟨I, N, h0, hs⟩ := h
  refine ⟨fun N => l1E (I N), N, (by show l1E (I N) ρ m; unfold l1E; rw [e0, e3, e9, e10, e11]; exact h0), ?_⟩
  clear h0 e0 e3 e9 e10 e11
  intro N ρ m h
  unfold l1E at h
  obtain ⟨slices_0a, slices_0l, slices_0c, e0, h⟩ := h.ex
  obtain ⟨size_3, e3, h⟩ := h.ex
  obtain ⟨x9a, x9l, x9c, e9, h⟩ := h.ex
  obtain ⟨x10, e10, h⟩ := h.ex
  obtain ⟨x11, e11, h⟩ := h.ex
  refine cpt_mono (P := P) (lP (bB (sR (sL (sR (sR (body))))))) (Q := thenQ (l1E fun slices_0a slices_0l slices_0c size_3 x9a x9l x9c x10 x11 m => ∃ N1, N1 < N ∧ I N1 slices_0a slices_0l slices_0c size_3 x9a x9l x9c x10 x11 m) (l1Q  R)) (fun e ρ m h => ?_) ρ m ?_
  · cases e with
    | normal =>
      have h : l1E (fun slices_0a slices_0l slices_0c size_3 x9a x9l x9c x10 x11 m => ∃ N1, N1 < N ∧ I N1 slices_0a slices_0l slices_0c size_3 x9a x9l x9c x10 x11 m) ρ m := h
      unfold l1E at h
      obtain ⟨slices_0a, slices_0l, slices_0c, e0, h⟩ := h.ex
      obtain ⟨size_3, e3, h⟩ := h.ex
      obtain ⟨x9a, x9l, x9c, e9, h⟩ := h.ex
      obtain ⟨x10, e10, h⟩ := h.ex
      obtain ⟨x11, e11, h⟩ := h.ex
      obtain ⟨N1, hlt, h⟩ := h
      exact ⟨N1, hlt, (by show l1E (I N1) ρ m; unfold l1E; rw [e0, e3, e9, e10, e11]; exact h)⟩
    | _ => exact h
  have hh := hs N slices_0a slices_0l slices_0c size_3 x9a x9l x9c x10 x11 m h
  generalize (fun slices_0a slices_0l slices_0c size_3 x9a x9l x9c x10 x11 m => ∃ N1, N1 < N ∧ I N1 slices_0a slices_0l slices_0c size_3 x9a x9l x9c x10 x11 m : Option Addr → Nat → Nat → Int → Option Addr → Nat → Nat → Int → Int → Mem → Prop) = K1 at hh ⊢
  rw [← upd_self e0, ← upd_self e3, ← upd_self e9, ← upd_self e10, ← upd_self e11]
  rw [← l1_er  K1 R]
  refine acpt_sound (P := P) (l1A  K1 R) _ _ _ True.intro ?_
  exact Eq.mp (l1_eq  K1 R slices_0a slices_0l slices_0c size_3 x9a x9l x9c x10 x11 ρ m) hh
theorem e0_eq (slices_0a : Option Addr) (slices_0l : Nat) (slices_0c : Nat) (R : Ending → Mem → Prop) (m : Mem) : e0 slices_0a slices_0l slices_0c R m = acpt P od (panicR R) (e0A R) (bodyQ P fn R) (argE (#[.slice slices_0a slices_0l slices_0c] : Array Value).toList) m := by kernel_rfl
theorem ok (slices_0a : Option Addr) (slices_0l : Nat) (slices_0c : Nat) (R : Ending → Mem → Prop) (m : Mem) (h : e0 slices_0a slices_0l slices_0c R m) : HC P id #[.slice slices_0a slices_0l slices_0c] m R := by
  refine HC_of (fn := fn) (c := body) (od := od) (tb := tb) Go.Proofs.Try.func41 (by kernel_rfl) (by kernel_rfl) follows (by kernel_rfl) (of_decide_eq_true (by kernel_rfl)) ?_
  have he : (e0A R).erase = body := by kernel_rfl
  rw [← he]
  refine acpt_sound (P := P) (e0A R) _ _ _ ⟨⟨⟨(fun ρ m h => k2_ok  R ρ m h), ⟨(fun ρ m h => l1_ok  R ρ m h), True.intro⟩⟩, True.intro⟩, True.intro⟩ ?_
  exact Eq.mp (e0_eq slices_0a slices_0l slices_0c R m) h
end slices_Concat_s_int_int
/-! ### slices.Grow[[]int,int] -/
namespace slices_Grow_s_int_int
noncomputable def fn : Func := Go.Proofs.Try.f45
noncomputable def body : Code := fn.body.getD .skip
def od : Nat → Ord := fun _ => .done
def tb : Nat → Tab := fun _ => (0, [], [])
def e0 (s_0a : Option Addr) (s_0l : Nat) (s_0c : Nat) (n_1 : Int) (R : Ending → Mem → Prop) (m : Mem) : Prop :=
 Br (decide (n_1 < 0)) (
  R (.panicked [{ v := .iface T_string (.string (ByteArray.mk #[99, 97, 110, 110, 111, 116, 32, 98, 101, 32, 110, 101, 103, 97, 116, 105, 118, 101])), recovered := false }]) m) (
  Br (decide ((IntKind.i64.wrap (n_1 - (IntKind.i64.wrap (((s_0c : Nat) : Int) - ((s_0l : Nat) : Int))))) > 0)) (
   SlS s_0a s_0c 0 ((s_0c : Nat) : Int) 1 fun x20a x20l x20c =>
   BiN P .append #[T_sl_int, T_int] T_sl_int #[false, false] #[.slice x20a x20l x20c, .int .i64 (IntKind.i64.wrap (n_1 - (IntKind.i64.wrap (((s_0c : Nat) : Int) - ((s_0l : Nat) : Int)))))] m (fun w m1 =>
    UnS w fun x22a x22l x22c =>
    SlS x22a x22c 0 ((s_0l : Nat) : Int) 1 fun x25a x25l x25c =>
    R (.returned (.slice x25a x25l x25c)) m1) (panicR R)) (
   R (.returned (.slice s_0a s_0l s_0c)) m))
noncomputable def e0A (R : Ending → Mem → Prop) : ACode := (.code (body))
theorem e0_eq (s_0a : Option Addr) (s_0l : Nat) (s_0c : Nat) (n_1 : Int) (R : Ending → Mem → Prop) (m : Mem) : e0 s_0a s_0l s_0c n_1 R m = acpt P od (panicR R) (e0A R) (bodyQ P fn R) (argE (#[.slice s_0a s_0l s_0c, .int .i64 n_1] : Array Value).toList) m := by kernel_rfl
theorem ok (s_0a : Option Addr) (s_0l : Nat) (s_0c : Nat) (n_1 : Int) (R : Ending → Mem → Prop) (m : Mem) (h : e0 s_0a s_0l s_0c n_1 R m) : HC P id #[.slice s_0a s_0l s_0c, .int .i64 n_1] m R := by
  refine HC_of (fn := fn) (c := body) (od := od) (tb := tb) Go.Proofs.Try.func45 (by kernel_rfl) (by kernel_rfl) follows (by kernel_rfl) (of_decide_eq_true (by kernel_rfl)) ?_
  have he : (e0A R).erase = body := by kernel_rfl
  rw [← he]
  refine acpt_sound (P := P) (e0A R) _ _ _ True.intro ?_
  exact Eq.mp (e0_eq s_0a s_0l s_0c n_1 R m) h
end slices_Grow_s_int_int
end
end Go.E
set_option linter.unusedVariables false
namespace Go.H
section
variable {P : Program} {m : Mem}
theorem pt_pure {α : Type} (a : α) (Q : α → Mem → Prop) (E : Value → Mem → Prop) : pt P (pure a : Sem α) Q E m = Q a m := rfl
theorem pt_under {t : TypeId} {d : TypeDesc} (h : P.underlying t = some d) (Q : TypeDesc → Mem → Prop) (E : Value → Mem → Prop) : pt P (underlying t) Q E m = Q d m := by
  show pt P ((Sem.program .pure).bind _) Q E m = _
  simp only [Sem.bind, pt, h]; rfl
theorem pt_typeInfo {t : TypeId} {i : TypeInfo} (h : P.info? t = some i) (Q : TypeInfo → Mem → Prop) (E : Value → Mem → Prop) : pt P (typeInfo t) Q E m = Q i m := by
  show pt P ((Sem.program .pure).bind _) Q E m = _
  simp only [Sem.bind, pt, h]; rfl
theorem pt_sizeOf {t : TypeId} {i : TypeInfo} (h : P.info? t = some i) (Q : Nat → Mem → Prop) (E : Value → Mem → Prop) : pt P (Go.sizeOf t) Q E m = Q i.size m := by
  unfold Go.sizeOf; rw [pt_bind, pt_typeInfo h]; rfl
theorem pt_zero {t : TypeId} {i : TypeInfo} {z : Value} (h : P.info? t = some i) (hz : i.zero = some z) (Q : Value → Mem → Prop) (E : Value → Mem → Prop) : pt P (zeroValue t) Q E m = Q z m := by
  unfold zeroValue; rw [pt_bind, pt_typeInfo h]; simp only [hz]; rfl
theorem pt_newRow (e : TypeId) (c : Array Value) (Q : Addr → Mem → Prop) (E : Value → Mem → Prop) : pt P (newRow e c) Q E m = ∀ b, m b = none → Q ⟨b, 0, none⟩ (m.set b (.cells c e (0, 0))) := by
  unfold newRow newObj; rw [pt_bind]; rfl
theorem pt_ite {α : Type} (c : Prop) [Decidable c] (x y : Sem α) (Q : α → Mem → Prop) (E : Value → Mem → Prop) : pt P (if c then x else y) Q E m = if c then pt P x Q E m else pt P y Q E m := by
  split <;> rfl
theorem pt_loadCells {b o : Nat} {Q : Array Value → Mem → Prop} {E : Value → Mem → Prop} : ∀ (vs : List Value) (i : Nat) (acc : Array Value),
    (∀ j u, vs[j]? = some u → m.cell b (o + (i + j)) = some u) → Q (acc ++ vs.toArray) m → pt P (loadCellsFrom ⟨b, o, none⟩ i vs.length acc) Q E m
  | [], i, acc, _, h => by simpa [loadCellsFrom, pt_pure] using h
  | v :: vs, i, acc, hc, h => by
    simp only [List.length_cons, loadCellsFrom]
    rw [pt_bind, add_none]
    refine ⟨rfl, v, by simpa using hc 0 v (by simp), ?_⟩
    refine pt_loadCells vs (i + 1) (acc.push v) (fun j u hu => ?_) (by simpa using h)
    have := hc (j + 1) u (by simpa using hu)
    rw [show o + (i + 1 + j) = o + (i + (j + 1)) by omega]; exact this
/-- Cells written into a row, from an offset on. -/
def putCells (c : Array Value) : Nat → List Value → Array Value
  | _, [] => c
  | o, v :: r => putCells (c.setIfInBounds o v) (o + 1) r
theorem putCells_size (vs : List Value) : ∀ (c : Array Value) (o : Nat), (putCells c o vs).size = c.size := by
  induction vs with
  | nil => intro c o; rfl
  | cons v r ih => intro c o; simp [putCells, ih]
theorem putCells_get (vs : List Value) : ∀ (c : Array Value) (o j : Nat), o + vs.length ≤ c.size → (putCells c o vs)[j]? = if o ≤ j ∧ j < o + vs.length then vs[j - o]? else c[j]? := by
  induction vs with
  | nil => intro c o j _; simp [putCells]; omega
  | cons v r ih =>
    intro c o j h
    simp only [List.length_cons] at h
    rw [putCells, ih _ _ _ (by simp; omega)]
    by_cases h1 : o = j
    · subst h1
      rw [if_neg (by omega), if_pos (by simp)]
      have : o < c.size := by omega
      simp [this]
    · by_cases h2 : o + 1 ≤ j ∧ j < o + 1 + r.length
      · rw [if_pos h2, if_pos (by simp; omega)]
        rw [show j - o = (j - (o + 1)) + 1 by omega]; simp
      · rw [if_neg h2, if_neg (by simp; omega)]
        simp [h1]
theorem set_set (m : Mem) (b : Nat) (o o' : Obj) : (m.set b o).set b o' = m.set b o' := by
  funext k; simp only [Mem.set]; split <;> rfl
theorem set_same (m : Mem) (b : Nat) (o : Obj) : (m.set b o) b = some o := by simp [Mem.set]
theorem set_other (m : Mem) {b k : Nat} (o : Obj) (h : k ≠ b) : (m.set b o) k = m k := by simp [Mem.set, h]
theorem pt_storeCells {b o : Nat} {e : TypeId} {Q : Unit → Mem → Prop} {E : Value → Mem → Prop} : ∀ (vs : List Value) (i : Nat) (m : Mem) (c : Array Value), m b = some (.cells c e (0, 0)) →
    (∀ v ∈ vs, notOne v = false) → o + i + vs.length ≤ c.size → Q () (m.set b (.cells (putCells c (o + i) vs) e (0, 0))) → pt P (storeCells ⟨b, o, none⟩ vs i) Q E m
  | [], i, m, c, hb, _, _, h => by
    have : m.set b (.cells c e (0, 0)) = m := by
      funext k; by_cases hk : k = b
      · subst hk; rw [set_same, hb]
      · rw [set_other _ _ hk]
    simp only [storeCells, pt_pure]
    simpa [putCells, this] using h
  | v :: r, i, m, c, hb, hn, hl, h => by
    simp only [List.length_cons] at hl
    simp only [storeCells]
    rw [pt_bind, add_none]
    refine ⟨rfl, hn v (by simp), c, e, 0, 0, hb, by show o + i < c.size; omega, by simp, ?_⟩
    refine pt_storeCells r (i + 1) _ (c.setIfInBounds (o + i) v) (set_same _ _ _) (fun u hu => hn u (by simp [hu])) (by simp; omega) ?_
    rw [set_set]; exact h
end
/-- What the type table must say of a slice type t over elements e. -/
structure ElemOK (P : Program) (t e : TypeId) (z : Value) (sz bytes : Nat) : Prop where
  ht : P.underlying t = some (.slice e)
  hi : ∃ i, P.info? e = some i ∧ i.zero = some z ∧ i.size = sz ∧ i.bytes = bytes
  hz : z.cells.size = sz
/-- A slice that is its row's head, and whose row is at hand whole: its cells are xs. -/
def Own (m : Mem) (e : TypeId) (sz : Nat) (a : Option Addr) (l c : Nat) (xs : List Value) : Prop :=
  xs.length = l * sz ∧ ((a = none ∧ l = 0 ∧ c = 0) ∨
    ∃ b cur, a = some ⟨b, 0, none⟩ ∧ m b = some (.cells cur e (0, 0)) ∧ l ≤ c ∧ cur.size = c * sz ∧ cur.toList.take (l * sz) = xs ∧ c ≤ 9223372036854775807)
def blk : Option Addr → Option Nat
  | some a => some a.block
  | none => none
/-- All blocks but those of S are as they were. -/
structure Chg (S : Nat → Prop) (m m' : Mem) : Prop where
  eq : ∀ b o, m b = some o → ¬ S b → m' b = some o
  live : ∀ b, m b ≠ none → m' b ≠ none
theorem Chg.refl (S : Nat → Prop) (m : Mem) : Chg S m m := ⟨fun _ _ h _ => h, fun _ h => h⟩
theorem Chg.trans {S S' : Nat → Prop} {m m1 m2 : Mem} (h : Chg S m m1) (k : Chg S' m1 m2) (hs : ∀ b, m b ≠ none → S' b → S b) : Chg S m m2 :=
  ⟨fun b o hb hn => k.eq b o (h.eq b o hb hn) (fun hx => hn (hs b (by rw [hb]; simp) hx)), fun b hb => k.live b (h.live b hb)⟩
theorem Chg.mono {S S' : Nat → Prop} {m m' : Mem} (h : Chg S m m') (hs : ∀ b, S b → S' b) : Chg S' m m' := ⟨fun b o hb hn => h.eq b o hb (fun hx => hn (hs b hx)), h.live⟩
theorem Le.chg {m m' : Mem} (h : Le m m') (S : Nat → Prop) : Chg S m m' := ⟨fun b o hb _ => h b o hb, fun b hb => by
  cases hm : m b with
  | none => exact absurd hm hb
  | some o => rw [h b o hm]; simp⟩
theorem Chg.le {m m' : Mem} (h : Chg (fun _ => False) m m') : Le m m' := fun b o hb => h.eq b o hb (fun h => h)
theorem Le.set {m : Mem} {b : Nat} (h : m b = none) (o : Obj) : Le m (m.set b o) := fun k o' hk => by
  rw [set_other _ _ (fun e => by subst e; rw [h] at hk; cases hk)]; exact hk
theorem Chg.set (m : Mem) (b : Nat) (o : Obj) : Chg (fun k => k = b) m (m.set b o) :=
  ⟨fun k o' hk hn => by rw [set_other _ _ hn]; exact hk, fun k hk => by
    by_cases e : k = b
    · subst e; rw [set_same]; simp
    · rw [set_other _ _ e]; exact hk⟩
theorem Chg.new {S : Nat → Prop} {m m' : Mem} (h : Chg S m m') {b : Nat} (hb : m' b = none) : m b = none := by
  cases hm : m b with
  | none => rfl
  | some o => exact absurd hb (h.live b (by rw [hm]; simp))
theorem Le.live {m m' : Mem} (h : Le m m') {b : Nat} (hb : m b ≠ none) : m' b ≠ none := (h.chg fun _ => False).live b hb
theorem CellsAt.le {m m' : Mem} (h : Le m m') {a : Option Addr} {vs : List Value} (hc : CellsAt m a vs) : CellsAt m' a vs := by
  rcases hc.cases with ⟨b, o, rfl, hx⟩ | ⟨rfl, _⟩
  · intro j u hu
    have := hx j u hu
    unfold Mem.cell at *
    split at this
    · rename_i hb; rw [h _ _ hb]; exact this
    · cases this
  · exact CellsAt.empty _ _
theorem CellsAt.chg {S : Nat → Prop} {m m' : Mem} (h : Chg S m m') {a : Option Addr} {vs : List Value} (hc : CellsAt m a vs) (hn : ∀ b, blk a = some b → ¬ S b) : CellsAt m' a vs := by
  rcases hc.cases with ⟨b, o, rfl, hx⟩ | ⟨rfl, _⟩
  · intro j u hu
    have := hx j u hu
    unfold Mem.cell at *
    split at this
    · rename_i hb; rw [h.eq _ _ hb (hn _ rfl)]; exact this
    · cases this
  · exact CellsAt.empty _ _
theorem Own.le {m m' : Mem} (h : Le m m') {e : TypeId} {sz : Nat} {a : Option Addr} {l c : Nat} {xs : List Value} (ho : Own m e sz a l c xs) : Own m' e sz a l c xs := by
  obtain ⟨h1, h2⟩ := ho
  refine ⟨h1, ?_⟩
  rcases h2 with h2 | ⟨b, cur, ha, hb, r⟩
  · exact .inl h2
  · exact .inr ⟨b, cur, ha, h _ _ hb, r⟩
theorem Own.chg {S : Nat → Prop} {m m' : Mem} (h : Chg S m m') {e : TypeId} {sz : Nat} {a : Option Addr} {l c : Nat} {xs : List Value} (ho : Own m e sz a l c xs) (hn : ∀ b, blk a = some b → ¬ S b) : Own m' e sz a l c xs := by
  obtain ⟨h1, h2⟩ := ho
  refine ⟨h1, ?_⟩
  rcases h2 with h2 | ⟨b, cur, ha, hb, r⟩
  · exact .inl h2
  · exact .inr ⟨b, cur, ha, h.eq _ _ hb (hn _ (by rw [ha]; rfl)), r⟩
theorem Own.nil (m : Mem) (e : TypeId) (sz : Nat) : Own m e sz none 0 0 [] := ⟨by simp, .inl ⟨rfl, rfl, rfl⟩⟩
theorem Own.cells {m : Mem} {e : TypeId} {sz : Nat} {a : Option Addr} {l c : Nat} {xs : List Value} (ho : Own m e sz a l c xs) : CellsAt m a xs := by
  obtain ⟨h1, h2⟩ := ho
  rcases h2 with ⟨rfl, rfl, rfl⟩ | ⟨b, cur, rfl, hb, hlc, hs, ht, hcm⟩
  · show xs = []
    exact List.eq_nil_of_length_eq_zero (by simpa using h1)
  · intro j u hu
    subst ht
    rw [List.getElem?_take] at hu
    split at hu
    · unfold Mem.cell; rw [hb]; simpa using hu
    · cases hu
theorem Own.live {m : Mem} {e : TypeId} {sz : Nat} {a : Option Addr} {l c : Nat} {xs : List Value} (ho : Own m e sz a l c xs) : ∀ b, blk a = some b → m b ≠ none := by
  intro b hb
  rcases ho.2 with ⟨rfl, _⟩ | ⟨b', cur, rfl, hb', _⟩
  · cases hb
  · simp only [blk, Option.some.injEq] at hb; subst hb; rw [hb']; simp
/-- Where a slice's address leads after an append: where it was, or to a new block; nothing else is new. -/
def Grew (m m' : Mem) (a a' : Option Addr) : Prop :=
  Chg (fun b => blk a = some b) m m' ∧ (blk a' = blk a ∨ ∀ b, blk a' = some b → m b = none)
theorem nextcap_le (n o : Nat) (h : o < n) : Builtin.nextslicecap n o ≤ 4 * n + 3000 := by
  unfold Builtin.nextslicecap
  split
  · omega
  · split
    · omega
    · have : ∀ (r c : Nat), c ≤ 4 * n + 3000 → Builtin.growBy n r c ≤ 4 * n + 3000 := by
        intro r
        induction r with
        | zero => intro c hc; exact hc
        | succ r ih =>
          intro c hc
          unfold Builtin.growBy
          split
          · exact hc
          · exact ih _ (by omega)
      exact this 4 o (by omega)
/-- 'append' onto a slice of one's own. -/
theorem append_own {P : Program} {t e : TypeId} {z : Value} {sz bytes : Nat} (hE : ElemOK P t e z sz bytes) {m : Mem} {ty : TypeId} {cs : Array Bool}
    {a : Option Addr} {l c : Nat} {xs : List Value} (ho : Own m e sz a l c xs) {a2 : Option Addr} {l2 c2 : Nat} {news : List Value} (hc : CellsAt m a2 news) (hl : news.length = l2 * sz)
    (hone : ∀ v ∈ news, notOne v = false) (hsz : 0 < sz) (hlen : l + l2 ≤ 1099511627776) (hby : (4 * (l + l2) + 3000) * bytes ≤ 281474976710656) {K : Value → Mem → Prop} {Pn : List PanicEntry → Mem → Prop}
    (h : ∀ a' c' m', Own m' e sz a' (l + l2) c' (xs ++ news) → Grew m m' a a' → K (.slice a' (l + l2) c') m') :
    BiN P .append #[t, t] ty cs #[.slice a l c, .slice a2 l2 c2] m K Pn := by
  obtain ⟨i, hi, hzi, rfl, rfl⟩ := hE.hi
  have hfirst : ∀ (n : Nat) (aa : Option Addr) (cc : Nat) (vs : List Value) (mm : Mem) (nn : Nat) (Q : Array Value → Mem → Prop) (E : Value → Mem → Prop), CellsAt mm aa vs → vs.length = nn * i.size → Q vs.toArray mm →
      pt P (Builtin.firstCells i.size nn (.slice aa n cc)) Q E mm := by
    intro n aa cc vs mm nn Q E hv hvl hQ
    rcases hv.cases with ⟨b, o, rfl, hx⟩ | ⟨rfl, _⟩
    · simp only [Builtin.firstCells, loadCells]
      rw [← hvl]
      exact pt_loadCells vs 0 #[] (by simpa using hx) (by simpa using hQ)
    · cases aa with
      | none => exact hQ
      | some aa =>
        simp only [Builtin.firstCells, loadCells]
        rw [← hvl]
        exact hQ
  unfold BiN
  show pt P (do pure (Next.value (← Builtin.append_ #[t, t] ty #[.slice a l c, .slice a2 l2 c2])) : Sem Next) _ _ m
  rw [pt_bind]
  unfold Builtin.append_
  simp only [List.getElem?_toArray, List.getElem?_cons_zero, List.getElem?_cons_succ]
  rw [pt_bind, pt_under hE.ht]
  simp only []
  rw [pt_bind, pt_sizeOf hi, pt_bind, pt_under hE.ht]
  simp only [pt_bind, pt_pure, Bool.false_eq_true, if_false, Builtin.lenOf]
  rw [pt_ite]
  by_cases hroom : l + l2 ≤ c
  · rw [if_pos hroom]
    simp only [Bool.not_false, if_true]
    rw [pt_bind]
    refine hfirst l2 a2 c2 news m l2 _ _ hc hl ?_
    rcases ho.2 with ⟨rfl, rfl, rfl⟩ | ⟨b, cur, rfl, hb, hlc, hs, ht, hcm⟩
    · have h0 : l2 = 0 := by omega
      subst h0
      have hn : news = [] := List.eq_nil_of_length_eq_zero (by simpa using hl)
      subst hn
      simp only [pt_pure]
      exact h none 0 m (by simpa using ho) ⟨Chg.refl _ _, .inl rfl⟩
    · simp only []
      rw [pt_bind]
      have hsz2 : 0 + l * i.size + 0 + news.length ≤ cur.size := by
        rw [hs, hl, Nat.zero_add, Nat.add_zero, ← Nat.add_mul]; exact Nat.mul_le_mul_right _ hroom
      rw [add_none]
      refine pt_storeCells news 0 m cur hb hone hsz2 ?_
      simp only [pt_pure]
      refine h _ c _ ⟨by rw [List.length_append, ho.1, hl, Nat.add_mul], .inr ⟨b, _, rfl, set_same _ _ _, hroom, by rw [putCells_size, hs], ?_, hcm⟩⟩ ⟨?_, .inl rfl⟩
      · apply List.ext_getElem?
        intro j
        have hxl := ho.1
        have hlt : l * i.size + l2 * i.size ≤ cur.size := by rw [hs, ← Nat.add_mul]; exact Nat.mul_le_mul_right _ hroom
        rw [List.getElem?_take, Array.getElem?_toList, putCells_get _ _ _ _ hsz2, Nat.add_mul, List.getElem?_append, hxl]
        simp only [Nat.zero_add, Nat.add_zero, hl]
        by_cases h1 : j < l * i.size
        · rw [if_pos (by omega), if_neg (by omega), if_pos h1, ← ht, List.getElem?_take, if_pos h1]; simp
        · by_cases h2 : j < l * i.size + l2 * i.size
          · rw [if_pos h2, if_pos (by omega), if_neg h1]
          · rw [if_neg h2, if_neg h1]
            symm
            rw [List.getElem?_eq_none (by omega)]
      · exact (Chg.set _ _ _).mono (fun k e => by subst e; rfl)
  · rw [if_neg hroom]
    have hc0 : c < l + l2 := by omega
    have hmax : ¬ (((l + l2 : Nat) : Int) > IntKind.i64.max ∧ (False ∨ i.bytes = 0)) := by
      rintro ⟨h1, _⟩
      have : IntKind.i64.max = 9223372036854775807 := rfl
      rw [this] at h1; omega
    have hnext : ¬ Builtin.nextslicecap (l + l2) c * i.bytes > 2 ^ 48 := by
      have h1 := Nat.mul_le_mul_right i.bytes (nextcap_le (l + l2) c hc0)
      have : (2 : Nat) ^ 48 = 281474976710656 := rfl
      omega
    rw [pt_bind, pt_typeInfo hi]
    rw [pt_ite, if_neg hmax]
    rw [pt_bind, pt_typeInfo hi]
    rw [pt_ite, if_neg hnext]
    rw [pt_bind]
    intro tp
    have hge : l + l2 ≤ (Question.appendCap (l + l2) c e).cut tp := by simp [Question.cut]
    have hlt63 : (Question.appendCap (l + l2) c e).cut tp ≤ 9223372036854775807 := by
      have h1 : tp % (2 ^ 63 - (l + l2)) < 2 ^ 63 - (l + l2) := Nat.mod_lt _ (by omega)
      simp only [Question.cut]
      omega
    generalize (Question.appendCap (l + l2) c e).cut tp = nc at hge hlt63 ⊢
    show pt P (Sem.pure nc) _ _ m
    simp only [pt]
    rw [pt_bind, pt_typeInfo hi, pt_bind]
    have hask : ∀ n (Q : Unit → Mem → Prop) E, Q () m → pt P (askRoom n) Q E m := by
      intro n Q E hQ; unfold askRoom; split <;> exact hQ
    refine hask _ _ _ ?_
    rw [pt_bind]
    refine hfirst l a c xs m l _ _ ho.cells ho.1 ?_
    simp only [Bool.not_false, if_true]
    rw [pt_bind]
    refine hfirst l2 a2 c2 news m l2 _ _ hc hl ?_
    rw [pt_bind, pt_zero hi hzi, pt_bind, pt_newRow]
    intro b hb
    simp only [pt_pure]
    have hzc : (Builtin.zeroCells z.cells (nc - (l + l2))).size = (nc - (l + l2)) * i.size := by simp [Builtin.zeroCells, hE.hz]
    refine h _ nc _ ⟨by rw [List.length_append, ho.1, hl, Nat.add_mul], .inr ⟨b, _, rfl, set_same _ _ _, hge, ?_, ?_, hlt63⟩⟩ ⟨(Le.set hb _).chg _, .inr fun b' hb' => ?_⟩
    · rw [Array.size_append, Array.size_append, hzc]
      simp only [List.size_toArray, ho.1, hl, ← Nat.add_mul]
      congr 1; omega
    · have hx : (xs ++ news).length = (l + l2) * i.size := by rw [List.length_append, ho.1, hl, Nat.add_mul]
      simp only [Array.toList_append]
      rw [← hx]
      exact List.take_left
    · simp only [blk, Option.some.injEq] at hb'; subst hb'; exact hb
/-- 'make([]T, l, c)', elements of one cell. -/
theorem make_one {P : Program} {t e : TypeId} {z : Value} {bytes : Nat} (hE : ElemOK P t e z 1 bytes) (hz1 : z.cells = #[z]) {m : Mem} {kl kc : IntKind} {l c : Int} (h0 : 0 ≤ l) (h1 : l ≤ c) (h2 : c ≤ 1099511627776)
    (hby : bytes * c ≤ 281474976710656) {K : Value → Mem → Prop} {Pn : List PanicEntry → Mem → Prop}
    (h : ∀ b, m b = none → K (.slice (some ⟨b, 0, none⟩) l.toNat c.toNat) (m.set b (.cells (List.replicate c.toNat z).toArray e (0, 0)))) :
    MkS P m t (.int kl l) (.int kc c) K Pn := by
  obtain ⟨i, hi, hzi, his, rfl⟩ := hE.hi
  unfold MkS
  rw [pt_bind]
  unfold Instr.makeSlice
  rw [pt_bind, pt_under hE.ht]
  simp only [asInt, asIntOf, pt_bind, pt_pure, pt_typeInfo hi]
  have w1 : IntKind.i64.wrap l = l := by rw [IntKind.wrap_i64]; omega
  have w2 : IntKind.i64.wrap c = c := by rw [IntKind.wrap_i64]; omega
  rw [w1, w2]
  have hp : (2 : Int) ^ 48 = 281474976710656 := rfl
  have hno : ¬ ((decide (c < 0) || decide ((i.bytes : Int) * c > 2 ^ 48) || decide (l < 0) || decide (l > c)) = true) := by
    rw [hp]; simp only [Bool.or_eq_true, decide_eq_true_eq]; omega
  rw [if_neg hno]
  have hask : ∀ n (Q : Unit → Mem → Prop) E, Q () m → pt P (askRoom n) Q E m := by
    intro n Q E hQ; unfold askRoom; split <;> exact hQ
  rw [pt_bind]
  refine hask _ _ _ ?_
  rw [pt_bind, pt_sizeOf hi, his, Nat.mul_one]
  have hcells : (Array.range c.toNat).map (fun x => (#[z] : Array Value)[x % (#[z] : Array Value).size]!) = (List.replicate c.toNat z).toArray := by
    apply Array.ext
    · simp
    · intro j h1 h2
      simp [Nat.mod_one]
  have h0c : c.toNat = 0 → (Array.range c.toNat).map (fun x => (#[] : Array Value)[x % (#[] : Array Value).size]!) = (List.replicate c.toNat z).toArray := by
    intro hb; rw [hb]; simp
  split
  · rename_i hc0
    rw [pt_bind, pt_pure, pt_bind, pt_newRow]
    intro b hb
    rw [h0c hc0]
    exact h b hb
  · rw [pt_bind, pt_zero hi hzi, pt_bind, pt_pure, pt_bind, pt_newRow, hz1]
    intro b hb
    rw [hcells]
    exact h b hb
structure MapIB (P : Program) (t : TypeId) : Prop where
  h : ∃ k e, P.underlying t = some (.map k e) ∧ P.underlying k = some (.int .i64) ∧ (P.info? e).bind (·.zero) = some (.bool false)
end Go.H
