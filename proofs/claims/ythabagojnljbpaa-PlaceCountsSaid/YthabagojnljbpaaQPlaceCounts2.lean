/- This project's own logic, printed forms and lemmas, as far as this claim needs them (part 2). -/
import Derived.Test.YthabagojnljbpaaQPlaceCounts1
set_option linter.unusedVariables false
set_option maxRecDepth 100000
namespace Go.E
open Go.H
noncomputable section
/-! ### (*eyot/place.Places).walk -/
namespace place_Places_walk
noncomputable def fn : Func := Go.Proofs.Try.f22
noncomputable def body : Code := fn.body.getD .skip
def od : Nat → Ord := fun | 4 => ordL [(0, 3), (1, 3), (2, 3), (3, 3), (4, 3), (5, 1), (6, 3), (7, 1), (10, 3), (11, 3), (12, 3), (13, 1)] (.alt 8 0 (ordL [] (.alt 9 0 (ordL [(14, 0), (15, 2), (16, 3), (17, 3), (18, 2), (19, 3), (20, 3), (21, 2)] .done) 14 0 (ordL [(9, 0), (15, 2), (16, 3), (17, 3), (18, 2), (19, 3), (20, 3), (21, 2)] .done))) 14 0 (ordL [(8, 0), (9, 0), (15, 2), (16, 3), (17, 3), (18, 2), (19, 3), (20, 3), (21, 2)] .done)) | 26 => ordL [(0, 3), (1, 1), (2, 3), (3, 1), (5, 3), (6, 1), (7, 3), (8, 1), (10, 3), (11, 1), (4, 0), (9, 0), (12, 3), (13, 3), (14, 2), (15, 3), (16, 3), (17, 2)] .done | _ => .done
def tb : Nat → Tab := fun | 4 => (2392064, [0, 0, 0, 4, 12, 28, 0, 64, 192, 508, 0, 1024, 3072, 7168, 0, 32764, 65533, 131069, 262141, 524287, 1048575, 2097151], [(0, 1, 25), (0, 1, 26), (0, 1, 27), (4, 67108864, 28), (8, 134217728, 29), (16, 268435456, 30), (0, 8, 31), (64, 1073741824, 32), (128, 2147483648, 33), (288, 4831838208, 34), (0, 1, 35), (1024, 17179869184, 36), (2048, 34359738368, 37), (4096, 68719476736, 38), (0, 0, 39), (25088, 412316860416, 40), (41981, 16777216, 41), (107517, 1099511627776, 42), (173053, 2207613190144, 0), (524287, 33554432, 43), (1048575, 4398046511104, 44), (1572863, 9345848836096, 0)]) | 26 => (147456, [0, 1, 0, 4, 15, 0, 32, 0, 128, 511, 0, 1024, 4095, 8191, 16383, 32767, 65535, 131071], [(0, 1024, 110), (1, 649037107316853453566312041152512, 111), (0, 8192, 112), (4, 2596148429267413814265248164610048, 113), (10, 6490371073168534535663120411525120, 114), (0, 1024, 115), (32, 20769187434139310514121985316880384, 116), (0, 8192, 117), (128, 83076749736557242056487941267521536, 118), (336, 207691874341393105141219853168803840, 119), (0, 1024, 120), (1024, 664613997892457936451903530140172288, 121), (2560, 1329227995784915872903807060280344576, 122), (4096, 2658455991569831745807614120560697344, 123), (12288, 7975367974709495237422842361682067456, 124), (20480, 13292279957849158729038070602803445760, 125), (33296, 21610339525221952589943925722214039552, 126), (131071, 42535295865117307932921825928971027456, 0)]) | _ => (0, [], [])
def k1E (K : Nat → Nat → Int → Mem → Prop) : Env → Mem → Prop := fun ρ m => UnPA (ρ 4) fun x4b x4o => UnI (ρ 5) .i64 fun n_5 => K x4b x4o n_5 m
def k1  (x4b : Nat) (x4o : Nat) (n_5 : Int) (R : Ending → Mem → Prop) (m : Mem) : Prop :=
 NewC m #[.int .i64 n_5] T_int fun b45 m1 =>
 NewC m1 #[.int .i64 n_5] T_int fun b47 m2 =>
 St1 m2 x4b x4o (.slice (some ⟨b45, 0, none⟩) 1 1) fun m3 =>
 St1 m3 x4b (x4o + 1) (.slice (some ⟨b47, 0, none⟩) 1 1) fun m4 =>
 St1 m4 x4b (x4o + 2) (.bool false) fun m5 =>
 LdV m5 x4b x4o fun v =>
 UnS v fun res0_0a res0_0l res0_0c =>
 LdV m5 x4b (x4o + 1) fun v =>
 UnS v fun res0_1a res0_1l res0_1c =>
 LdV m5 x4b (x4o + 2) fun v =>
 UnB v fun res0_2 =>
 R (.returned (.agg #[.slice res0_0a res0_0l res0_0c, .slice res0_1a res0_1l res0_1c, .bool res0_2])) m5
noncomputable def k1A  (R : Ending → Mem → Prop) : ACode := (.code (sR (sR (cT (sR (bB (sR (sL (sR (body))))))))))
def k4E (K : Option Addr → Nat → Nat → Nat → Nat → Nat → Nat → Option Addr → Nat → Nat → Int → Int → Mem → Prop) : Env → Mem → Prop := fun ρ m => UnP (ρ 0) fun p_0 => UnPA (ρ 4) fun x4b x4o => UnPA (ρ 6) fun out_6b out_6o => UnPA (ρ 9) fun q_9b q_9o => UnS (ρ 53) fun x53a x53l x53c => UnI (ρ 54) .i64 fun x54 => UnI (ρ 55) .i64 fun x55 => K p_0 x4b x4o out_6b out_6o q_9b q_9o x53a x53l x53c x54 x55 m
def k4 (K2 : Option Addr → Nat → Nat → Nat → Nat → Option Addr → Nat → Nat → Int → Int → Mem → Prop) (p_0 : Option Addr) (x4b : Nat) (x4o : Nat) (out_6b : Nat) (out_6o : Nat) (q_9b : Nat) (q_9o : Nat) (x53a : Option Addr) (x53l : Nat) (x53c : Nat) (x54 : Int) (x55 : Int) (R : Ending → Mem → Prop) (m : Mem) : Prop :=
 LdV m out_6b out_6o fun v =>
 UnS v fun x85a x85l x85c =>
 LdV m q_9b (q_9o + 1) fun v =>
 UnS v fun x87a x87l x87c =>
 LdV m out_6b (out_6o + 2) fun v =>
 UnB v fun x89 =>
 Br x89 (
  LdV m q_9b (q_9o + 2) fun v =>
  UnB v fun x92 =>
  St1 m out_6b out_6o (.slice x85a x85l x85c) fun m1 =>
  St1 m1 out_6b (out_6o + 1) (.slice x87a x87l x87c) fun m2 =>
  St1 m2 out_6b (out_6o + 2) (.bool x92) fun m3 =>
  K2 p_0 x4b x4o out_6b out_6o x53a x53l x53c x54 (IntKind.i64.wrap (x55 + 1)) m3) (
  St1 m out_6b out_6o (.slice x85a x85l x85c) fun m1 =>
  St1 m1 out_6b (out_6o + 1) (.slice x87a x87l x87c) fun m2 =>
  St1 m2 out_6b (out_6o + 2) (.bool false) fun m3 =>
  K2 p_0 x4b x4o out_6b out_6o x53a x53l x53c x54 (IntKind.i64.wrap (x55 + 1)) m3)
noncomputable def k4A (K2 : Option Addr → Nat → Nat → Nat → Nat → Option Addr → Nat → Nat → Int → Int → Mem → Prop) (R : Ending → Mem → Prop) : ACode := (.code (sR (sR (sR (sR (sR (bB (sL (sR (sR (lP (bB (sR (sL (sR (cT (sR (cE (sR (bB (sR (sL (sR (body))))))))))))))))))))))))
def k3E (K : Option Addr → Nat → Nat → Nat → Nat → Nat → Nat → Option Addr → Nat → Nat → Int → Int → Mem → Prop) : Env → Mem → Prop := fun ρ m => UnP (ρ 0) fun p_0 => UnPA (ρ 4) fun x4b x4o => UnPA (ρ 6) fun out_6b out_6o => UnPA (ρ 9) fun q_9b q_9o => UnS (ρ 53) fun x53a x53l x53c => UnI (ρ 54) .i64 fun x54 => UnI (ρ 55) .i64 fun x55 => K p_0 x4b x4o out_6b out_6o q_9b q_9o x53a x53l x53c x54 x55 m
def k3 (K2 : Option Addr → Nat → Nat → Nat → Nat → Option Addr → Nat → Nat → Int → Int → Mem → Prop) (p_0 : Option Addr) (x4b : Nat) (x4o : Nat) (out_6b : Nat) (out_6o : Nat) (q_9b : Nat) (q_9o : Nat) (x53a : Option Addr) (x53l : Nat) (x53c : Nat) (x54 : Int) (x55 : Int) (R : Ending → Mem → Prop) (m : Mem) : Prop :=
 LdV m q_9b (q_9o + 2) fun v =>
 UnB v fun x77 =>
 Br x77 (
  LdV m out_6b (out_6o + 1) fun v =>
  UnS v fun x79a x79l x79c =>
  LdV m q_9b (q_9o + 1) fun v =>
  UnS v fun x81a x81l x81c =>
  HC P place_also.id #[.slice x79a x79l x79c, .slice x81a x81l x81c] m (Cont (fun v m1 =>
    UnS v fun x82a x82l x82c =>
    St1 m1 q_9b (q_9o + 1) (.slice x82a x82l x82c) fun m2 =>
    k4 K2 p_0 x4b x4o out_6b out_6o q_9b q_9o x53a x53l x53c x54 x55 R m2) (panicR R))) (
  k4 K2 p_0 x4b x4o out_6b out_6o q_9b q_9o x53a x53l x53c x54 x55 R m)
noncomputable def k3A (K2 : Option Addr → Nat → Nat → Nat → Nat → Option Addr → Nat → Nat → Int → Int → Mem → Prop) (R : Ending → Mem → Prop) : ACode := (.seq (.code (sL (sR (sR (sR (sR (bB (sL (sR (sR (lP (bB (sR (sL (sR (cT (sR (cE (sR (bB (sR (sL (sR (body)))))))))))))))))))))))) (.cut (k4E fun p_0 x4b x4o out_6b out_6o q_9b q_9o x53a x53l x53c x54 x55 m => k4 K2 p_0 x4b x4o out_6b out_6o q_9b q_9o x53a x53l x53c x54 x55 R m) (sR (sR (sR (sR (sR (bB (sL (sR (sR (lP (bB (sR (sL (sR (cT (sR (cE (sR (bB (sR (sL (sR (body)))))))))))))))))))))))))
def l2E (K : Option Addr → Nat → Nat → Nat → Nat → Option Addr → Nat → Nat → Int → Int → Mem → Prop) : Env → Mem → Prop := fun ρ m => UnP (ρ 0) fun p_0 => UnPA (ρ 4) fun x4b x4o => UnPA (ρ 6) fun out_6b out_6o => UnS (ρ 53) fun x53a x53l x53c => UnI (ρ 54) .i64 fun x54 => UnI (ρ 55) .i64 fun x55 => K p_0 x4b x4o out_6b out_6o x53a x53l x53c x54 x55 m
def l2B  (K2 : Option Addr → Nat → Nat → Nat → Nat → Option Addr → Nat → Nat → Int → Int → Mem → Prop) (p_0 : Option Addr) (x4b : Nat) (x4o : Nat) (out_6b : Nat) (out_6o : Nat) (x53a : Option Addr) (x53l : Nat) (x53c : Nat) (x54 : Int) (x55 : Int) (R : Ending → Mem → Prop) (m : Mem) : Prop :=
 Br (decide (x55 < x54)) (
  IxS x53a x53l x55 6 fun x57b x57o =>
  LdV m x57b x57o fun v =>
  UnI v .i64 fun x58_0 =>
  LdV m x57b (x57o + 1) fun v =>
  UnI v .u64 fun x58_1 =>
  LdV m x57b (x57o + 2) fun v =>
  UnI v .u64 fun x58_2 =>
  LdV m x57b (x57o + 3) fun v =>
  UnI v .u64 fun x58_3 =>
  LdV m x57b (x57o + 4) fun v =>
  UnI v .u64 fun x58_4 =>
  LdV m x57b (x57o + 5) fun v =>
  UnS v fun x58_5a x58_5l x58_5c =>
  NewC m #[.int .i64 0, .int .u64 0, .int .u64 0, .int .u64 0, .int .u64 0, .slice none 0 0] T_api_Rx fun b_x_8 m1 =>
  St1 m1 b_x_8 0 (.int .i64 x58_0) fun m2 =>
  St1 m2 b_x_8 1 (.int .u64 x58_1) fun m3 =>
  St1 m3 b_x_8 2 (.int .u64 x58_2) fun m4 =>
  St1 m4 b_x_8 3 (.int .u64 x58_3) fun m5 =>
  St1 m5 b_x_8 4 (.int .u64 x58_4) fun m6 =>
  St1 m6 b_x_8 5 (.slice x58_5a x58_5l x58_5c) fun m7 =>
  LdV m7 b_x_8 0 fun v =>
  UnI v .i64 fun x60_0 =>
  LdV m7 b_x_8 1 fun v =>
  UnI v .u64 fun x60_1 =>
  LdV m7 b_x_8 2 fun v =>
  UnI v .u64 fun x60_2 =>
  LdV m7 b_x_8 3 fun v =>
  UnI v .u64 fun x60_3 =>
  LdV m7 b_x_8 4 fun v =>
  UnI v .u64 fun x60_4 =>
  LdV m7 b_x_8 5 fun v =>
  UnS v fun x60_5a x60_5l x60_5c =>
  HC P place_Places_walk.id #[.pointer p_0, .agg #[.int .i64 x60_0, .int .u64 x60_1, .int .u64 x60_2, .int .u64 x60_3, .int .u64 x60_4, .slice x60_5a x60_5l x60_5c]] m7 (Cont (fun v m8 =>
    UnAgg v fun l =>
    UnCons l fun v l =>
    UnS v fun x61_0a x61_0l x61_0c =>
    UnCons l fun v l =>
    UnS v fun x61_1a x61_1l x61_1c =>
    UnCons l fun v l =>
    UnB v fun x61_2 =>
    UnNil l (
     NewC m8 #[.slice none 0 0, .slice none 0 0, .bool false] T_place_part fun b_q_9 m9 =>
     St1 m9 b_q_9 0 (.slice x61_0a x61_0l x61_0c) fun m10 =>
     St1 m10 b_q_9 1 (.slice x61_1a x61_1l x61_1c) fun m11 =>
     St1 m11 b_q_9 2 (.bool x61_2) fun m12 =>
     LdV m12 out_6b (out_6o + 1) fun v =>
     UnS v fun x64a x64l x64c =>
     LdV m12 b_q_9 0 fun v =>
     UnS v fun x66a x66l x66c =>
     HC P place_Places_links.id #[.pointer p_0, .slice x64a x64l x64c, .slice x66a x66l x66c] m12 (Cont (fun v m13 =>
       UnTup v fun us0 =>
       UnNil us0 (
        LdV m13 out_6b (out_6o + 2) fun v =>
        UnB v fun x69 =>
        Br x69 (
        LdV m13 out_6b out_6o fun v =>
        UnS v fun x71a x71l x71c =>
        LdV m13 b_q_9 0 fun v =>
        UnS v fun x73a x73l x73c =>
        HC P place_also.id #[.slice x71a x71l x71c, .slice x73a x73l x73c] m13 (Cont (fun v m14 =>
        UnS v fun x74a x74l x74c =>
        St1 m14 out_6b out_6o (.slice x74a x74l x74c) fun m15 =>
        k3 K2 p_0 x4b x4o out_6b out_6o b_q_9 0 x53a x53l x53c x54 x55 R m15) (panicR R))) (
        k3 K2 p_0 x4b x4o out_6b out_6o b_q_9 0 x53a x53l x53c x54 x55 R m13))) (panicR R)))) (panicR R))) (
  LdV m out_6b out_6o fun v =>
  UnS v fun x96_0a x96_0l x96_0c =>
  LdV m out_6b (out_6o + 1) fun v =>
  UnS v fun x96_1a x96_1l x96_1c =>
  LdV m out_6b (out_6o + 2) fun v =>
  UnB v fun x96_2 =>
  St1 m x4b x4o (.slice x96_0a x96_0l x96_0c) fun m1 =>
  St1 m1 x4b (x4o + 1) (.slice x96_1a x96_1l x96_1c) fun m2 =>
  St1 m2 x4b (x4o + 2) (.bool x96_2) fun m3 =>
  LdV m3 x4b x4o fun v =>
  UnS v fun res0_0a res0_0l res0_0c =>
  LdV m3 x4b (x4o + 1) fun v =>
  UnS v fun res0_1a res0_1l res0_1c =>
  LdV m3 x4b (x4o + 2) fun v =>
  UnB v fun res0_2 =>
  R (.returned (.agg #[.slice res0_0a res0_0l res0_0c, .slice res0_1a res0_1l res0_1c, .bool res0_2])) m3)
def l2  (p_0 : Option Addr) (x4b : Nat) (x4o : Nat) (out_6b : Nat) (out_6o : Nat) (x53a : Option Addr) (x53l : Nat) (x53c : Nat) (x54 : Int) (x55 : Int) (R : Ending → Mem → Prop) (m : Mem) : Prop :=
  ∃ (I : Nat → Option Addr → Nat → Nat → Nat → Nat → Option Addr → Nat → Nat → Int → Int → Mem → Prop) (N : Nat), I N p_0 x4b x4o out_6b out_6o x53a x53l x53c x54 x55 m ∧ ∀ N p_0 x4b x4o out_6b out_6o x53a x53l x53c x54 x55 m, I N p_0 x4b x4o out_6b out_6o x53a x53l x53c x54 x55 m → l2B  (fun p_0 x4b x4o out_6b out_6o x53a x53l x53c x54 x55 m => ∃ N1, N1 < N ∧ I N1 p_0 x4b x4o out_6b out_6o x53a x53l x53c x54 x55 m) p_0 x4b x4o out_6b out_6o x53a x53l x53c x54 x55 R m
noncomputable def l2A  (K2 : Option Addr → Nat → Nat → Nat → Nat → Option Addr → Nat → Nat → Int → Int → Mem → Prop) (R : Ending → Mem → Prop) : ACode := (.seq (.code (sL (lP (bB (sR (sL (sR (cT (sR (cE (sR (bB (sR (sL (sR (body)))))))))))))))) (.seq (.code (sL (sR (lP (bB (sR (sL (sR (cT (sR (cE (sR (bB (sR (sL (sR (body))))))))))))))))) (.seq (.block 2 (.seq (.code (sL (bB (sL (sR (sR (lP (bB (sR (sL (sR (cT (sR (cE (sR (bB (sR (sL (sR (body)))))))))))))))))))) (.seq (.code (sL (sR (bB (sL (sR (sR (lP (bB (sR (sL (sR (cT (sR (cE (sR (bB (sR (sL (sR (body))))))))))))))))))))) (.seq (.code (sL (sR (sR (bB (sL (sR (sR (lP (bB (sR (sL (sR (cT (sR (cE (sR (bB (sR (sL (sR (body)))))))))))))))))))))) (.seq (.code (sL (sR (sR (sR (bB (sL (sR (sR (lP (bB (sR (sL (sR (cT (sR (cE (sR (bB (sR (sL (sR (body))))))))))))))))))))))) (.cut (k3E fun p_0 x4b x4o out_6b out_6o q_9b q_9o x53a x53l x53c x54 x55 m => k3 K2 p_0 x4b x4o out_6b out_6o q_9b q_9o x53a x53l x53c x54 x55 R m) (sR (sR (sR (sR (bB (sL (sR (sR (lP (bB (sR (sL (sR (cT (sR (cE (sR (bB (sR (sL (sR (body)))))))))))))))))))))))))))) (.code (sR (sR (sR (lP (bB (sR (sL (sR (cT (sR (cE (sR (bB (sR (sL (sR (body)))))))))))))))))))))
def l5E (K : Option Addr → Nat → Nat → Nat → Nat → Option Addr → Nat → Nat → Int → Int → Mem → Prop) : Env → Mem → Prop := fun ρ m => UnP (ρ 0) fun p_0 => UnPA (ρ 4) fun x4b x4o => UnPA (ρ 10) fun out_10b out_10o => UnS (ρ 100) fun x100a x100l x100c => UnI (ρ 101) .i64 fun x101 => UnI (ρ 102) .i64 fun x102 => K p_0 x4b x4o out_10b out_10o x100a x100l x100c x101 x102 m
def l5B  (K5 : Option Addr → Nat → Nat → Nat → Nat → Option Addr → Nat → Nat → Int → Int → Mem → Prop) (p_0 : Option Addr) (x4b : Nat) (x4o : Nat) (out_10b : Nat) (out_10o : Nat) (x100a : Option Addr) (x100l : Nat) (x100c : Nat) (x101 : Int) (x102 : Int) (R : Ending → Mem → Prop) (m : Mem) : Prop :=
 Br (decide (x102 < x101)) (
  IxS x100a x100l x102 6 fun x104b x104o =>
  LdV m x104b x104o fun v =>
  UnI v .i64 fun x105_0 =>
  LdV m x104b (x104o + 1) fun v =>
  UnI v .u64 fun x105_1 =>
  LdV m x104b (x104o + 2) fun v =>
  UnI v .u64 fun x105_2 =>
  LdV m x104b (x104o + 3) fun v =>
  UnI v .u64 fun x105_3 =>
  LdV m x104b (x104o + 4) fun v =>
  UnI v .u64 fun x105_4 =>
  LdV m x104b (x104o + 5) fun v =>
  UnS v fun x105_5a x105_5l x105_5c =>
  NewC m #[.int .i64 0, .int .u64 0, .int .u64 0, .int .u64 0, .int .u64 0, .slice none 0 0] T_api_Rx fun b_x_12 m1 =>
  St1 m1 b_x_12 0 (.int .i64 x105_0) fun m2 =>
  St1 m2 b_x_12 1 (.int .u64 x105_1) fun m3 =>
  St1 m3 b_x_12 2 (.int .u64 x105_2) fun m4 =>
  St1 m4 b_x_12 3 (.int .u64 x105_3) fun m5 =>
  St1 m5 b_x_12 4 (.int .u64 x105_4) fun m6 =>
  St1 m6 b_x_12 5 (.slice x105_5a x105_5l x105_5c) fun m7 =>
  LdV m7 b_x_12 0 fun v =>
  UnI v .i64 fun x107_0 =>
  LdV m7 b_x_12 1 fun v =>
  UnI v .u64 fun x107_1 =>
  LdV m7 b_x_12 2 fun v =>
  UnI v .u64 fun x107_2 =>
  LdV m7 b_x_12 3 fun v =>
  UnI v .u64 fun x107_3 =>
  LdV m7 b_x_12 4 fun v =>
  UnI v .u64 fun x107_4 =>
  LdV m7 b_x_12 5 fun v =>
  UnS v fun x107_5a x107_5l x107_5c =>
  HC P place_Places_walk.id #[.pointer p_0, .agg #[.int .i64 x107_0, .int .u64 x107_1, .int .u64 x107_2, .int .u64 x107_3, .int .u64 x107_4, .slice x107_5a x107_5l x107_5c]] m7 (Cont (fun v m8 =>
    UnAgg v fun l =>
    UnCons l fun v l =>
    UnS v fun x108_0a x108_0l x108_0c =>
    UnCons l fun v l =>
    UnS v fun x108_1a x108_1l x108_1c =>
    UnCons l fun v l =>
    UnB v fun x108_2 =>
    UnNil l (
     NewC m8 #[.slice none 0 0, .slice none 0 0, .bool false] T_place_part fun b_q_13 m9 =>
     St1 m9 b_q_13 0 (.slice x108_0a x108_0l x108_0c) fun m10 =>
     St1 m10 b_q_13 1 (.slice x108_1a x108_1l x108_1c) fun m11 =>
     St1 m11 b_q_13 2 (.bool x108_2) fun m12 =>
     Sub m12 fun r13 =>
     LdV r13 out_10b out_10o fun v =>
     UnS v fun x110a x110l x110c =>
     LdV r13 b_q_13 0 fun v =>
     UnS v fun x112a x112l x112c =>
     LdV r13 out_10b (out_10o + 1) fun v =>
     UnS v fun x115a x115l x115c =>
     LdV r13 b_q_13 1 fun v =>
     UnS v fun x117a x117l x117c =>
     LdV r13 out_10b (out_10o + 2) fun v =>
     UnB v fun x120 =>
     HC P place_also.id #[.slice x110a x110l x110c, .slice x112a x112l x112c] m12 (Cont (fun v m14 =>
       UnS v fun x113a x113l x113c =>
       Lk r13 m14 fun r15 =>
       HC P place_also.id #[.slice x115a x115l x115c, .slice x117a x117l x117c] m14 (Cont (fun v m16 =>
        UnS v fun x118a x118l x118c =>
        Lk r15 m16 fun r17 =>
        Br x120 (
        St1 m16 out_10b out_10o (.slice x113a x113l x113c) fun m18 =>
        St1 m18 out_10b (out_10o + 1) (.slice x118a x118l x118c) fun m19 =>
        St1 m19 out_10b (out_10o + 2) (.bool true) fun m20 =>
        K5 p_0 x4b x4o out_10b out_10o x100a x100l x100c x101 (IntKind.i64.wrap (x102 + 1)) m20) (
        LdV m16 b_q_13 2 fun v =>
        UnB v fun x123 =>
        St1 m16 out_10b out_10o (.slice x113a x113l x113c) fun m18 =>
        St1 m18 out_10b (out_10o + 1) (.slice x118a x118l x118c) fun m19 =>
        St1 m19 out_10b (out_10o + 2) (.bool x123) fun m20 =>
        K5 p_0 x4b x4o out_10b out_10o x100a x100l x100c x101 (IntKind.i64.wrap (x102 + 1)) m20)) (panicR R))) (panicR R)))) (panicR R))) (
  LdV m out_10b out_10o fun v =>
  UnS v fun x127_0a x127_0l x127_0c =>
  LdV m out_10b (out_10o + 1) fun v =>
  UnS v fun x127_1a x127_1l x127_1c =>
  LdV m out_10b (out_10o + 2) fun v =>
  UnB v fun x127_2 =>
  St1 m x4b x4o (.slice x127_0a x127_0l x127_0c) fun m1 =>
  St1 m1 x4b (x4o + 1) (.slice x127_1a x127_1l x127_1c) fun m2 =>
  St1 m2 x4b (x4o + 2) (.bool x127_2) fun m3 =>
  LdV m3 x4b x4o fun v =>
  UnS v fun res0_0a res0_0l res0_0c =>
  LdV m3 x4b (x4o + 1) fun v =>
  UnS v fun res0_1a res0_1l res0_1c =>
  LdV m3 x4b (x4o + 2) fun v =>
  UnB v fun res0_2 =>
  R (.returned (.agg #[.slice res0_0a res0_0l res0_0c, .slice res0_1a res0_1l res0_1c, .bool res0_2])) m3)
def l5  (p_0 : Option Addr) (x4b : Nat) (x4o : Nat) (out_10b : Nat) (out_10o : Nat) (x100a : Option Addr) (x100l : Nat) (x100c : Nat) (x101 : Int) (x102 : Int) (R : Ending → Mem → Prop) (m : Mem) : Prop :=
  ∃ (I : Nat → Option Addr → Nat → Nat → Nat → Nat → Option Addr → Nat → Nat → Int → Int → Mem → Prop) (N : Nat), I N p_0 x4b x4o out_10b out_10o x100a x100l x100c x101 x102 m ∧ ∀ N p_0 x4b x4o out_10b out_10o x100a x100l x100c x101 x102 m, I N p_0 x4b x4o out_10b out_10o x100a x100l x100c x101 x102 m → l5B  (fun p_0 x4b x4o out_10b out_10o x100a x100l x100c x101 x102 m => ∃ N1, N1 < N ∧ I N1 p_0 x4b x4o out_10b out_10o x100a x100l x100c x101 x102 m) p_0 x4b x4o out_10b out_10o x100a x100l x100c x101 x102 R m
noncomputable def l5A  (K5 : Option Addr → Nat → Nat → Nat → Nat → Option Addr → Nat → Nat → Int → Int → Mem → Prop) (R : Ending → Mem → Prop) : ACode := (.code (lP (bB (sR (sL (sR (cT (sR (cE (sR (cE (sR (bB (sR (sL (sR (body)))))))))))))))))
def k6E (K : Nat → Nat → Nat → Nat → Nat → Nat → Mem → Prop) : Env → Mem → Prop := fun ρ m => UnPA (ρ 3) fun r_3b r_3o => UnPA (ρ 4) fun x4b x4o => UnPA (ρ 14) fun q_14b q_14o => K r_3b r_3o x4b x4o q_14b q_14o m
def k6  (r_3b : Nat) (r_3o : Nat) (x4b : Nat) (x4o : Nat) (q_14b : Nat) (q_14o : Nat) (R : Ending → Mem → Prop) (m : Mem) : Prop :=
 LdV m q_14b (q_14o + 2) fun v =>
 UnB v fun x144 =>
 Br x144 (
  St1 m q_14b (q_14o + 2) (.bool true) fun m1 =>
  LdV m1 q_14b q_14o fun v =>
  UnS v fun x151_0a x151_0l x151_0c =>
  LdV m1 q_14b (q_14o + 1) fun v =>
  UnS v fun x151_1a x151_1l x151_1c =>
  LdV m1 q_14b (q_14o + 2) fun v =>
  UnB v fun x151_2 =>
  St1 m1 x4b x4o (.slice x151_0a x151_0l x151_0c) fun m2 =>
  St1 m2 x4b (x4o + 1) (.slice x151_1a x151_1l x151_1c) fun m3 =>
  St1 m3 x4b (x4o + 2) (.bool x151_2) fun m4 =>
  LdV m4 x4b x4o fun v =>
  UnS v fun res0_0a res0_0l res0_0c =>
  LdV m4 x4b (x4o + 1) fun v =>
  UnS v fun res0_1a res0_1l res0_1c =>
  LdV m4 x4b (x4o + 2) fun v =>
  UnB v fun res0_2 =>
  R (.returned (.agg #[.slice res0_0a res0_0l res0_0c, .slice res0_1a res0_1l res0_1c, .bool res0_2])) m4) (
  LdV m r_3b r_3o fun v =>
  UnI v .i64 fun x147 =>
  St1 m q_14b (q_14o + 2) (.bool (x147 != 5)) fun m1 =>
  LdV m1 q_14b q_14o fun v =>
  UnS v fun x151_0a x151_0l x151_0c =>
  LdV m1 q_14b (q_14o + 1) fun v =>
  UnS v fun x151_1a x151_1l x151_1c =>
  LdV m1 q_14b (q_14o + 2) fun v =>
  UnB v fun x151_2 =>
  St1 m1 x4b x4o (.slice x151_0a x151_0l x151_0c) fun m2 =>
  St1 m2 x4b (x4o + 1) (.slice x151_1a x151_1l x151_1c) fun m3 =>
  St1 m3 x4b (x4o + 2) (.bool x151_2) fun m4 =>
  LdV m4 x4b x4o fun v =>
  UnS v fun res0_0a res0_0l res0_0c =>
  LdV m4 x4b (x4o + 1) fun v =>
  UnS v fun res0_1a res0_1l res0_1c =>
  LdV m4 x4b (x4o + 2) fun v =>
  UnB v fun res0_2 =>
  R (.returned (.agg #[.slice res0_0a res0_0l res0_0c, .slice res0_1a res0_1l res0_1c, .bool res0_2])) m4)
noncomputable def k6A  (R : Ending → Mem → Prop) : ACode := (.code (sR (sR (sR (sR (body))))))
def e0 (p_0 : Option Addr) (r_1_0 : Int) (r_1_1 : Int) (r_1_2 : Int) (r_1_3 : Int) (r_1_4 : Int) (r_1_5a : Option Addr) (r_1_5l : Nat) (r_1_5c : Nat) (R : Ending → Mem → Prop) (m : Mem) : Prop :=
 NewC m #[.int .i64 r_1_0, .int .u64 r_1_1, .int .u64 r_1_2, .int .u64 r_1_3, .int .u64 r_1_4, .slice r_1_5a r_1_5l r_1_5c] T_api_Rx fun b_r_3 m1 =>
 NewC m1 #[.slice none 0 0, .slice none 0 0, .bool false] T_place_part fun b4 m2 =>
 LdV m2 b_r_3 0 fun v =>
 UnI v .i64 fun x16 =>
 Br (x16 == 1) (
  NilC p_0 (fun x20b x20o =>
   LdV m2 x20b x20o fun v =>
   UnS v fun x22a x22l x22c =>
   Sub m2 fun r3 =>
   NilC p_0 (fun x27b x27o =>
    LdV r3 x27b x27o fun v =>
    UnS v fun x29a x29l x29c =>
    LdV r3 b_r_3 1 fun v =>
    UnI v .u64 fun x31_0 =>
    LdV r3 b_r_3 2 fun v =>
    UnI v .u64 fun x31_1 =>
    LdV r3 b_r_3 3 fun v =>
    UnI v .u64 fun x31_2 =>
    LdV r3 b_r_3 4 fun v =>
    UnI v .u64 fun x31_3 =>
    NilC p_0 (fun x35b x35o =>
     LdV r3 x35b (x35o + 3) fun v =>
     UnS v fun x37a x37l x37c =>
     (
      NewC m2 #[.int .u64 x31_0, .int .u64 x31_1, .int .u64 x31_2, .int .u64 x31_3] T_api_Set fun b32 m4 =>
      Lk r3 m4 fun r5 =>
      (
       BiN P .append #[T_sl_api_Set, T_sl_api_Set] T_sl_api_Set #[false, false] #[.slice x29a x29l x29c, .slice (some ⟨b32, 0, none⟩) 1 1] m4 (fun w m6 =>
        UnS w fun x33a x33l x33c =>
        Lk r5 m6 fun r7 =>
        NewC m6 #[.slice none 0 0] T_sl_int fun b38 m8 =>
        Lk r7 m8 fun r9 =>
        BiN P .append #[T_sl_sl_int, T_sl_sl_int] T_sl_sl_int #[false, false] #[.slice x37a x37l x37c, .slice (some ⟨b38, 0, none⟩) 1 1] m8 (fun w m10 =>
        UnS w fun x39a x39l x39c =>
        NilC p_0 (fun x40b x40o =>
        St1 m10 x40b x40o (.slice x33a x33l x33c) fun m11 =>
        NilC p_0 (fun x42b x42o =>
        St1 m11 x42b (x42o + 3) (.slice x39a x39l x39c) fun m12 =>
        k1  b4 0 ((x22l : Nat) : Int) R m12) (False)) (False)) (panicR R)) (panicR R)) ∧ (
       NewC m4 #[.slice none 0 0] T_sl_int fun b38 m6 =>
       Lk r5 m6 fun r7 =>
       BiN P .append #[T_sl_api_Set, T_sl_api_Set] T_sl_api_Set #[false, false] #[.slice x29a x29l x29c, .slice (some ⟨b32, 0, none⟩) 1 1] m6 (fun w m8 =>
        UnS w fun x33a x33l x33c =>
        Lk r7 m8 fun r9 =>
        BiN P .append #[T_sl_sl_int, T_sl_sl_int] T_sl_sl_int #[false, false] #[.slice x37a x37l x37c, .slice (some ⟨b38, 0, none⟩) 1 1] m8 (fun w m10 =>
        UnS w fun x39a x39l x39c =>
        NilC p_0 (fun x40b x40o =>
        St1 m10 x40b x40o (.slice x33a x33l x33c) fun m11 =>
        NilC p_0 (fun x42b x42o =>
        St1 m11 x42b (x42o + 3) (.slice x39a x39l x39c) fun m12 =>
        k1  b4 0 ((x22l : Nat) : Int) R m12) (False)) (False)) (panicR R)) (panicR R))) ∧ (
      NewC m2 #[.slice none 0 0] T_sl_int fun b38 m4 =>
      Lk r3 m4 fun r5 =>
      NewC m4 #[.int .u64 x31_0, .int .u64 x31_1, .int .u64 x31_2, .int .u64 x31_3] T_api_Set fun b32 m6 =>
      Lk r5 m6 fun r7 =>
      BiN P .append #[T_sl_api_Set, T_sl_api_Set] T_sl_api_Set #[false, false] #[.slice x29a x29l x29c, .slice (some ⟨b32, 0, none⟩) 1 1] m6 (fun w m8 =>
       UnS w fun x33a x33l x33c =>
       Lk r7 m8 fun r9 =>
       BiN P .append #[T_sl_sl_int, T_sl_sl_int] T_sl_sl_int #[false, false] #[.slice x37a x37l x37c, .slice (some ⟨b38, 0, none⟩) 1 1] m8 (fun w m10 =>
        UnS w fun x39a x39l x39c =>
        NilC p_0 (fun x40b x40o =>
        St1 m10 x40b x40o (.slice x33a x33l x33c) fun m11 =>
        NilC p_0 (fun x42b x42o =>
        St1 m11 x42b (x42o + 3) (.slice x39a x39l x39c) fun m12 =>
        k1  b4 0 ((x22l : Nat) : Int) R m12) (False)) (False)) (panicR R)) (panicR R))) (False)) (False)) (R (.panicked (nilPanic P)) m2)) (
  Br (x16 == 2) (
   NewC m2 #[.slice none 0 0, .slice none 0 0, .bool false] T_place_part fun b_out_6 m3 =>
   St1 m3 b_out_6 0 (.slice none 0 0) fun m4 =>
   St1 m4 b_out_6 1 (.slice none 0 0) fun m5 =>
   St1 m5 b_out_6 2 (.bool true) fun m6 =>
   LdV m6 b_r_3 5 fun v =>
   UnS v fun x53a x53l x53c =>
   l2  p_0 b4 0 b_out_6 0 x53a x53l x53c ((x53l : Nat) : Int) 0 R m6) (
   Br (x16 == 3) (
    NewC m2 #[.slice none 0 0, .slice none 0 0, .bool false] T_place_part fun b_out_10 m3 =>
    LdV m3 b_r_3 5 fun v =>
    UnS v fun x100a x100l x100c =>
    l5  p_0 b4 0 b_out_10 0 x100a x100l x100c ((x100l : Nat) : Int) 0 R m3) (
    LdV m2 b_r_3 5 fun v =>
    UnS v fun x130a x130l x130c =>
    IxS x130a x130l 0 6 fun x131b x131o =>
    LdV m2 x131b x131o fun v =>
    UnI v .i64 fun x132_0 =>
    LdV m2 x131b (x131o + 1) fun v =>
    UnI v .u64 fun x132_1 =>
    LdV m2 x131b (x131o + 2) fun v =>
    UnI v .u64 fun x132_2 =>
    LdV m2 x131b (x131o + 3) fun v =>
    UnI v .u64 fun x132_3 =>
    LdV m2 x131b (x131o + 4) fun v =>
    UnI v .u64 fun x132_4 =>
    LdV m2 x131b (x131o + 5) fun v =>
    UnS v fun x132_5a x132_5l x132_5c =>
    HC P place_Places_walk.id #[.pointer p_0, .agg #[.int .i64 x132_0, .int .u64 x132_1, .int .u64 x132_2, .int .u64 x132_3, .int .u64 x132_4, .slice x132_5a x132_5l x132_5c]] m2 (Cont (fun v m3 =>
      UnAgg v fun l =>
      UnCons l fun v l =>
      UnS v fun x133_0a x133_0l x133_0c =>
      UnCons l fun v l =>
      UnS v fun x133_1a x133_1l x133_1c =>
      UnCons l fun v l =>
      UnB v fun x133_2 =>
      UnNil l (
       NewC m3 #[.slice none 0 0, .slice none 0 0, .bool false] T_place_part fun b_q_14 m4 =>
       St1 m4 b_q_14 0 (.slice x133_0a x133_0l x133_0c) fun m5 =>
       St1 m5 b_q_14 1 (.slice x133_1a x133_1l x133_1c) fun m6 =>
       St1 m6 b_q_14 2 (.bool x133_2) fun m7 =>
       LdV m7 b_r_3 0 fun v =>
       UnI v .i64 fun x135 =>
       Br (x135 != 6) (
        LdV m7 b_q_14 1 fun v =>
        UnS v fun x139a x139l x139c =>
        LdV m7 b_q_14 0 fun v =>
        UnS v fun x141a x141l x141c =>
        HC P place_Places_links.id #[.pointer p_0, .slice x139a x139l x139c, .slice x141a x141l x141c] m7 (Cont (fun v m8 =>
        UnTup v fun us0 =>
        UnNil us0 (
        k6  b_r_3 0 b4 0 b_q_14 0 R m8)) (panicR R))) (
        k6  b_r_3 0 b4 0 b_q_14 0 R m7))) (panicR R)))))
noncomputable def e0A (R : Ending → Mem → Prop) : ACode := (.seq (.code (sL (body))) (.seq (.seq (.code (sL (sL (sR (body))))) (.block 0 (.seq (.code (sL (bB (sR (sL (sR (body))))))) (.cond (.tmp 17) (.seq (.code (sL (cT (sR (bB (sR (sL (sR (body))))))))) (.seq (.code (sL (sR (cT (sR (bB (sR (sL (sR (body)))))))))) (.cut (k1E fun x4b x4o n_5 m => k1  x4b x4o n_5 R m) (sR (sR (cT (sR (bB (sR (sL (sR (body)))))))))))) (.seq (.code (sL (cE (sR (bB (sR (sL (sR (body))))))))) (.cond (.tmp 49) (.seq (.code (sL (cT (sR (cE (sR (bB (sR (sL (sR (body))))))))))) (.seq (.seq (.code (sL (sL (sR (cT (sR (cE (sR (bB (sR (sL (sR (body))))))))))))) (.block 1 (.cut (l2E fun p_0 x4b x4o out_6b out_6o x53a x53l x53c x54 x55 m => l2  p_0 x4b x4o out_6b out_6o x53a x53l x53c x54 x55 R m) (.loop (lP (bB (sR (sL (sR (cT (sR (cE (sR (bB (sR (sL (sR (body)))))))))))))))))) (.code (sR (sR (cT (sR (cE (sR (bB (sR (sL (sR (body)))))))))))))) (.seq (.code (sL (cE (sR (cE (sR (bB (sR (sL (sR (body))))))))))) (.cond (.tmp 97) (.seq (.code (sL (cT (sR (cE (sR (cE (sR (bB (sR (sL (sR (body))))))))))))) (.seq (.seq (.code (sL (sL (sR (cT (sR (cE (sR (cE (sR (bB (sR (sL (sR (body))))))))))))))) (.block 3 (.cut (l5E fun p_0 x4b x4o out_10b out_10o x100a x100l x100c x101 x102 m => l5  p_0 x4b x4o out_10b out_10o x100a x100l x100c x101 x102 R m) (.loop (lP (bB (sR (sL (sR (cT (sR (cE (sR (cE (sR (bB (sR (sL (sR (body)))))))))))))))))))) (.code (sR (sR (cT (sR (cE (sR (cE (sR (bB (sR (sL (sR (body)))))))))))))))) (.code (cE (sR (cE (sR (cE (sR (bB (sR (sL (sR (body)))))))))))))))))))) (.seq (.code (sL (sR (sR (body))))) (.seq (.code (sL (sR (sR (sR (body)))))) (.cut (k6E fun r_3b r_3o x4b x4o q_14b q_14o m => k6  r_3b r_3o x4b x4o q_14b q_14o R m) (sR (sR (sR (sR (body))))))))))
abbrev k6Q  (R : Ending → Mem → Prop) : Exit → Env → Mem → Prop := (bodyQ P fn R)
abbrev k1Q  (R : Ending → Mem → Prop) : Exit → Env → Mem → Prop := (blockQ 0 (thenQ (acpt P od (panicR R) (.seq (.code (sL (sR (sR (body))))) (.seq (.code (sL (sR (sR (sR (body)))))) (.cut (k6E fun r_3b r_3o x4b x4o q_14b q_14o m => k6  r_3b r_3o x4b x4o q_14b q_14o R m) (sR (sR (sR (sR (body)))))))) (bodyQ P fn R)) (bodyQ P fn R)))
abbrev l2Q  (R : Ending → Mem → Prop) : Exit → Env → Mem → Prop := (blockQ 1 (thenQ (acpt P od (panicR R) (.code (sR (sR (cT (sR (cE (sR (bB (sR (sL (sR (body)))))))))))) (blockQ 0 (thenQ (acpt P od (panicR R) (.seq (.code (sL (sR (sR (body))))) (.seq (.code (sL (sR (sR (sR (body)))))) (.cut (k6E fun r_3b r_3o x4b x4o q_14b q_14o m => k6  r_3b r_3o x4b x4o q_14b q_14o R m) (sR (sR (sR (sR (body)))))))) (bodyQ P fn R)) (bodyQ P fn R)))) (blockQ 0 (thenQ (acpt P od (panicR R) (.seq (.code (sL (sR (sR (body))))) (.seq (.code (sL (sR (sR (sR (body)))))) (.cut (k6E fun r_3b r_3o x4b x4o q_14b q_14o m => k6  r_3b r_3o x4b x4o q_14b q_14o R m) (sR (sR (sR (sR (body)))))))) (bodyQ P fn R)) (bodyQ P fn R)))))
abbrev l5Q  (R : Ending → Mem → Prop) : Exit → Env → Mem → Prop := (blockQ 3 (thenQ (acpt P od (panicR R) (.code (sR (sR (cT (sR (cE (sR (cE (sR (bB (sR (sL (sR (body)))))))))))))) (blockQ 0 (thenQ (acpt P od (panicR R) (.seq (.code (sL (sR (sR (body))))) (.seq (.code (sL (sR (sR (sR (body)))))) (.cut (k6E fun r_3b r_3o x4b x4o q_14b q_14o m => k6  r_3b r_3o x4b x4o q_14b q_14o R m) (sR (sR (sR (sR (body)))))))) (bodyQ P fn R)) (bodyQ P fn R)))) (blockQ 0 (thenQ (acpt P od (panicR R) (.seq (.code (sL (sR (sR (body))))) (.seq (.code (sL (sR (sR (sR (body)))))) (.cut (k6E fun r_3b r_3o x4b x4o q_14b q_14o m => k6  r_3b r_3o x4b x4o q_14b q_14o R m) (sR (sR (sR (sR (body)))))))) (bodyQ P fn R)) (bodyQ P fn R)))))
abbrev k3Q (K2 : Option Addr → Nat → Nat → Nat → Nat → Option Addr → Nat → Nat → Int → Int → Mem → Prop) (R : Ending → Mem → Prop) : Exit → Env → Mem → Prop := (blockQ 2 (thenQ (acpt P od (panicR R) (.code (sR (sR (sR (lP (bB (sR (sL (sR (cT (sR (cE (sR (bB (sR (sL (sR (body)))))))))))))))))) (thenQ (l2E K2) (l2Q  R))) (thenQ (l2E K2) (l2Q  R))))
abbrev k4Q (K2 : Option Addr → Nat → Nat → Nat → Nat → Option Addr → Nat → Nat → Int → Int → Mem → Prop) (R : Ending → Mem → Prop) : Exit → Env → Mem → Prop := (k3Q K2 R)
theorem k1_eq  (R : Ending → Mem → Prop) (x4b : Nat) (x4o : Nat) (n_5 : Int) (ρ : Env) (m : Mem) : k1  x4b x4o n_5 R m = acpt P od (panicR R) (k1A  R) (k1Q  R) (upd (upd ρ 5 (.int .i64 n_5)) 4 (.pointer (some ⟨x4b, x4o, none⟩))) m := by kernel_rfl
theorem k1_er  (R : Ending → Mem → Prop) : (k1A  R).erase = sR (sR (cT (sR (bB (sR (sL (sR (body)))))))) := by kernel_rfl
theorem k1_ok  (R : Ending → Mem → Prop) (ρ : Env) (m : Mem) (h : (k1E fun x4b x4o n_5 m => k1  x4b x4o n_5 R m) ρ m) : cpt P od (panicR R) (sR (sR (cT (sR (bB (sR (sL (sR (body))))))))) (k1Q  R) ρ m := by
  unfold k1E at h
  obtain ⟨x4b, x4o, e4, h⟩ := h.ex
  obtain ⟨n_5, e5, h⟩ := h.ex
  rw [← upd_self e4, ← upd_self e5]
  rw [← k1_er  R]
  refine acpt_sound (P := P) (k1A  R) _ _ _ True.intro ?_
  exact Eq.mp (k1_eq  R x4b x4o n_5 ρ m) h
theorem k4_eq (K2 : Option Addr → Nat → Nat → Nat → Nat → Option Addr → Nat → Nat → Int → Int → Mem → Prop) (R : Ending → Mem → Prop) (p_0 : Option Addr) (x4b : Nat) (x4o : Nat) (out_6b : Nat) (out_6o : Nat) (q_9b : Nat) (q_9o : Nat) (x53a : Option Addr) (x53l : Nat) (x53c : Nat) (x54 : Int) (x55 : Int) (ρ : Env) (m : Mem) : k4 K2 p_0 x4b x4o out_6b out_6o q_9b q_9o x53a x53l x53c x54 x55 R m = acpt P od (panicR R) (k4A K2 R) (k4Q K2 R) (upd (upd (upd (upd (upd (upd (upd ρ 55 (.int .i64 x55)) 54 (.int .i64 x54)) 53 (.slice x53a x53l x53c)) 9 (.pointer (some ⟨q_9b, q_9o, none⟩))) 6 (.pointer (some ⟨out_6b, out_6o, none⟩))) 4 (.pointer (some ⟨x4b, x4o, none⟩))) 0 (.pointer p_0)) m := by kernel_rfl
theorem k4_er (K2 : Option Addr → Nat → Nat → Nat → Nat → Option Addr → Nat → Nat → Int → Int → Mem → Prop) (R : Ending → Mem → Prop) : (k4A K2 R).erase = sR (sR (sR (sR (sR (bB (sL (sR (sR (lP (bB (sR (sL (sR (cT (sR (cE (sR (bB (sR (sL (sR (body)))))))))))))))))))))) := by kernel_rfl
theorem k4_ok (K2 : Option Addr → Nat → Nat → Nat → Nat → Option Addr → Nat → Nat → Int → Int → Mem → Prop) (R : Ending → Mem → Prop) (ρ : Env) (m : Mem) (h : (k4E fun p_0 x4b x4o out_6b out_6o q_9b q_9o x53a x53l x53c x54 x55 m => k4 K2 p_0 x4b x4o out_6b out_6o q_9b q_9o x53a x53l x53c x54 x55 R m) ρ m) : cpt P od (panicR R) (sR (sR (sR (sR (sR (bB (sL (sR (sR (lP (bB (sR (sL (sR (cT (sR (cE (sR (bB (sR (sL (sR (body))))))))))))))))))))))) (k4Q K2 R) ρ m := by
  unfold k4E at h
  obtain ⟨p_0, e0, h⟩ := h.ex
  obtain ⟨x4b, x4o, e4, h⟩ := h.ex
  obtain ⟨out_6b, out_6o, e6, h⟩ := h.ex
  obtain ⟨q_9b, q_9o, e9, h⟩ := h.ex
  obtain ⟨x53a, x53l, x53c, e53, h⟩ := h.ex
  obtain ⟨x54, e54, h⟩ := h.ex
  obtain ⟨x55, e55, h⟩ := h.ex
  rw [← upd_self e0, ← upd_self e4, ← upd_self e6, ← upd_self e9, ← upd_self e53, ← upd_self e54, ← upd_self e55]
  rw [← k4_er K2 R]
  refine acpt_sound (P := P) (k4A K2 R) _ _ _ True.intro ?_
  exact Eq.mp (k4_eq K2 R p_0 x4b x4o out_6b out_6o q_9b q_9o x53a x53l x53c x54 x55 ρ m) h
theorem k3_eq (K2 : Option Addr → Nat → Nat → Nat → Nat → Option Addr → Nat → Nat → Int → Int → Mem → Prop) (R : Ending → Mem → Prop) (p_0 : Option Addr) (x4b : Nat) (x4o : Nat) (out_6b : Nat) (out_6o : Nat) (q_9b : Nat) (q_9o : Nat) (x53a : Option Addr) (x53l : Nat) (x53c : Nat) (x54 : Int) (x55 : Int) (ρ : Env) (m : Mem) : k3 K2 p_0 x4b x4o out_6b out_6o q_9b q_9o x53a x53l x53c x54 x55 R m = acpt P od (panicR R) (k3A K2 R) (k3Q K2 R) (upd (upd (upd (upd (upd (upd (upd ρ 55 (.int .i64 x55)) 54 (.int .i64 x54)) 53 (.slice x53a x53l x53c)) 9 (.pointer (some ⟨q_9b, q_9o, none⟩))) 6 (.pointer (some ⟨out_6b, out_6o, none⟩))) 4 (.pointer (some ⟨x4b, x4o, none⟩))) 0 (.pointer p_0)) m := by kernel_rfl
theorem k3_er (K2 : Option Addr → Nat → Nat → Nat → Nat → Option Addr → Nat → Nat → Int → Int → Mem → Prop) (R : Ending → Mem → Prop) : (k3A K2 R).erase = sR (sR (sR (sR (bB (sL (sR (sR (lP (bB (sR (sL (sR (cT (sR (cE (sR (bB (sR (sL (sR (body))))))))))))))))))))) := by kernel_rfl
theorem k3_ok (K2 : Option Addr → Nat → Nat → Nat → Nat → Option Addr → Nat → Nat → Int → Int → Mem → Prop) (R : Ending → Mem → Prop) (ρ : Env) (m : Mem) (h : (k3E fun p_0 x4b x4o out_6b out_6o q_9b q_9o x53a x53l x53c x54 x55 m => k3 K2 p_0 x4b x4o out_6b out_6o q_9b q_9o x53a x53l x53c x54 x55 R m) ρ m) : cpt P od (panicR R) (sR (sR (sR (sR (bB (sL (sR (sR (lP (bB (sR (sL (sR (cT (sR (cE (sR (bB (sR (sL (sR (body)))))))))))))))))))))) (k3Q K2 R) ρ m := by
  unfold k3E at h
  obtain ⟨p_0, e0, h⟩ := h.ex
  obtain ⟨x4b, x4o, e4, h⟩ := h.ex
  obtain ⟨out_6b, out_6o, e6, h⟩ := h.ex
  obtain ⟨q_9b, q_9o, e9, h⟩ := h.ex
  obtain ⟨x53a, x53l, x53c, e53, h⟩ := h.ex
  obtain ⟨x54, e54, h⟩ := h.ex
  obtain ⟨x55, e55, h⟩ := h.ex
  rw [← upd_self e0, ← upd_self e4, ← upd_self e6, ← upd_self e9, ← upd_self e53, ← upd_self e54, ← upd_self e55]
  rw [← k3_er K2 R]
  refine acpt_sound (P := P) (k3A K2 R) _ _ _ ⟨(fun ρ m h => k4_ok K2 R ρ m h), True.intro⟩ ?_
  exact Eq.mp (k3_eq K2 R p_0 x4b x4o out_6b out_6o q_9b q_9o x53a x53l x53c x54 x55 ρ m) h
theorem l2_eq  (K2 : Option Addr → Nat → Nat → Nat → Nat → Option Addr → Nat → Nat → Int → Int → Mem → Prop) (R : Ending → Mem → Prop) (p_0 : Option Addr) (x4b : Nat) (x4o : Nat) (out_6b : Nat) (out_6o : Nat) (x53a : Option Addr) (x53l : Nat) (x53c : Nat) (x54 : Int) (x55 : Int) (ρ : Env) (m : Mem) : l2B  K2 p_0 x4b x4o out_6b out_6o x53a x53l x53c x54 x55 R m = acpt P od (panicR R) (l2A  K2 R) (thenQ (l2E K2) (l2Q  R)) (upd (upd (upd (upd (upd (upd ρ 55 (.int .i64 x55)) 54 (.int .i64 x54)) 53 (.slice x53a x53l x53c)) 6 (.pointer (some ⟨out_6b, out_6o, none⟩))) 4 (.pointer (some ⟨x4b, x4o, none⟩))) 0 (.pointer p_0)) m := by kernel_rfl
theorem l2_er  (K2 : Option Addr → Nat → Nat → Nat → Nat → Option Addr → Nat → Nat → Int → Int → Mem → Prop) (R : Ending → Mem → Prop) : (l2A  K2 R).erase = lP (bB (sR (sL (sR (cT (sR (cE (sR (bB (sR (sL (sR (body))))))))))))) := by kernel_rfl
theorem l2_ok  (R : Ending → Mem → Prop) (ρ : Env) (m : Mem) (h : (l2E fun p_0 x4b x4o out_6b out_6o x53a x53l x53c x54 x55 m => l2  p_0 x4b x4o out_6b out_6o x53a x53l x53c x54 x55 R m) ρ m) : cpt P od (panicR R) (.loop (lP (bB (sR (sL (sR (cT (sR (cE (sR (bB (sR (sL (sR (body))))))))))))))) (l2Q  R) ρ m := by
  unfold l2E at h
  obtain ⟨p_0, e0, h⟩ := h.ex
  obtain ⟨x4b, x4o, e4, h⟩ := h.ex
  obtain ⟨out_6b, out_6o, e6, h⟩ := h.ex
  obtain ⟨x53a, x53l, x53c, e53, h⟩ := h.ex
  obtain ⟨x54, e54, h⟩ := h.ex
  obtain ⟨x55, e55, h⟩ := h.ex
  obtain ⟨I, N, h0, hs⟩ := h
  refine ⟨fun N => l2E (I N), N, (by show l2E (I N) ρ m; unfold l2E; rw [e0, e4, e6, e53, e54, e55]; exact h0), ?_⟩
  clear h0 e0 e4 e6 e53 e54 e55
  intro N ρ m h
  unfold l2E at h
  obtain ⟨p_0, e0, h⟩ := h.ex
  obtain ⟨x4b, x4o, e4, h⟩ := h.ex
  obtain ⟨out_6b, out_6o, e6, h⟩ := h.ex
  obtain ⟨x53a, x53l, x53c, e53, h⟩ := h.ex
  obtain ⟨x54, e54, h⟩ := h.ex
  obtain ⟨x55, e55, h⟩ := h.ex
  refine cpt_mono (P := P) (lP (bB (sR (sL (sR (cT (sR (cE (sR (bB (sR (sL (sR (body)))))))))))))) (Q := thenQ (l2E fun p_0 x4b x4o out_6b out_6o x53a x53l x53c x54 x55 m => ∃ N1, N1 < N ∧ I N1 p_0 x4b x4o out_6b out_6o x53a x53l x53c x54 x55 m) (l2Q  R)) (fun e ρ m h => ?_) ρ m ?_
  · cases e with
    | normal =>
      have h : l2E (fun p_0 x4b x4o out_6b out_6o x53a x53l x53c x54 x55 m => ∃ N1, N1 < N ∧ I N1 p_0 x4b x4o out_6b out_6o x53a x53l x53c x54 x55 m) ρ m := h
      unfold l2E at h
      obtain ⟨p_0, e0, h⟩ := h.ex
      obtain ⟨x4b, x4o, e4, h⟩ := h.ex
      obtain ⟨out_6b, out_6o, e6, h⟩ := h.ex
      obtain ⟨x53a, x53l, x53c, e53, h⟩ := h.ex
      obtain ⟨x54, e54, h⟩ := h.ex
      obtain ⟨x55, e55, h⟩ := h.ex
      obtain ⟨N1, hlt, h⟩ := h
      exact ⟨N1, hlt, (by show l2E (I N1) ρ m; unfold l2E; rw [e0, e4, e6, e53, e54, e55]; exact h)⟩
    | _ => exact h
  have hh := hs N p_0 x4b x4o out_6b out_6o x53a x53l x53c x54 x55 m h
  generalize (fun p_0 x4b x4o out_6b out_6o x53a x53l x53c x54 x55 m => ∃ N1, N1 < N ∧ I N1 p_0 x4b x4o out_6b out_6o x53a x53l x53c x54 x55 m : Option Addr → Nat → Nat → Nat → Nat → Option Addr → Nat → Nat → Int → Int → Mem → Prop) = K2 at hh ⊢
  rw [← upd_self e0, ← upd_self e4, ← upd_self e6, ← upd_self e53, ← upd_self e54, ← upd_self e55]
  rw [← l2_er  K2 R]
  refine acpt_sound (P := P) (l2A  K2 R) _ _ _ ⟨⟨⟨True.intro, ⟨⟨⟨⟨(fun ρ m h => k3_ok K2 R ρ m h), True.intro⟩, True.intro⟩, True.intro⟩, True.intro⟩⟩, True.intro⟩, True.intro⟩ ?_
  exact Eq.mp (l2_eq  K2 R p_0 x4b x4o out_6b out_6o x53a x53l x53c x54 x55 ρ m) hh
theorem l5_eq  (K5 : Option Addr → Nat → Nat → Nat → Nat → Option Addr → Nat → Nat → Int → Int → Mem → Prop) (R : Ending → Mem → Prop) (p_0 : Option Addr) (x4b : Nat) (x4o : Nat) (out_10b : Nat) (out_10o : Nat) (x100a : Option Addr) (x100l : Nat) (x100c : Nat) (x101 : Int) (x102 : Int) (ρ : Env) (m : Mem) : l5B  K5 p_0 x4b x4o out_10b out_10o x100a x100l x100c x101 x102 R m = acpt P od (panicR R) (l5A  K5 R) (thenQ (l5E K5) (l5Q  R)) (upd (upd (upd (upd (upd (upd ρ 102 (.int .i64 x102)) 101 (.int .i64 x101)) 100 (.slice x100a x100l x100c)) 10 (.pointer (some ⟨out_10b, out_10o, none⟩))) 4 (.pointer (some ⟨x4b, x4o, none⟩))) 0 (.pointer p_0)) m := by kernel_rfl
theorem l5_er  (K5 : Option Addr → Nat → Nat → Nat → Nat → Option Addr → Nat → Nat → Int → Int → Mem → Prop) (R : Ending → Mem → Prop) : (l5A  K5 R).erase = lP (bB (sR (sL (sR (cT (sR (cE (sR (cE (sR (bB (sR (sL (sR (body))))))))))))))) := by kernel_rfl
theorem l5_ok  (R : Ending → Mem → Prop) (ρ : Env) (m : Mem) (h : (l5E fun p_0 x4b x4o out_10b out_10o x100a x100l x100c x101 x102 m => l5  p_0 x4b x4o out_10b out_10o x100a x100l x100c x101 x102 R m) ρ m) : cpt P od (panicR R) (.loop (lP (bB (sR (sL (sR (cT (sR (cE (sR (cE (sR (bB (sR (sL (sR (body))))))))))))))))) (l5Q  R) ρ m := by
  unfold l5E at h
  obtain ⟨p_0, e0, h⟩ := h.ex
  obtain ⟨x4b, x4o, e4, h⟩ := h.ex
  obtain ⟨out_10b, out_10o, e10, h⟩ := h.ex
  obtain ⟨x100a, x100l, x100c, e100, h⟩ := h.ex
  obtain ⟨x101, e101, h⟩ := h.ex
  obtain ⟨x102, e102, h⟩ := h.ex
  obtain ⟨I, N, h0, hs⟩ := h
  refine ⟨fun N => l5E (I N), N, (by show l5E (I N) ρ m; unfold l5E; rw [e0, e4, e10, e100, e101, e102]; exact h0), ?_⟩
  clear h0 e0 e4 e10 e100 e101 e102
  intro N ρ m h
  unfold l5E at h
  obtain ⟨p_0, e0, h⟩ := h.ex
  obtain ⟨x4b, x4o, e4, h⟩ := h.ex
  obtain ⟨out_10b, out_10o, e10, h⟩ := h.ex
  obtain ⟨x100a, x100l, x100c, e100, h⟩ := h.ex
  obtain ⟨x101, e101, h⟩ := h.ex
  obtain ⟨x102, e102, h⟩ := h.ex
  refine cpt_mono (P := P) (lP (bB (sR (sL (sR (cT (sR (cE (sR (cE (sR (bB (sR (sL (sR (body)))))))))))))))) (Q := thenQ (l5E fun p_0 x4b x4o out_10b out_10o x100a x100l x100c x101 x102 m => ∃ N1, N1 < N ∧ I N1 p_0 x4b x4o out_10b out_10o x100a x100l x100c x101 x102 m) (l5Q  R)) (fun e ρ m h => ?_) ρ m ?_
  · cases e with
    | normal =>
      have h : l5E (fun p_0 x4b x4o out_10b out_10o x100a x100l x100c x101 x102 m => ∃ N1, N1 < N ∧ I N1 p_0 x4b x4o out_10b out_10o x100a x100l x100c x101 x102 m) ρ m := h
      unfold l5E at h
      obtain ⟨p_0, e0, h⟩ := h.ex
      obtain ⟨x4b, x4o, e4, h⟩ := h.ex
      obtain ⟨out_10b, out_10o, e10, h⟩ := h.ex
      obtain ⟨x100a, x100l, x100c, e100, h⟩ := h.ex
      obtain ⟨x101, e101, h⟩ := h.ex
      obtain ⟨x102, e102, h⟩ := h.ex
      obtain ⟨N1, hlt, h⟩ := h
      exact ⟨N1, hlt, (by show l5E (I N1) ρ m; unfold l5E; rw [e0, e4, e10, e100, e101, e102]; exact h)⟩
    | _ => exact h
  have hh := hs N p_0 x4b x4o out_10b out_10o x100a x100l x100c x101 x102 m h
  generalize (fun p_0 x4b x4o out_10b out_10o x100a x100l x100c x101 x102 m => ∃ N1, N1 < N ∧ I N1 p_0 x4b x4o out_10b out_10o x100a x100l x100c x101 x102 m : Option Addr → Nat → Nat → Nat → Nat → Option Addr → Nat → Nat → Int → Int → Mem → Prop) = K5 at hh ⊢
  rw [← upd_self e0, ← upd_self e4, ← upd_self e10, ← upd_self e100, ← upd_self e101, ← upd_self e102]
  rw [← l5_er  K5 R]
  refine acpt_sound (P := P) (l5A  K5 R) _ _ _ True.intro ?_
  exact Eq.mp (l5_eq  K5 R p_0 x4b x4o out_10b out_10o x100a x100l x100c x101 x102 ρ m) hh
theorem k6_eq  (R : Ending → Mem → Prop) (r_3b : Nat) (r_3o : Nat) (x4b : Nat) (x4o : Nat) (q_14b : Nat) (q_14o : Nat) (ρ : Env) (m : Mem) : k6  r_3b r_3o x4b x4o q_14b q_14o R m = acpt P od (panicR R) (k6A  R) (k6Q  R) (upd (upd (upd ρ 14 (.pointer (some ⟨q_14b, q_14o, none⟩))) 4 (.pointer (some ⟨x4b, x4o, none⟩))) 3 (.pointer (some ⟨r_3b, r_3o, none⟩))) m := by kernel_rfl
theorem k6_er  (R : Ending → Mem → Prop) : (k6A  R).erase = sR (sR (sR (sR (body)))) := by kernel_rfl
theorem k6_ok  (R : Ending → Mem → Prop) (ρ : Env) (m : Mem) (h : (k6E fun r_3b r_3o x4b x4o q_14b q_14o m => k6  r_3b r_3o x4b x4o q_14b q_14o R m) ρ m) : cpt P od (panicR R) (sR (sR (sR (sR (body))))) (k6Q  R) ρ m := by
  unfold k6E at h
  obtain ⟨r_3b, r_3o, e3, h⟩ := h.ex
  obtain ⟨x4b, x4o, e4, h⟩ := h.ex
  obtain ⟨q_14b, q_14o, e14, h⟩ := h.ex
  rw [← upd_self e3, ← upd_self e4, ← upd_self e14]
  rw [← k6_er  R]
  refine acpt_sound (P := P) (k6A  R) _ _ _ True.intro ?_
  exact Eq.mp (k6_eq  R r_3b r_3o x4b x4o q_14b q_14o ρ m) h
theorem e0_eq (p_0 : Option Addr) (r_1_0 : Int) (r_1_1 : Int) (r_1_2 : Int) (r_1_3 : Int) (r_1_4 : Int) (r_1_5a : Option Addr) (r_1_5l : Nat) (r_1_5c : Nat) (R : Ending → Mem → Prop) (m : Mem) : e0 p_0 r_1_0 r_1_1 r_1_2 r_1_3 r_1_4 r_1_5a r_1_5l r_1_5c R m = acpt P od (panicR R) (e0A R) (bodyQ P fn R) (argE (#[.pointer p_0, .agg #[.int .i64 r_1_0, .int .u64 r_1_1, .int .u64 r_1_2, .int .u64 r_1_3, .int .u64 r_1_4, .slice r_1_5a r_1_5l r_1_5c]] : Array Value).toList) m := by kernel_rfl
theorem ok (p_0 : Option Addr) (r_1_0 : Int) (r_1_1 : Int) (r_1_2 : Int) (r_1_3 : Int) (r_1_4 : Int) (r_1_5a : Option Addr) (r_1_5l : Nat) (r_1_5c : Nat) (R : Ending → Mem → Prop) (m : Mem) (h : e0 p_0 r_1_0 r_1_1 r_1_2 r_1_3 r_1_4 r_1_5a r_1_5l r_1_5c R m) : HC P id #[.pointer p_0, .agg #[.int .i64 r_1_0, .int .u64 r_1_1, .int .u64 r_1_2, .int .u64 r_1_3, .int .u64 r_1_4, .slice r_1_5a r_1_5l r_1_5c]] m R := by
  refine HC_of (fn := fn) (c := body) (od := od) (tb := tb) Go.Proofs.Try.func22 (by kernel_rfl) (by kernel_rfl) follows (by kernel_rfl) (of_decide_eq_true (by kernel_rfl)) ?_
  have he : (e0A R).erase = body := by kernel_rfl
  rw [← he]
  refine acpt_sound (P := P) (e0A R) _ _ _ ⟨⟨⟨⟨(fun ρ m h => k6_ok  R ρ m h), True.intro⟩, True.intro⟩, ⟨⟨⟨⟨⟨(fun ρ m h => k1_ok  R ρ m h), True.intro⟩, True.intro⟩, ⟨⟨⟨⟨True.intro, ⟨(fun ρ m h => l2_ok  R ρ m h), True.intro⟩⟩, True.intro⟩, ⟨⟨⟨⟨True.intro, ⟨(fun ρ m h => l5_ok  R ρ m h), True.intro⟩⟩, True.intro⟩, True.intro⟩, True.intro⟩⟩, True.intro⟩⟩, True.intro⟩, True.intro⟩⟩, True.intro⟩ ?_
  exact Eq.mp (e0_eq p_0 r_1_0 r_1_1 r_1_2 r_1_3 r_1_4 r_1_5a r_1_5l r_1_5c R m) h
end place_Places_walk
end
end Go.E
set_option linter.unusedVariables false
set_option maxRecDepth 100000
namespace Go.E
open Go.H
noncomputable section
/-! ### eyot/eyotref8.Of -/
namespace eyotref8_Of
noncomputable def fn : Func := Go.Proofs.Try.f27
noncomputable def body : Code := fn.body.getD .skip
def od : Nat → Ord := fun | 5 => ordL [(0, 3), (1, 3), (2, 3), (3, 1), (4, 3), (5, 3), (6, 1), (7, 3), (8, 3), (9, 3), (10, 0), (11, 3), (12, 3), (13, 3), (14, 3), (15, 2)] .done | _ => .done
def tb : Nat → Tab := fun | 5 => (32768, [0, 0, 3, 7, 15, 31, 63, 0, 0, 384, 896, 1920, 3968, 8191, 16383, 32767], [(0, 1, 12), (0, 16, 13), (3, 6144, 14), (4, 8192, 15), (8, 16384, 16), (16, 32776, 17), (32, 65536, 18), (0, 1, 19), (0, 16, 20), (384, 786432, 21), (512, 1048576, 22), (1024, 2097152, 23), (2048, 4194304, 24), (4160, 8519680, 25), (16383, 32776, 26), (32767, 50331648, 0)]) | _ => (0, [], [])
def l1E (K : Option Addr → Nat → Nat → Nat → Nat → Nat → Nat → Int → Mem → Prop) : Env → Mem → Prop := fun ρ m => UnS (ρ 0) fun l_0a l_0l l_0c => UnPA (ρ 2) fun x2b x2o => UnPA (ρ 3) fun s_3b s_3o => UnI (ρ 4) .i64 fun i_4 => K l_0a l_0l l_0c x2b x2o s_3b s_3o i_4 m
def l1B  (K1 : Option Addr → Nat → Nat → Nat → Nat → Nat → Nat → Int → Mem → Prop) (l_0a : Option Addr) (l_0l : Nat) (l_0c : Nat) (x2b : Nat) (x2o : Nat) (s_3b : Nat) (s_3o : Nat) (i_4 : Int) (R : Ending → Mem → Prop) (m : Mem) : Prop :=
 Br (decide (i_4 < ((l_0l : Nat) : Int))) (
  Sub m fun r1 =>
  IxS l_0a l_0l i_4 1 fun x13b x13o =>
  LdV r1 x13b x13o fun v =>
  UnI v .u8 fun x14 =>
  0 ≤ (IntKind.u8.wrap (Int.tdiv x14 64) : Int) ∧ (IntKind.u8.wrap (Int.tdiv x14 64) : Int) < (4 : Nat) ∧ (
   LdV r1 s_3b (s_3o + (IntKind.u8.wrap (Int.tdiv x14 64) : Int).toNat * 1) fun v =>
   UnI v .u64 fun x17 =>
   IxS l_0a l_0l i_4 1 fun x20b x20o =>
   LdV m x20b x20o fun v =>
   UnI v .u8 fun x21 =>
   NnI (Int.tmod x21 64) (
    0 ≤ (IntKind.u8.wrap (Int.tdiv x14 64) : Int) ∧ (IntKind.u8.wrap (Int.tdiv x14 64) : Int) < (4 : Nat) ∧ (
     St1 m s_3b (s_3o + (IntKind.u8.wrap (Int.tdiv x14 64) : Int).toNat * 1) (.int .u64 (bitsV .or .u64 x17 (shlV .u64 1 (Int.tmod x21 64)))) fun m2 =>
     K1 l_0a l_0l l_0c x2b x2o s_3b s_3o (IntKind.i64.wrap (i_4 + 1)) m2)))) (
  LdV m s_3b s_3o fun v =>
  UnI v .u64 fun x26_0 =>
  LdV m s_3b (s_3o + 1) fun v =>
  UnI v .u64 fun x26_1 =>
  LdV m s_3b (s_3o + 2) fun v =>
  UnI v .u64 fun x26_2 =>
  LdV m s_3b (s_3o + 3) fun v =>
  UnI v .u64 fun x26_3 =>
  St1 m x2b x2o (.int .u64 x26_0) fun m1 =>
  St1 m1 x2b (x2o + 1) (.int .u64 x26_1) fun m2 =>
  St1 m2 x2b (x2o + 2) (.int .u64 x26_2) fun m3 =>
  St1 m3 x2b (x2o + 3) (.int .u64 x26_3) fun m4 =>
  LdV m4 x2b x2o fun v =>
  UnI v .u64 fun res0_0 =>
  LdV m4 x2b (x2o + 1) fun v =>
  UnI v .u64 fun res0_1 =>
  LdV m4 x2b (x2o + 2) fun v =>
  UnI v .u64 fun res0_2 =>
  LdV m4 x2b (x2o + 3) fun v =>
  UnI v .u64 fun res0_3 =>
  R (.returned (.agg #[.int .u64 res0_0, .int .u64 res0_1, .int .u64 res0_2, .int .u64 res0_3])) m4)
def l1  (l_0a : Option Addr) (l_0l : Nat) (l_0c : Nat) (x2b : Nat) (x2o : Nat) (s_3b : Nat) (s_3o : Nat) (i_4 : Int) (R : Ending → Mem → Prop) (m : Mem) : Prop :=
  ∃ (I : Nat → Option Addr → Nat → Nat → Nat → Nat → Nat → Nat → Int → Mem → Prop) (N : Nat), I N l_0a l_0l l_0c x2b x2o s_3b s_3o i_4 m ∧ ∀ N l_0a l_0l l_0c x2b x2o s_3b s_3o i_4 m, I N l_0a l_0l l_0c x2b x2o s_3b s_3o i_4 m → l1B  (fun l_0a l_0l l_0c x2b x2o s_3b s_3o i_4 m => ∃ N1, N1 < N ∧ I N1 l_0a l_0l l_0c x2b x2o s_3b s_3o i_4 m) l_0a l_0l l_0c x2b x2o s_3b s_3o i_4 R m
noncomputable def l1A  (K1 : Option Addr → Nat → Nat → Nat → Nat → Nat → Nat → Int → Mem → Prop) (R : Ending → Mem → Prop) : ACode := (.code (lP (bB (sR (sL (sR (sR (body))))))))
def e0 (l_0a : Option Addr) (l_0l : Nat) (l_0c : Nat) (R : Ending → Mem → Prop) (m : Mem) : Prop :=
 NewC m #[.int .u64 0, .int .u64 0, .int .u64 0, .int .u64 0] T_api_Set fun b2 m1 =>
 NewC m1 #[.int .u64 0, .int .u64 0, .int .u64 0, .int .u64 0] T_api_Set fun b_s_3 m2 =>
 l1  l_0a l_0l l_0c b2 0 b_s_3 0 0 R m2
noncomputable def e0A (R : Ending → Mem → Prop) : ACode := (.seq (.code (sL (body))) (.seq (.code (sL (sR (body)))) (.seq (.seq (.code (sL (sL (sR (sR (body)))))) (.block 0 (.cut (l1E fun l_0a l_0l l_0c x2b x2o s_3b s_3o i_4 m => l1  l_0a l_0l l_0c x2b x2o s_3b s_3o i_4 R m) (.loop (lP (bB (sR (sL (sR (sR (body))))))))))) (.code (sR (sR (sR (body))))))))
abbrev l1Q  (R : Ending → Mem → Prop) : Exit → Env → Mem → Prop := (blockQ 0 (thenQ (acpt P od (panicR R) (.code (sR (sR (sR (body))))) (bodyQ P fn R)) (bodyQ P fn R)))
theorem l1_eq  (K1 : Option Addr → Nat → Nat → Nat → Nat → Nat → Nat → Int → Mem → Prop) (R : Ending → Mem → Prop) (l_0a : Option Addr) (l_0l : Nat) (l_0c : Nat) (x2b : Nat) (x2o : Nat) (s_3b : Nat) (s_3o : Nat) (i_4 : Int) (ρ : Env) (m : Mem) : l1B  K1 l_0a l_0l l_0c x2b x2o s_3b s_3o i_4 R m = acpt P od (panicR R) (l1A  K1 R) (thenQ (l1E K1) (l1Q  R)) (upd (upd (upd (upd ρ 4 (.int .i64 i_4)) 3 (.pointer (some ⟨s_3b, s_3o, none⟩))) 2 (.pointer (some ⟨x2b, x2o, none⟩))) 0 (.slice l_0a l_0l l_0c)) m := by kernel_rfl
theorem l1_er  (K1 : Option Addr → Nat → Nat → Nat → Nat → Nat → Nat → Int → Mem → Prop) (R : Ending → Mem → Prop) : (l1A  K1 R).erase = lP (bB (sR (sL (sR (sR (body)))))) := by kernel_rfl
theorem l1_ok  (R : Ending → Mem → Prop) (ρ : Env) (m : Mem) (h : (l1E fun l_0a l_0l l_0c x2b x2o s_3b s_3o i_4 m => l1  l_0a l_0l l_0c x2b x2o s_3b s_3o i_4 R m) ρ m) : cpt P od (panicR R) (.loop (lP (bB (sR (sL (sR (sR (body)))))))) (l1Q  R) ρ m := by
  unfold l1E at h
  obtain ⟨l_0a, l_0l, l_0c, e0, h⟩ := h.ex
  obtain ⟨x2b, x2o, e2, h⟩ := h.ex
  obtain ⟨s_3b, s_3o, e3, h⟩ := h.ex
  obtain ⟨i_4, e4, h⟩ := h.ex
  obtain ⟨I, N, h0, hs⟩ := h
  refine ⟨fun N => l1E (I N), N, (by show l1E (I N) ρ m; unfold l1E; rw [e0, e2, e3, e4]; exact h0), ?_⟩
  clear h0 e0 e2 e3 e4
  intro N ρ m h
  unfold l1E at h
  obtain ⟨l_0a, l_0l, l_0c, e0, h⟩ := h.ex
  obtain ⟨x2b, x2o, e2, h⟩ := h.ex
  obtain ⟨s_3b, s_3o, e3, h⟩ := h.ex
  obtain ⟨i_4, e4, h⟩ := h.ex
  refine cpt_mono (P := P) (lP (bB (sR (sL (sR (sR (body))))))) (Q := thenQ (l1E fun l_0a l_0l l_0c x2b x2o s_3b s_3o i_4 m => ∃ N1, N1 < N ∧ I N1 l_0a l_0l l_0c x2b x2o s_3b s_3o i_4 m) (l1Q  R)) (fun e ρ m h => ?_) ρ m ?_
  · cases e with
    | normal =>
      have h : l1E (fun l_0a l_0l l_0c x2b x2o s_3b s_3o i_4 m => ∃ N1, N1 < N ∧ I N1 l_0a l_0l l_0c x2b x2o s_3b s_3o i_4 m) ρ m := h
      unfold l1E at h
      obtain ⟨l_0a, l_0l, l_0c, e0, h⟩ := h.ex
      obtain ⟨x2b, x2o, e2, h⟩ := h.ex
      obtain ⟨s_3b, s_3o, e3, h⟩ := h.ex
      obtain ⟨i_4, e4, h⟩ := h.ex
      obtain ⟨N1, hlt, h⟩ := h
      exact ⟨N1, hlt, (by show l1E (I N1) ρ m; unfold l1E; rw [e0, e2, e3, e4]; exact h)⟩
    | _ => exact h
  have hh := hs N l_0a l_0l l_0c x2b x2o s_3b s_3o i_4 m h
  generalize (fun l_0a l_0l l_0c x2b x2o s_3b s_3o i_4 m => ∃ N1, N1 < N ∧ I N1 l_0a l_0l l_0c x2b x2o s_3b s_3o i_4 m : Option Addr → Nat → Nat → Nat → Nat → Nat → Nat → Int → Mem → Prop) = K1 at hh ⊢
  rw [← upd_self e0, ← upd_self e2, ← upd_self e3, ← upd_self e4]
  rw [← l1_er  K1 R]
  refine acpt_sound (P := P) (l1A  K1 R) _ _ _ True.intro ?_
  exact Eq.mp (l1_eq  K1 R l_0a l_0l l_0c x2b x2o s_3b s_3o i_4 ρ m) hh
theorem e0_eq (l_0a : Option Addr) (l_0l : Nat) (l_0c : Nat) (R : Ending → Mem → Prop) (m : Mem) : e0 l_0a l_0l l_0c R m = acpt P od (panicR R) (e0A R) (bodyQ P fn R) (argE (#[.slice l_0a l_0l l_0c] : Array Value).toList) m := by kernel_rfl
theorem ok (l_0a : Option Addr) (l_0l : Nat) (l_0c : Nat) (R : Ending → Mem → Prop) (m : Mem) (h : e0 l_0a l_0l l_0c R m) : HC P id #[.slice l_0a l_0l l_0c] m R := by
  refine HC_of (fn := fn) (c := body) (od := od) (tb := tb) Go.Proofs.Try.func27 (by kernel_rfl) (by kernel_rfl) follows (by kernel_rfl) (of_decide_eq_true (by kernel_rfl)) ?_
  have he : (e0A R).erase = body := by kernel_rfl
  rw [← he]
  refine acpt_sound (P := P) (e0A R) _ _ _ ⟨⟨⟨True.intro, ⟨(fun ρ m h => l1_ok  R ρ m h), True.intro⟩⟩, True.intro⟩, True.intro⟩ ?_
  exact Eq.mp (e0_eq l_0a l_0l l_0c R m) h
end eyotref8_Of
/-! ### eyot/eyotref8.Not -/
namespace eyotref8_Not
noncomputable def fn : Func := Go.Proofs.Try.f28
noncomputable def body : Code := fn.body.getD .skip
def od : Nat → Ord := fun _ => .done
def tb : Nat → Tab := fun _ => (0, [], [])
def l1E (K : Nat → Nat → Nat → Nat → Option Addr → Nat → Nat → Int → Mem → Prop) : Env → Mem → Prop := fun ρ m => UnPA (ρ 1) fun a_1b a_1o => UnPA (ρ 2) fun x2b x2o => UnS (ρ 3) fun l_3a l_3l l_3c => UnI (ρ 4) .i64 fun i_4 => K a_1b a_1o x2b x2o l_3a l_3l l_3c i_4 m
def l1B  (K1 : Nat → Nat → Nat → Nat → Option Addr → Nat → Nat → Int → Mem → Prop) (a_1b : Nat) (a_1o : Nat) (x2b : Nat) (x2o : Nat) (l_3a : Option Addr) (l_3l : Nat) (l_3c : Nat) (i_4 : Int) (R : Ending → Mem → Prop) (m : Mem) : Prop :=
 Br (decide (i_4 < 256)) (
  LdV m a_1b a_1o fun v =>
  UnI v .u64 fun x9_0 =>
  LdV m a_1b (a_1o + 1) fun v =>
  UnI v .u64 fun x9_1 =>
  LdV m a_1b (a_1o + 2) fun v =>
  UnI v .u64 fun x9_2 =>
  LdV m a_1b (a_1o + 3) fun v =>
  UnI v .u64 fun x9_3 =>
  HC P eyotref8_Has.id #[.agg #[.int .u64 x9_0, .int .u64 x9_1, .int .u64 x9_2, .int .u64 x9_3], .int .u8 (IntKind.u8.wrap i_4)] m (Cont (fun v m1 =>
    UnB v fun x12 =>
    Br (!x12) (
     NewC m1 #[.int .u8 (IntKind.u8.wrap i_4)] T_uint8 fun b17 m2 =>
     BiN P .append #[T_sl_uint8, T_sl_uint8] T_sl_uint8 #[false, false] #[.slice l_3a l_3l l_3c, .slice (some ⟨b17, 0, none⟩) 1 1] m2 (fun w m3 =>
      UnS w fun x18a x18l x18c =>
      K1 a_1b a_1o x2b x2o x18a x18l x18c (IntKind.i64.wrap (i_4 + 1)) m3) (panicR R)) (
     K1 a_1b a_1o x2b x2o l_3a l_3l l_3c (IntKind.i64.wrap (i_4 + 1)) m1)) (panicR R))) (
  HC P eyotref8_Of.id #[.slice l_3a l_3l l_3c] m (Cont (fun v m1 =>
    UnAgg v fun l =>
    UnCons l fun v l =>
    UnI v .u64 fun x20_0 =>
    UnCons l fun v l =>
    UnI v .u64 fun x20_1 =>
    UnCons l fun v l =>
    UnI v .u64 fun x20_2 =>
    UnCons l fun v l =>
    UnI v .u64 fun x20_3 =>
    UnNil l (
     St1 m1 x2b x2o (.int .u64 x20_0) fun m2 =>
     St1 m2 x2b (x2o + 1) (.int .u64 x20_1) fun m3 =>
     St1 m3 x2b (x2o + 2) (.int .u64 x20_2) fun m4 =>
     St1 m4 x2b (x2o + 3) (.int .u64 x20_3) fun m5 =>
     LdV m5 x2b x2o fun v =>
     UnI v .u64 fun res0_0 =>
     LdV m5 x2b (x2o + 1) fun v =>
     UnI v .u64 fun res0_1 =>
     LdV m5 x2b (x2o + 2) fun v =>
     UnI v .u64 fun res0_2 =>
     LdV m5 x2b (x2o + 3) fun v =>
     UnI v .u64 fun res0_3 =>
     R (.returned (.agg #[.int .u64 res0_0, .int .u64 res0_1, .int .u64 res0_2, .int .u64 res0_3])) m5)) (panicR R)))
def l1  (a_1b : Nat) (a_1o : Nat) (x2b : Nat) (x2o : Nat) (l_3a : Option Addr) (l_3l : Nat) (l_3c : Nat) (i_4 : Int) (R : Ending → Mem → Prop) (m : Mem) : Prop :=
  ∃ (I : Nat → Nat → Nat → Nat → Nat → Option Addr → Nat → Nat → Int → Mem → Prop) (N : Nat), I N a_1b a_1o x2b x2o l_3a l_3l l_3c i_4 m ∧ ∀ N a_1b a_1o x2b x2o l_3a l_3l l_3c i_4 m, I N a_1b a_1o x2b x2o l_3a l_3l l_3c i_4 m → l1B  (fun a_1b a_1o x2b x2o l_3a l_3l l_3c i_4 m => ∃ N1, N1 < N ∧ I N1 a_1b a_1o x2b x2o l_3a l_3l l_3c i_4 m) a_1b a_1o x2b x2o l_3a l_3l l_3c i_4 R m
noncomputable def l1A  (K1 : Nat → Nat → Nat → Nat → Option Addr → Nat → Nat → Int → Mem → Prop) (R : Ending → Mem → Prop) : ACode := (.code (lP (bB (sR (sL (sR (sR (body))))))))
def e0 (a_0_0 : Int) (a_0_1 : Int) (a_0_2 : Int) (a_0_3 : Int) (R : Ending → Mem → Prop) (m : Mem) : Prop :=
 NewC m #[.int .u64 a_0_0, .int .u64 a_0_1, .int .u64 a_0_2, .int .u64 a_0_3] T_api_Set fun b_a_1 m1 =>
 NewC m1 #[.int .u64 0, .int .u64 0, .int .u64 0, .int .u64 0] T_api_Set fun b2 m2 =>
 l1  b_a_1 0 b2 0 none 0 0 0 R m2
noncomputable def e0A (R : Ending → Mem → Prop) : ACode := (.seq (.code (sL (body))) (.seq (.code (sL (sR (body)))) (.seq (.seq (.code (sL (sL (sR (sR (body)))))) (.block 0 (.cut (l1E fun a_1b a_1o x2b x2o l_3a l_3l l_3c i_4 m => l1  a_1b a_1o x2b x2o l_3a l_3l l_3c i_4 R m) (.loop (lP (bB (sR (sL (sR (sR (body))))))))))) (.code (sR (sR (sR (body))))))))
abbrev l1Q  (R : Ending → Mem → Prop) : Exit → Env → Mem → Prop := (blockQ 0 (thenQ (acpt P od (panicR R) (.code (sR (sR (sR (body))))) (bodyQ P fn R)) (bodyQ P fn R)))
theorem l1_eq  (K1 : Nat → Nat → Nat → Nat → Option Addr → Nat → Nat → Int → Mem → Prop) (R : Ending → Mem → Prop) (a_1b : Nat) (a_1o : Nat) (x2b : Nat) (x2o : Nat) (l_3a : Option Addr) (l_3l : Nat) (l_3c : Nat) (i_4 : Int) (ρ : Env) (m : Mem) : l1B  K1 a_1b a_1o x2b x2o l_3a l_3l l_3c i_4 R m = acpt P od (panicR R) (l1A  K1 R) (thenQ (l1E K1) (l1Q  R)) (upd (upd (upd (upd ρ 4 (.int .i64 i_4)) 3 (.slice l_3a l_3l l_3c)) 2 (.pointer (some ⟨x2b, x2o, none⟩))) 1 (.pointer (some ⟨a_1b, a_1o, none⟩))) m := by kernel_rfl
theorem l1_er  (K1 : Nat → Nat → Nat → Nat → Option Addr → Nat → Nat → Int → Mem → Prop) (R : Ending → Mem → Prop) : (l1A  K1 R).erase = lP (bB (sR (sL (sR (sR (body)))))) := by kernel_rfl
theorem l1_ok  (R : Ending → Mem → Prop) (ρ : Env) (m : Mem) (h : (l1E fun a_1b a_1o x2b x2o l_3a l_3l l_3c i_4 m => l1  a_1b a_1o x2b x2o l_3a l_3l l_3c i_4 R m) ρ m) : cpt P od (panicR R) (.loop (lP (bB (sR (sL (sR (sR (body)))))))) (l1Q  R) ρ m := by
  unfold l1E at h
  obtain ⟨a_1b, a_1o, e1, h⟩ := h.ex
  obtain ⟨x2b, x2o, e2, h⟩ := h.ex
  obtain ⟨l_3a, l_3l, l_3c, e3, h⟩ := h.ex
  obtain ⟨i_4, e4, h⟩ := h.ex
  obtain ⟨I, N, h0, hs⟩ := h
  refine ⟨fun N => l1E (I N), N, (by show l1E (I N) ρ m; unfold l1E; rw [e1, e2, e3, e4]; exact h0), ?_⟩
  clear h0 e1 e2 e3 e4
  intro N ρ m h
  unfold l1E at h
  obtain ⟨a_1b, a_1o, e1, h⟩ := h.ex
  obtain ⟨x2b, x2o, e2, h⟩ := h.ex
  obtain ⟨l_3a, l_3l, l_3c, e3, h⟩ := h.ex
  obtain ⟨i_4, e4, h⟩ := h.ex
  refine cpt_mono (P := P) (lP (bB (sR (sL (sR (sR (body))))))) (Q := thenQ (l1E fun a_1b a_1o x2b x2o l_3a l_3l l_3c i_4 m => ∃ N1, N1 < N ∧ I N1 a_1b a_1o x2b x2o l_3a l_3l l_3c i_4 m) (l1Q  R)) (fun e ρ m h => ?_) ρ m ?_
  · cases e with
    | normal =>
      have h : l1E (fun a_1b a_1o x2b x2o l_3a l_3l l_3c i_4 m => ∃ N1, N1 < N ∧ I N1 a_1b a_1o x2b x2o l_3a l_3l l_3c i_4 m) ρ m := h
      unfold l1E at h
      obtain ⟨a_1b, a_1o, e1, h⟩ := h.ex
      obtain ⟨x2b, x2o, e2, h⟩ := h.ex
      obtain ⟨l_3a, l_3l, l_3c, e3, h⟩ := h.ex
      obtain ⟨i_4, e4, h⟩ := h.ex
      obtain ⟨N1, hlt, h⟩ := h
      exact ⟨N1, hlt, (by show l1E (I N1) ρ m; unfold l1E; rw [e1, e2, e3, e4]; exact h)⟩
    | _ => exact h
  have hh := hs N a_1b a_1o x2b x2o l_3a l_3l l_3c i_4 m h
  generalize (fun a_1b a_1o x2b x2o l_3a l_3l l_3c i_4 m => ∃ N1, N1 < N ∧ I N1 a_1b a_1o x2b x2o l_3a l_3l l_3c i_4 m : Nat → Nat → Nat → Nat → Option Addr → Nat → Nat → Int → Mem → Prop) = K1 at hh ⊢
  rw [← upd_self e1, ← upd_self e2, ← upd_self e3, ← upd_self e4]
  rw [← l1_er  K1 R]
  refine acpt_sound (P := P) (l1A  K1 R) _ _ _ True.intro ?_
  exact Eq.mp (l1_eq  K1 R a_1b a_1o x2b x2o l_3a l_3l l_3c i_4 ρ m) hh
theorem e0_eq (a_0_0 : Int) (a_0_1 : Int) (a_0_2 : Int) (a_0_3 : Int) (R : Ending → Mem → Prop) (m : Mem) : e0 a_0_0 a_0_1 a_0_2 a_0_3 R m = acpt P od (panicR R) (e0A R) (bodyQ P fn R) (argE (#[.agg #[.int .u64 a_0_0, .int .u64 a_0_1, .int .u64 a_0_2, .int .u64 a_0_3]] : Array Value).toList) m := by kernel_rfl
theorem ok (a_0_0 : Int) (a_0_1 : Int) (a_0_2 : Int) (a_0_3 : Int) (R : Ending → Mem → Prop) (m : Mem) (h : e0 a_0_0 a_0_1 a_0_2 a_0_3 R m) : HC P id #[.agg #[.int .u64 a_0_0, .int .u64 a_0_1, .int .u64 a_0_2, .int .u64 a_0_3]] m R := by
  refine HC_of (fn := fn) (c := body) (od := od) (tb := tb) Go.Proofs.Try.func28 (by kernel_rfl) (by kernel_rfl) follows (by kernel_rfl) (of_decide_eq_true (by kernel_rfl)) ?_
  have he : (e0A R).erase = body := by kernel_rfl
  rw [← he]
  refine acpt_sound (P := P) (e0A R) _ _ _ ⟨⟨⟨True.intro, ⟨(fun ρ m h => l1_ok  R ρ m h), True.intro⟩⟩, True.intro⟩, True.intro⟩ ?_
  exact Eq.mp (e0_eq a_0_0 a_0_1 a_0_2 a_0_3 R m) h
end eyotref8_Not
/-! ### eyot/regex.formed -/
namespace regex_formed
noncomputable def fn : Func := Go.Proofs.Try.f29
noncomputable def body : Code := fn.body.getD .skip
def od : Nat → Ord := fun _ => .done
def tb : Nat → Tab := fun _ => (0, [], [])
def l3E (K : Nat → Nat → Option Addr → Nat → Nat → Int → Int → Mem → Prop) : Env → Mem → Prop := fun ρ m => UnPA (ρ 1) fun r_1b r_1o => UnS (ρ 52) fun x52a x52l x52c => UnI (ρ 53) .i64 fun x53 => UnI (ρ 54) .i64 fun x54 => K r_1b r_1o x52a x52l x52c x53 x54 m
def l3B  (K3 : Nat → Nat → Option Addr → Nat → Nat → Int → Int → Mem → Prop) (r_1b : Nat) (r_1o : Nat) (x52a : Option Addr) (x52l : Nat) (x52c : Nat) (x53 : Int) (x54 : Int) (R : Ending → Mem → Prop) (m : Mem) : Prop :=
 Br (decide (x54 < x53)) (
  IxS x52a x52l x54 6 fun x56b x56o =>
  LdV m x56b x56o fun v =>
  UnI v .i64 fun x57_0 =>
  LdV m x56b (x56o + 1) fun v =>
  UnI v .u64 fun x57_1 =>
  LdV m x56b (x56o + 2) fun v =>
  UnI v .u64 fun x57_2 =>
  LdV m x56b (x56o + 3) fun v =>
  UnI v .u64 fun x57_3 =>
  LdV m x56b (x56o + 4) fun v =>
  UnI v .u64 fun x57_4 =>
  LdV m x56b (x56o + 5) fun v =>
  UnS v fun x57_5a x57_5l x57_5c =>
  NewC m #[.int .i64 0, .int .u64 0, .int .u64 0, .int .u64 0, .int .u64 0, .slice none 0 0] T_api_Rx fun b_x_4 m1 =>
  St1 m1 b_x_4 0 (.int .i64 x57_0) fun m2 =>
  St1 m2 b_x_4 1 (.int .u64 x57_1) fun m3 =>
  St1 m3 b_x_4 2 (.int .u64 x57_2) fun m4 =>
  St1 m4 b_x_4 3 (.int .u64 x57_3) fun m5 =>
  St1 m5 b_x_4 4 (.int .u64 x57_4) fun m6 =>
  St1 m6 b_x_4 5 (.slice x57_5a x57_5l x57_5c) fun m7 =>
  LdV m7 b_x_4 0 fun v =>
  UnI v .i64 fun x59 =>
  LdV m7 r_1b r_1o fun v =>
  UnI v .i64 fun x61 =>
  Br (x59 == x61) (
   R (.returned (.bool false)) m7) (
   LdV m7 b_x_4 0 fun v =>
   UnI v .i64 fun x64_0 =>
   LdV m7 b_x_4 1 fun v =>
   UnI v .u64 fun x64_1 =>
   LdV m7 b_x_4 2 fun v =>
   UnI v .u64 fun x64_2 =>
   LdV m7 b_x_4 3 fun v =>
   UnI v .u64 fun x64_3 =>
   LdV m7 b_x_4 4 fun v =>
   UnI v .u64 fun x64_4 =>
   LdV m7 b_x_4 5 fun v =>
   UnS v fun x64_5a x64_5l x64_5c =>
   HC P regex_formed.id #[.agg #[.int .i64 x64_0, .int .u64 x64_1, .int .u64 x64_2, .int .u64 x64_3, .int .u64 x64_4, .slice x64_5a x64_5l x64_5c]] m7 (Cont (fun v m8 =>
     UnB v fun x65 =>
     Br (!x65) (
      R (.returned (.bool false)) m8) (
      K3 r_1b r_1o x52a x52l x52c x53 (IntKind.i64.wrap (x54 + 1)) m8)) (panicR R)))) (
  R (.returned (.bool true)) m)
def l3  (r_1b : Nat) (r_1o : Nat) (x52a : Option Addr) (x52l : Nat) (x52c : Nat) (x53 : Int) (x54 : Int) (R : Ending → Mem → Prop) (m : Mem) : Prop :=
  ∃ (I : Nat → Nat → Nat → Option Addr → Nat → Nat → Int → Int → Mem → Prop) (N : Nat), I N r_1b r_1o x52a x52l x52c x53 x54 m ∧ ∀ N r_1b r_1o x52a x52l x52c x53 x54 m, I N r_1b r_1o x52a x52l x52c x53 x54 m → l3B  (fun r_1b r_1o x52a x52l x52c x53 x54 m => ∃ N1, N1 < N ∧ I N1 r_1b r_1o x52a x52l x52c x53 x54 m) r_1b r_1o x52a x52l x52c x53 x54 R m
noncomputable def l3A  (K3 : Nat → Nat → Option Addr → Nat → Nat → Int → Int → Mem → Prop) (R : Ending → Mem → Prop) : ACode := (.code (lP (bB (sR (sL (sR (sR (body))))))))
def k2E (K : Nat → Nat → Mem → Prop) : Env → Mem → Prop := fun ρ m => UnPA (ρ 1) fun r_1b r_1o => K r_1b r_1o m
def k2  (r_1b : Nat) (r_1o : Nat) (R : Ending → Mem → Prop) (m : Mem) : Prop :=
 LdV m r_1b (r_1o + 5) fun v =>
 UnS v fun x52a x52l x52c =>
 l3  r_1b r_1o x52a x52l x52c ((x52l : Nat) : Int) 0 R m
noncomputable def k2A  (R : Ending → Mem → Prop) : ACode := (.seq (.seq (.code (sL (sL (sR (sR (body)))))) (.block 1 (.cut (l3E fun r_1b r_1o x52a x52l x52c x53 x54 m => l3  r_1b r_1o x52a x52l x52c x53 x54 R m) (.loop (lP (bB (sR (sL (sR (sR (body))))))))))) (.code (sR (sR (sR (body))))))
def k1E (K : Nat → Nat → Bool → Mem → Prop) : Env → Mem → Prop := fun ρ m => UnPA (ρ 1) fun r_1b r_1o => UnB (ρ 24) fun x24 => K r_1b r_1o x24 m
def k1  (r_1b : Nat) (r_1o : Nat) (x24 : Bool) (R : Ending → Mem → Prop) (m : Mem) : Prop :=
 Br x24 (
  LdV m r_1b (r_1o + 5) fun v =>
  UnS v fun x32a x32l x32c =>
  Br (decide (((x32l : Nat) : Int) < 2)) (
   R (.returned (.bool false)) m) (
   k2  r_1b r_1o R m)) (
  LdV m r_1b r_1o fun v =>
  UnI v .i64 fun x37 =>
  HC P regex_sign.id #[.int .i64 x37] m (Cont (fun v m1 =>
    UnB v fun x38 =>
    Br x38 (
     LdV m1 r_1b (r_1o + 5) fun v =>
     UnS v fun x40a x40l x40c =>
     Br (((x40l : Nat) : Int) != 1) (
      R (.returned (.bool false)) m1) (
      LdV m1 r_1b (r_1o + 5) fun v =>
      UnS v fun x45a x45l x45c =>
      IxS x45a x45l 0 6 fun x46b x46o =>
      LdV m1 x46b x46o fun v =>
      UnI v .i64 fun x48 =>
      HC P regex_sign.id #[.int .i64 x48] m1 (Cont (fun v m2 =>
        UnB v fun x49 =>
        Br x49 (
        R (.returned (.bool false)) m2) (
        k2  r_1b r_1o R m2)) (panicR R)))) (
     R (.returned (.bool false)) m1)) (panicR R)))
noncomputable def k1A  (R : Ending → Mem → Prop) : ACode := (.code (sR (cE (sR (cE (sR (bB (sL (sR (body))))))))))
def e0 (r_0_0 : Int) (r_0_1 : Int) (r_0_2 : Int) (r_0_3 : Int) (r_0_4 : Int) (r_0_5a : Option Addr) (r_0_5l : Nat) (r_0_5c : Nat) (R : Ending → Mem → Prop) (m : Mem) : Prop :=
 NewC m #[.int .i64 r_0_0, .int .u64 r_0_1, .int .u64 r_0_2, .int .u64 r_0_3, .int .u64 r_0_4, .slice r_0_5a r_0_5l r_0_5c] T_api_Rx fun b_r_1 m1 =>
 LdV m1 b_r_1 0 fun v =>
 UnI v .i64 fun x7 =>
 Br (x7 == 1) (
  LdV m1 b_r_1 5 fun v =>
  UnS v fun x10a x10l x10c =>
  Br (((x10l : Nat) : Int) == 0) (
   LdV m1 b_r_1 1 fun v =>
   UnI v .u64 fun x15_0 =>
   LdV m1 b_r_1 2 fun v =>
   UnI v .u64 fun x15_1 =>
   LdV m1 b_r_1 3 fun v =>
   UnI v .u64 fun x15_2 =>
   LdV m1 b_r_1 4 fun v =>
   UnI v .u64 fun x15_3 =>
   R (.returned (.bool (!(eqL [.int .u64 x15_0, .int .u64 x15_1, .int .u64 x15_2, .int .u64 x15_3] [.int .u64 0, .int .u64 0, .int .u64 0, .int .u64 0])))) m1) (
   R (.returned (.bool false)) m1)) (
  LdV m1 b_r_1 1 fun v =>
  UnI v .u64 fun x21_0 =>
  LdV m1 b_r_1 2 fun v =>
  UnI v .u64 fun x21_1 =>
  LdV m1 b_r_1 3 fun v =>
  UnI v .u64 fun x21_2 =>
  LdV m1 b_r_1 4 fun v =>
  UnI v .u64 fun x21_3 =>
  Br (!(eqL [.int .u64 x21_0, .int .u64 x21_1, .int .u64 x21_2, .int .u64 x21_3] [.int .u64 0, .int .u64 0, .int .u64 0, .int .u64 0])) (
   R (.returned (.bool false)) m1) (
   LdV m1 b_r_1 0 fun v =>
   UnI v .i64 fun x26 =>
   Br (x26 == 2) (
    k1  b_r_1 0 true R m1) (
    LdV m1 b_r_1 0 fun v =>
    UnI v .i64 fun x29 =>
    k1  b_r_1 0 (x29 == 3) R m1)))
noncomputable def e0A (R : Ending → Mem → Prop) : ACode := (.seq (.code (sL (body))) (.seq (.block 0 (.seq (.code (sL (bB (sL (sR (body)))))) (.cond (.tmp 5) (.code (cT (sR (bB (sL (sR (body))))))) (.seq (.code (sL (cE (sR (bB (sL (sR (body)))))))) (.cond (.tmp 19) (.code (cT (sR (cE (sR (bB (sL (sR (body))))))))) (.seq (.code (sL (cE (sR (cE (sR (bB (sL (sR (body)))))))))) (.cut (k1E fun r_1b r_1o x24 m => k1  r_1b r_1o x24 R m) (sR (cE (sR (cE (sR (bB (sL (sR (body)))))))))))))))) (.cut (k2E fun r_1b r_1o m => k2  r_1b r_1o R m) (sR (sR (body))))))
abbrev k2Q  (R : Ending → Mem → Prop) : Exit → Env → Mem → Prop := (bodyQ P fn R)
abbrev l3Q  (R : Ending → Mem → Prop) : Exit → Env → Mem → Prop := (blockQ 1 (thenQ (acpt P od (panicR R) (.code (sR (sR (sR (body))))) (k2Q  R)) (k2Q  R)))
abbrev k1Q  (R : Ending → Mem → Prop) : Exit → Env → Mem → Prop := (blockQ 0 (thenQ (acpt P od (panicR R) (.cut (k2E fun r_1b r_1o m => k2  r_1b r_1o R m) (sR (sR (body)))) (bodyQ P fn R)) (bodyQ P fn R)))
theorem l3_eq  (K3 : Nat → Nat → Option Addr → Nat → Nat → Int → Int → Mem → Prop) (R : Ending → Mem → Prop) (r_1b : Nat) (r_1o : Nat) (x52a : Option Addr) (x52l : Nat) (x52c : Nat) (x53 : Int) (x54 : Int) (ρ : Env) (m : Mem) : l3B  K3 r_1b r_1o x52a x52l x52c x53 x54 R m = acpt P od (panicR R) (l3A  K3 R) (thenQ (l3E K3) (l3Q  R)) (upd (upd (upd (upd ρ 54 (.int .i64 x54)) 53 (.int .i64 x53)) 52 (.slice x52a x52l x52c)) 1 (.pointer (some ⟨r_1b, r_1o, none⟩))) m := by kernel_rfl
theorem l3_er  (K3 : Nat → Nat → Option Addr → Nat → Nat → Int → Int → Mem → Prop) (R : Ending → Mem → Prop) : (l3A  K3 R).erase = lP (bB (sR (sL (sR (sR (body)))))) := by kernel_rfl
theorem l3_ok  (R : Ending → Mem → Prop) (ρ : Env) (m : Mem) (h : (l3E fun r_1b r_1o x52a x52l x52c x53 x54 m => l3  r_1b r_1o x52a x52l x52c x53 x54 R m) ρ m) : cpt P od (panicR R) (.loop (lP (bB (sR (sL (sR (sR (body)))))))) (l3Q  R) ρ m := by
  unfold l3E at h
  obtain ⟨r_1b, r_1o, e1, h⟩ := h.ex
  obtain ⟨x52a, x52l, x52c, e52, h⟩ := h.ex
  obtain ⟨x53, e53, h⟩ := h.ex
  obtain ⟨x54, e54, h⟩ := h.ex
  obtain ⟨I, N, h0, hs⟩ := h
  refine ⟨fun N => l3E (I N), N, (by show l3E (I N) ρ m; unfold l3E; rw [e1, e52, e53, e54]; exact h0), ?_⟩
  clear h0 e1 e52 e53 e54
  intro N ρ m h
  unfold l3E at h
  obtain ⟨r_1b, r_1o, e1, h⟩ := h.ex
  obtain ⟨x52a, x52l, x52c, e52, h⟩ := h.ex
  obtain ⟨x53, e53, h⟩ := h.ex
  obtain ⟨x54, e54, h⟩ := h.ex
  refine cpt_mono (P := P) (lP (bB (sR (sL (sR (sR (body))))))) (Q := thenQ (l3E fun r_1b r_1o x52a x52l x52c x53 x54 m => ∃ N1, N1 < N ∧ I N1 r_1b r_1o x52a x52l x52c x53 x54 m) (l3Q  R)) (fun e ρ m h => ?_) ρ m ?_
  · cases e with
    | normal =>
      have h : l3E (fun r_1b r_1o x52a x52l x52c x53 x54 m => ∃ N1, N1 < N ∧ I N1 r_1b r_1o x52a x52l x52c x53 x54 m) ρ m := h
      unfold l3E at h
      obtain ⟨r_1b, r_1o, e1, h⟩ := h.ex
      obtain ⟨x52a, x52l, x52c, e52, h⟩ := h.ex
      obtain ⟨x53, e53, h⟩ := h.ex
      obtain ⟨x54, e54, h⟩ := h.ex
      obtain ⟨N1, hlt, h⟩ := h
      exact ⟨N1, hlt, (by show l3E (I N1) ρ m; unfold l3E; rw [e1, e52, e53, e54]; exact h)⟩
    | _ => exact h
  have hh := hs N r_1b r_1o x52a x52l x52c x53 x54 m h
  generalize (fun r_1b r_1o x52a x52l x52c x53 x54 m => ∃ N1, N1 < N ∧ I N1 r_1b r_1o x52a x52l x52c x53 x54 m : Nat → Nat → Option Addr → Nat → Nat → Int → Int → Mem → Prop) = K3 at hh ⊢
  rw [← upd_self e1, ← upd_self e52, ← upd_self e53, ← upd_self e54]
  rw [← l3_er  K3 R]
  refine acpt_sound (P := P) (l3A  K3 R) _ _ _ True.intro ?_
  exact Eq.mp (l3_eq  K3 R r_1b r_1o x52a x52l x52c x53 x54 ρ m) hh
theorem k2_eq  (R : Ending → Mem → Prop) (r_1b : Nat) (r_1o : Nat) (ρ : Env) (m : Mem) : k2  r_1b r_1o R m = acpt P od (panicR R) (k2A  R) (k2Q  R) (upd ρ 1 (.pointer (some ⟨r_1b, r_1o, none⟩))) m := by kernel_rfl
theorem k2_er  (R : Ending → Mem → Prop) : (k2A  R).erase = sR (sR (body)) := by kernel_rfl
theorem k2_ok  (R : Ending → Mem → Prop) (ρ : Env) (m : Mem) (h : (k2E fun r_1b r_1o m => k2  r_1b r_1o R m) ρ m) : cpt P od (panicR R) (sR (sR (body))) (k2Q  R) ρ m := by
  unfold k2E at h
  obtain ⟨r_1b, r_1o, e1, h⟩ := h.ex
  rw [← upd_self e1]
  rw [← k2_er  R]
  refine acpt_sound (P := P) (k2A  R) _ _ _ ⟨True.intro, ⟨(fun ρ m h => l3_ok  R ρ m h), True.intro⟩⟩ ?_
  exact Eq.mp (k2_eq  R r_1b r_1o ρ m) h
theorem k1_eq  (R : Ending → Mem → Prop) (r_1b : Nat) (r_1o : Nat) (x24 : Bool) (ρ : Env) (m : Mem) : k1  r_1b r_1o x24 R m = acpt P od (panicR R) (k1A  R) (k1Q  R) (upd (upd ρ 24 (.bool x24)) 1 (.pointer (some ⟨r_1b, r_1o, none⟩))) m := by kernel_rfl
theorem k1_er  (R : Ending → Mem → Prop) : (k1A  R).erase = sR (cE (sR (cE (sR (bB (sL (sR (body)))))))) := by kernel_rfl
theorem k1_ok  (R : Ending → Mem → Prop) (ρ : Env) (m : Mem) (h : (k1E fun r_1b r_1o x24 m => k1  r_1b r_1o x24 R m) ρ m) : cpt P od (panicR R) (sR (cE (sR (cE (sR (bB (sL (sR (body))))))))) (k1Q  R) ρ m := by
  unfold k1E at h
  obtain ⟨r_1b, r_1o, e1, h⟩ := h.ex
  obtain ⟨x24, e24, h⟩ := h.ex
  rw [← upd_self e1, ← upd_self e24]
  rw [← k1_er  R]
  refine acpt_sound (P := P) (k1A  R) _ _ _ True.intro ?_
  exact Eq.mp (k1_eq  R r_1b r_1o x24 ρ m) h
theorem e0_eq (r_0_0 : Int) (r_0_1 : Int) (r_0_2 : Int) (r_0_3 : Int) (r_0_4 : Int) (r_0_5a : Option Addr) (r_0_5l : Nat) (r_0_5c : Nat) (R : Ending → Mem → Prop) (m : Mem) : e0 r_0_0 r_0_1 r_0_2 r_0_3 r_0_4 r_0_5a r_0_5l r_0_5c R m = acpt P od (panicR R) (e0A R) (bodyQ P fn R) (argE (#[.agg #[.int .i64 r_0_0, .int .u64 r_0_1, .int .u64 r_0_2, .int .u64 r_0_3, .int .u64 r_0_4, .slice r_0_5a r_0_5l r_0_5c]] : Array Value).toList) m := by kernel_rfl
theorem ok (r_0_0 : Int) (r_0_1 : Int) (r_0_2 : Int) (r_0_3 : Int) (r_0_4 : Int) (r_0_5a : Option Addr) (r_0_5l : Nat) (r_0_5c : Nat) (R : Ending → Mem → Prop) (m : Mem) (h : e0 r_0_0 r_0_1 r_0_2 r_0_3 r_0_4 r_0_5a r_0_5l r_0_5c R m) : HC P id #[.agg #[.int .i64 r_0_0, .int .u64 r_0_1, .int .u64 r_0_2, .int .u64 r_0_3, .int .u64 r_0_4, .slice r_0_5a r_0_5l r_0_5c]] m R := by
  refine HC_of (fn := fn) (c := body) (od := od) (tb := tb) Go.Proofs.Try.func29 (by kernel_rfl) (by kernel_rfl) follows (by kernel_rfl) (of_decide_eq_true (by kernel_rfl)) ?_
  have he : (e0A R).erase = body := by kernel_rfl
  rw [← he]
  refine acpt_sound (P := P) (e0A R) _ _ _ ⟨⟨(fun ρ m h => k2_ok  R ρ m h), ⟨⟨True.intro, ⟨⟨True.intro, ⟨(fun ρ m h => k1_ok  R ρ m h), True.intro⟩⟩, True.intro⟩⟩, True.intro⟩⟩, True.intro⟩ ?_
  exact Eq.mp (e0_eq r_0_0 r_0_1 r_0_2 r_0_3 r_0_4 r_0_5a r_0_5l r_0_5c R m) h
end regex_formed
/-! ### eyot/regex.size -/
namespace regex_size
noncomputable def fn : Func := Go.Proofs.Try.f30
noncomputable def body : Code := fn.body.getD .skip
def od : Nat → Ord := fun _ => .done
def tb : Nat → Tab := fun _ => (0, [], [])
def k2E (K : Int → Int → Mem → Prop) : Env → Mem → Prop := fun ρ m => UnI (ρ 2) .i64 fun nodes_2 => UnI (ρ 3) .i64 fun deep_3 => K nodes_2 deep_3 m
def k2  (nodes_2 : Int) (deep_3 : Int) (R : Ending → Mem → Prop) (m : Mem) : Prop :=
 R (.returned (.tuple #[.int .i64 (IntKind.i64.wrap (nodes_2 + 1)), .int .i64 (IntKind.i64.wrap (deep_3 + 1))])) m
noncomputable def k2A  (R : Ending → Mem → Prop) : ACode := (.code (sR (sR (body))))
def l1E (K : Int → Int → Option Addr → Nat → Nat → Int → Int → Mem → Prop) : Env → Mem → Prop := fun ρ m => UnI (ρ 2) .i64 fun nodes_2 => UnI (ρ 3) .i64 fun deep_3 => UnS (ρ 9) fun x9a x9l x9c => UnI (ρ 10) .i64 fun x10 => UnI (ρ 11) .i64 fun x11 => K nodes_2 deep_3 x9a x9l x9c x10 x11 m
def l1B  (K1 : Int → Int → Option Addr → Nat → Nat → Int → Int → Mem → Prop) (nodes_2 : Int) (deep_3 : Int) (x9a : Option Addr) (x9l : Nat) (x9c : Nat) (x10 : Int) (x11 : Int) (R : Ending → Mem → Prop) (m : Mem) : Prop :=
 Br (decide (x11 < x10)) (
  IxS x9a x9l x11 6 fun x13b x13o =>
  LdV m x13b x13o fun v =>
  UnI v .i64 fun x14_0 =>
  LdV m x13b (x13o + 1) fun v =>
  UnI v .u64 fun x14_1 =>
  LdV m x13b (x13o + 2) fun v =>
  UnI v .u64 fun x14_2 =>
  LdV m x13b (x13o + 3) fun v =>
  UnI v .u64 fun x14_3 =>
  LdV m x13b (x13o + 4) fun v =>
  UnI v .u64 fun x14_4 =>
  LdV m x13b (x13o + 5) fun v =>
  UnS v fun x14_5a x14_5l x14_5c =>
  NewC m #[.int .i64 0, .int .u64 0, .int .u64 0, .int .u64 0, .int .u64 0, .slice none 0 0] T_api_Rx fun b_x_5 m1 =>
  St1 m1 b_x_5 0 (.int .i64 x14_0) fun m2 =>
  St1 m2 b_x_5 1 (.int .u64 x14_1) fun m3 =>
  St1 m3 b_x_5 2 (.int .u64 x14_2) fun m4 =>
  St1 m4 b_x_5 3 (.int .u64 x14_3) fun m5 =>
  St1 m5 b_x_5 4 (.int .u64 x14_4) fun m6 =>
  St1 m6 b_x_5 5 (.slice x14_5a x14_5l x14_5c) fun m7 =>
  LdV m7 b_x_5 0 fun v =>
  UnI v .i64 fun x16_0 =>
  LdV m7 b_x_5 1 fun v =>
  UnI v .u64 fun x16_1 =>
  LdV m7 b_x_5 2 fun v =>
  UnI v .u64 fun x16_2 =>
  LdV m7 b_x_5 3 fun v =>
  UnI v .u64 fun x16_3 =>
  LdV m7 b_x_5 4 fun v =>
  UnI v .u64 fun x16_4 =>
  LdV m7 b_x_5 5 fun v =>
  UnS v fun x16_5a x16_5l x16_5c =>
  HC P regex_size.id #[.agg #[.int .i64 x16_0, .int .u64 x16_1, .int .u64 x16_2, .int .u64 x16_3, .int .u64 x16_4, .slice x16_5a x16_5l x16_5c]] m7 (Cont (fun v m8 =>
    UnTup v fun us0 =>
    UnCons us0 fun w us1 =>
    UnI w .i64 fun x17_0 =>
    UnCons us1 fun w us2 =>
    UnI w .i64 fun x17_1 =>
    UnNil us2 (
     K1 (IntKind.i64.wrap (nodes_2 + x17_0)) (if x17_1 > deep_3 then x17_1 else deep_3) x9a x9l x9c x10 (IntKind.i64.wrap (x11 + 1)) m8)) (panicR R))) (
  k2  nodes_2 deep_3 R m)
def l1  (nodes_2 : Int) (deep_3 : Int) (x9a : Option Addr) (x9l : Nat) (x9c : Nat) (x10 : Int) (x11 : Int) (R : Ending → Mem → Prop) (m : Mem) : Prop :=
  ∃ (I : Nat → Int → Int → Option Addr → Nat → Nat → Int → Int → Mem → Prop) (N : Nat), I N nodes_2 deep_3 x9a x9l x9c x10 x11 m ∧ ∀ N nodes_2 deep_3 x9a x9l x9c x10 x11 m, I N nodes_2 deep_3 x9a x9l x9c x10 x11 m → l1B  (fun nodes_2 deep_3 x9a x9l x9c x10 x11 m => ∃ N1, N1 < N ∧ I N1 nodes_2 deep_3 x9a x9l x9c x10 x11 m) nodes_2 deep_3 x9a x9l x9c x10 x11 R m
noncomputable def l1A  (K1 : Int → Int → Option Addr → Nat → Nat → Int → Int → Mem → Prop) (R : Ending → Mem → Prop) : ACode := (.code (lP (bB (sR (sL (sR (body)))))))
def e0 (r_0_0 : Int) (r_0_1 : Int) (r_0_2 : Int) (r_0_3 : Int) (r_0_4 : Int) (r_0_5a : Option Addr) (r_0_5l : Nat) (r_0_5c : Nat) (R : Ending → Mem → Prop) (m : Mem) : Prop :=
 NewC m #[.int .i64 r_0_0, .int .u64 r_0_1, .int .u64 r_0_2, .int .u64 r_0_3, .int .u64 r_0_4, .slice r_0_5a r_0_5l r_0_5c] T_api_Rx fun b_r_1 m1 =>
 LdV m1 b_r_1 5 fun v =>
 UnS v fun x9a x9l x9c =>
 l1  0 0 x9a x9l x9c ((x9l : Nat) : Int) 0 R m1
noncomputable def e0A (R : Ending → Mem → Prop) : ACode := (.seq (.code (sL (body))) (.seq (.seq (.code (sL (sL (sR (body))))) (.block 0 (.cut (l1E fun nodes_2 deep_3 x9a x9l x9c x10 x11 m => l1  nodes_2 deep_3 x9a x9l x9c x10 x11 R m) (.loop (lP (bB (sR (sL (sR (body)))))))))) (.cut (k2E fun nodes_2 deep_3 m => k2  nodes_2 deep_3 R m) (sR (sR (body))))))
abbrev k2Q  (R : Ending → Mem → Prop) : Exit → Env → Mem → Prop := (bodyQ P fn R)
abbrev l1Q  (R : Ending → Mem → Prop) : Exit → Env → Mem → Prop := (blockQ 0 (thenQ (acpt P od (panicR R) (.cut (k2E fun nodes_2 deep_3 m => k2  nodes_2 deep_3 R m) (sR (sR (body)))) (bodyQ P fn R)) (bodyQ P fn R)))
theorem k2_eq  (R : Ending → Mem → Prop) (nodes_2 : Int) (deep_3 : Int) (ρ : Env) (m : Mem) : k2  nodes_2 deep_3 R m = acpt P od (panicR R) (k2A  R) (k2Q  R) (upd (upd ρ 3 (.int .i64 deep_3)) 2 (.int .i64 nodes_2)) m := by kernel_rfl
theorem k2_er  (R : Ending → Mem → Prop) : (k2A  R).erase = sR (sR (body)) := by kernel_rfl
theorem k2_ok  (R : Ending → Mem → Prop) (ρ : Env) (m : Mem) (h : (k2E fun nodes_2 deep_3 m => k2  nodes_2 deep_3 R m) ρ m) : cpt P od (panicR R) (sR (sR (body))) (k2Q  R) ρ m := by
  unfold k2E at h
  obtain ⟨nodes_2, e2, h⟩ := h.ex
  obtain ⟨deep_3, e3, h⟩ := h.ex
  rw [← upd_self e2, ← upd_self e3]
  rw [← k2_er  R]
  refine acpt_sound (P := P) (k2A  R) _ _ _ True.intro ?_
  exact Eq.mp (k2_eq  R nodes_2 deep_3 ρ m) h
theorem l1_eq  (K1 : Int → Int → Option Addr → Nat → Nat → Int → Int → Mem → Prop) (R : Ending → Mem → Prop) (nodes_2 : Int) (deep_3 : Int) (x9a : Option Addr) (x9l : Nat) (x9c : Nat) (x10 : Int) (x11 : Int) (ρ : Env) (m : Mem) : l1B  K1 nodes_2 deep_3 x9a x9l x9c x10 x11 R m = acpt P od (panicR R) (l1A  K1 R) (thenQ (l1E K1) (l1Q  R)) (upd (upd (upd (upd (upd ρ 11 (.int .i64 x11)) 10 (.int .i64 x10)) 9 (.slice x9a x9l x9c)) 3 (.int .i64 deep_3)) 2 (.int .i64 nodes_2)) m := by kernel_rfl
theorem l1_er  (K1 : Int → Int → Option Addr → Nat → Nat → Int → Int → Mem → Prop) (R : Ending → Mem → Prop) : (l1A  K1 R).erase = lP (bB (sR (sL (sR (body))))) := by kernel_rfl
theorem l1_ok  (R : Ending → Mem → Prop) (ρ : Env) (m : Mem) (h : (l1E fun nodes_2 deep_3 x9a x9l x9c x10 x11 m => l1  nodes_2 deep_3 x9a x9l x9c x10 x11 R m) ρ m) : cpt P od (panicR R) (.loop (lP (bB (sR (sL (sR (body))))))) (l1Q  R) ρ m := by
  unfold l1E at h
  obtain ⟨nodes_2, e2, h⟩ := h.ex
  obtain ⟨deep_3, e3, h⟩ := h.ex
  obtain ⟨x9a, x9l, x9c, e9, h⟩ := h.ex
  obtain ⟨x10, e10, h⟩ := h.ex
  obtain ⟨x11, e11, h⟩ := h.ex
  obtain ⟨I, N, h0, hs⟩ := h
  refine ⟨fun N => l1E (I N), N, (by show l1E (I N) ρ m; unfold l1E; rw [e2, e3, e9, e10, e11]; exact h0), ?_⟩
  clear h0 e2 e3 e9 e10 e11
  intro N ρ m h
  unfold l1E at h
  obtain ⟨nodes_2, e2, h⟩ := h.ex
  obtain ⟨deep_3, e3, h⟩ := h.ex
  obtain ⟨x9a, x9l, x9c, e9, h⟩ := h.ex
  obtain ⟨x10, e10, h⟩ := h.ex
  obtain ⟨x11, e11, h⟩ := h.ex
  refine cpt_mono (P := P) (lP (bB (sR (sL (sR (body)))))) (Q := thenQ (l1E fun nodes_2 deep_3 x9a x9l x9c x10 x11 m => ∃ N1, N1 < N ∧ I N1 nodes_2 deep_3 x9a x9l x9c x10 x11 m) (l1Q  R)) (fun e ρ m h => ?_) ρ m ?_
  · cases e with
    | normal =>
      have h : l1E (fun nodes_2 deep_3 x9a x9l x9c x10 x11 m => ∃ N1, N1 < N ∧ I N1 nodes_2 deep_3 x9a x9l x9c x10 x11 m) ρ m := h
      unfold l1E at h
      obtain ⟨nodes_2, e2, h⟩ := h.ex
      obtain ⟨deep_3, e3, h⟩ := h.ex
      obtain ⟨x9a, x9l, x9c, e9, h⟩ := h.ex
      obtain ⟨x10, e10, h⟩ := h.ex
      obtain ⟨x11, e11, h⟩ := h.ex
      obtain ⟨N1, hlt, h⟩ := h
      exact ⟨N1, hlt, (by show l1E (I N1) ρ m; unfold l1E; rw [e2, e3, e9, e10, e11]; exact h)⟩
    | _ => exact h
  have hh := hs N nodes_2 deep_3 x9a x9l x9c x10 x11 m h
  generalize (fun nodes_2 deep_3 x9a x9l x9c x10 x11 m => ∃ N1, N1 < N ∧ I N1 nodes_2 deep_3 x9a x9l x9c x10 x11 m : Int → Int → Option Addr → Nat → Nat → Int → Int → Mem → Prop) = K1 at hh ⊢
  rw [← upd_self e2, ← upd_self e3, ← upd_self e9, ← upd_self e10, ← upd_self e11]
  rw [← l1_er  K1 R]
  refine acpt_sound (P := P) (l1A  K1 R) _ _ _ True.intro ?_
  exact Eq.mp (l1_eq  K1 R nodes_2 deep_3 x9a x9l x9c x10 x11 ρ m) hh
theorem e0_eq (r_0_0 : Int) (r_0_1 : Int) (r_0_2 : Int) (r_0_3 : Int) (r_0_4 : Int) (r_0_5a : Option Addr) (r_0_5l : Nat) (r_0_5c : Nat) (R : Ending → Mem → Prop) (m : Mem) : e0 r_0_0 r_0_1 r_0_2 r_0_3 r_0_4 r_0_5a r_0_5l r_0_5c R m = acpt P od (panicR R) (e0A R) (bodyQ P fn R) (argE (#[.agg #[.int .i64 r_0_0, .int .u64 r_0_1, .int .u64 r_0_2, .int .u64 r_0_3, .int .u64 r_0_4, .slice r_0_5a r_0_5l r_0_5c]] : Array Value).toList) m := by kernel_rfl
theorem ok (r_0_0 : Int) (r_0_1 : Int) (r_0_2 : Int) (r_0_3 : Int) (r_0_4 : Int) (r_0_5a : Option Addr) (r_0_5l : Nat) (r_0_5c : Nat) (R : Ending → Mem → Prop) (m : Mem) (h : e0 r_0_0 r_0_1 r_0_2 r_0_3 r_0_4 r_0_5a r_0_5l r_0_5c R m) : HC P id #[.agg #[.int .i64 r_0_0, .int .u64 r_0_1, .int .u64 r_0_2, .int .u64 r_0_3, .int .u64 r_0_4, .slice r_0_5a r_0_5l r_0_5c]] m R := by
  refine HC_of (fn := fn) (c := body) (od := od) (tb := tb) Go.Proofs.Try.func30 (by kernel_rfl) (by kernel_rfl) follows (by kernel_rfl) (of_decide_eq_true (by kernel_rfl)) ?_
  have he : (e0A R).erase = body := by kernel_rfl
  rw [← he]
  refine acpt_sound (P := P) (e0A R) _ _ _ ⟨⟨(fun ρ m h => k2_ok  R ρ m h), ⟨(fun ρ m h => l1_ok  R ρ m h), True.intro⟩⟩, True.intro⟩ ?_
  exact Eq.mp (e0_eq r_0_0 r_0_1 r_0_2 r_0_3 r_0_4 r_0_5a r_0_5l r_0_5c R m) h
end regex_size
/-! ### (*eyot/place.Places).links -/
namespace place_Places_links
noncomputable def fn : Func := Go.Proofs.Try.f31
noncomputable def body : Code := fn.body.getD .skip
def od : Nat → Ord := fun | 3 => ordL [(0, 3), (1, 3), (2, 3), (3, 1), (4, 3), (5, 3), (6, 3), (7, 3), (8, 1), (9, 3), (10, 3), (11, 1), (12, 3), (13, 0), (14, 3), (15, 2)] .done | _ => .done
def tb : Nat → Tab := fun | 3 => (32768, [0, 1, 3, 7, 0, 0, 32, 96, 224, 0, 992, 2016, 0, 8160, 16383, 32767], [(0, 1, 15), (1, 16384, 16), (2, 32768, 17), (4, 65536, 18), (0, 128, 19), (0, 1, 20), (32, 524288, 21), (64, 1048576, 22), (128, 2097152, 23), (0, 128, 24), (768, 12582912, 25), (1024, 16777216, 26), (0, 4, 27), (6144, 100663296, 28), (16383, 393216, 29), (32767, 402653184, 0)]) | _ => (0, [], [])
def l1E (K : Option Addr → Option Addr → Nat → Nat → Option Addr → Nat → Nat → Int → Int → Mem → Prop) : Env → Mem → Prop := fun ρ m => UnP (ρ 0) fun p_0 => UnS (ρ 2) fun first_2a first_2l first_2c => UnS (ρ 8) fun x8a x8l x8c => UnI (ρ 9) .i64 fun x9 => UnI (ρ 10) .i64 fun x10 => K p_0 first_2a first_2l first_2c x8a x8l x8c x9 x10 m
def l1B  (K1 : Option Addr → Option Addr → Nat → Nat → Option Addr → Nat → Nat → Int → Int → Mem → Prop) (p_0 : Option Addr) (first_2a : Option Addr) (first_2l : Nat) (first_2c : Nat) (x8a : Option Addr) (x8l : Nat) (x8c : Nat) (x9 : Int) (x10 : Int) (R : Ending → Mem → Prop) (m : Mem) : Prop :=
 Br (decide (x10 < x9)) (
  IxS x8a x8l x10 1 fun x12b x12o =>
  LdV m x12b x12o fun v =>
  UnI v .i64 fun x13 =>
  Sub m fun r1 =>
  NilC p_0 (fun x15b x15o =>
   LdV r1 x15b (x15o + 3) fun v =>
   UnS v fun x17a x17l x17c =>
   NilC p_0 (fun x20b x20o =>
    LdV r1 x20b (x20o + 3) fun v =>
    UnS v fun x22a x22l x22c =>
    IxS x22a x22l x13 1 fun x24b x24o =>
    LdV r1 x24b x24o fun v =>
    UnS v fun x25a x25l x25c =>
    HC P place_also.id #[.slice x25a x25l x25c, .slice first_2a first_2l first_2c] m (Cont (fun v m2 =>
      UnS v fun x27a x27l x27c =>
      Lk r1 m2 fun r3 =>
      IxS x17a x17l x13 1 fun x28b x28o =>
      St1 m2 x28b x28o (.slice x27a x27l x27c) fun m4 =>
      K1 p_0 first_2a first_2l first_2c x8a x8l x8c x9 (IntKind.i64.wrap (x10 + 1)) m4) (panicR R))) (False)) (False)) (
  R (.returned (.tuple #[])) m)
def l1  (p_0 : Option Addr) (first_2a : Option Addr) (first_2l : Nat) (first_2c : Nat) (x8a : Option Addr) (x8l : Nat) (x8c : Nat) (x9 : Int) (x10 : Int) (R : Ending → Mem → Prop) (m : Mem) : Prop :=
  ∃ (I : Nat → Option Addr → Option Addr → Nat → Nat → Option Addr → Nat → Nat → Int → Int → Mem → Prop) (N : Nat), I N p_0 first_2a first_2l first_2c x8a x8l x8c x9 x10 m ∧ ∀ N p_0 first_2a first_2l first_2c x8a x8l x8c x9 x10 m, I N p_0 first_2a first_2l first_2c x8a x8l x8c x9 x10 m → l1B  (fun p_0 first_2a first_2l first_2c x8a x8l x8c x9 x10 m => ∃ N1, N1 < N ∧ I N1 p_0 first_2a first_2l first_2c x8a x8l x8c x9 x10 m) p_0 first_2a first_2l first_2c x8a x8l x8c x9 x10 R m
noncomputable def l1A  (K1 : Option Addr → Option Addr → Nat → Nat → Option Addr → Nat → Nat → Int → Int → Mem → Prop) (R : Ending → Mem → Prop) : ACode := (.code (lP (bB (sR (body)))))
def e0 (p_0 : Option Addr) (last_1a : Option Addr) (last_1l : Nat) (last_1c : Nat) (first_2a : Option Addr) (first_2l : Nat) (first_2c : Nat) (R : Ending → Mem → Prop) (m : Mem) : Prop :=
 l1  p_0 first_2a first_2l first_2c last_1a last_1l last_1c ((last_1l : Nat) : Int) 0 R m
noncomputable def e0A (R : Ending → Mem → Prop) : ACode := (.seq (.code (sL (body))) (.block 0 (.cut (l1E fun p_0 first_2a first_2l first_2c x8a x8l x8c x9 x10 m => l1  p_0 first_2a first_2l first_2c x8a x8l x8c x9 x10 R m) (.loop (lP (bB (sR (body))))))))
abbrev l1Q  (R : Ending → Mem → Prop) : Exit → Env → Mem → Prop := (blockQ 0 (bodyQ P fn R))
theorem l1_eq  (K1 : Option Addr → Option Addr → Nat → Nat → Option Addr → Nat → Nat → Int → Int → Mem → Prop) (R : Ending → Mem → Prop) (p_0 : Option Addr) (first_2a : Option Addr) (first_2l : Nat) (first_2c : Nat) (x8a : Option Addr) (x8l : Nat) (x8c : Nat) (x9 : Int) (x10 : Int) (ρ : Env) (m : Mem) : l1B  K1 p_0 first_2a first_2l first_2c x8a x8l x8c x9 x10 R m = acpt P od (panicR R) (l1A  K1 R) (thenQ (l1E K1) (l1Q  R)) (upd (upd (upd (upd (upd ρ 10 (.int .i64 x10)) 9 (.int .i64 x9)) 8 (.slice x8a x8l x8c)) 2 (.slice first_2a first_2l first_2c)) 0 (.pointer p_0)) m := by kernel_rfl
theorem l1_er  (K1 : Option Addr → Option Addr → Nat → Nat → Option Addr → Nat → Nat → Int → Int → Mem → Prop) (R : Ending → Mem → Prop) : (l1A  K1 R).erase = lP (bB (sR (body))) := by kernel_rfl
theorem l1_ok  (R : Ending → Mem → Prop) (ρ : Env) (m : Mem) (h : (l1E fun p_0 first_2a first_2l first_2c x8a x8l x8c x9 x10 m => l1  p_0 first_2a first_2l first_2c x8a x8l x8c x9 x10 R m) ρ m) : cpt P od (panicR R) (.loop (lP (bB (sR (body))))) (l1Q  R) ρ m := by
  unfold l1E at h
  obtain ⟨p_0, e0, h⟩ := h.ex
  obtain ⟨first_2a, first_2l, first_2c, e2, h⟩ := h.ex
  obtain ⟨x8a, x8l, x8c, e8, h⟩ := h.ex
  obtain ⟨x9, e9, h⟩ := h.ex
  obtain ⟨x10, e10, h⟩ := h.ex
  obtain ⟨I, N, h0, hs⟩ := h
  refine ⟨fun N => l1E (I N), N, (by show l1E (I N) ρ m; unfold l1E; rw [e0, e2, e8, e9, e10]; exact h0), ?_⟩
  clear h0 e0 e2 e8 e9 e10
  intro N ρ m h
  unfold l1E at h
  obtain ⟨p_0, e0, h⟩ := h.ex
  obtain ⟨first_2a, first_2l, first_2c, e2, h⟩ := h.ex
  obtain ⟨x8a, x8l, x8c, e8, h⟩ := h.ex
  obtain ⟨x9, e9, h⟩ := h.ex
  obtain ⟨x10, e10, h⟩ := h.ex
  refine cpt_mono (P := P) (lP (bB (sR (body)))) (Q := thenQ (l1E fun p_0 first_2a first_2l first_2c x8a x8l x8c x9 x10 m => ∃ N1, N1 < N ∧ I N1 p_0 first_2a first_2l first_2c x8a x8l x8c x9 x10 m) (l1Q  R)) (fun e ρ m h => ?_) ρ m ?_
  · cases e with
    | normal =>
      have h : l1E (fun p_0 first_2a first_2l first_2c x8a x8l x8c x9 x10 m => ∃ N1, N1 < N ∧ I N1 p_0 first_2a first_2l first_2c x8a x8l x8c x9 x10 m) ρ m := h
      unfold l1E at h
      obtain ⟨p_0, e0, h⟩ := h.ex
      obtain ⟨first_2a, first_2l, first_2c, e2, h⟩ := h.ex
      obtain ⟨x8a, x8l, x8c, e8, h⟩ := h.ex
      obtain ⟨x9, e9, h⟩ := h.ex
      obtain ⟨x10, e10, h⟩ := h.ex
      obtain ⟨N1, hlt, h⟩ := h
      exact ⟨N1, hlt, (by show l1E (I N1) ρ m; unfold l1E; rw [e0, e2, e8, e9, e10]; exact h)⟩
    | _ => exact h
  have hh := hs N p_0 first_2a first_2l first_2c x8a x8l x8c x9 x10 m h
  generalize (fun p_0 first_2a first_2l first_2c x8a x8l x8c x9 x10 m => ∃ N1, N1 < N ∧ I N1 p_0 first_2a first_2l first_2c x8a x8l x8c x9 x10 m : Option Addr → Option Addr → Nat → Nat → Option Addr → Nat → Nat → Int → Int → Mem → Prop) = K1 at hh ⊢
  rw [← upd_self e0, ← upd_self e2, ← upd_self e8, ← upd_self e9, ← upd_self e10]
  rw [← l1_er  K1 R]
  refine acpt_sound (P := P) (l1A  K1 R) _ _ _ True.intro ?_
  exact Eq.mp (l1_eq  K1 R p_0 first_2a first_2l first_2c x8a x8l x8c x9 x10 ρ m) hh
theorem e0_eq (p_0 : Option Addr) (last_1a : Option Addr) (last_1l : Nat) (last_1c : Nat) (first_2a : Option Addr) (first_2l : Nat) (first_2c : Nat) (R : Ending → Mem → Prop) (m : Mem) : e0 p_0 last_1a last_1l last_1c first_2a first_2l first_2c R m = acpt P od (panicR R) (e0A R) (bodyQ P fn R) (argE (#[.pointer p_0, .slice last_1a last_1l last_1c, .slice first_2a first_2l first_2c] : Array Value).toList) m := by kernel_rfl
theorem ok (p_0 : Option Addr) (last_1a : Option Addr) (last_1l : Nat) (last_1c : Nat) (first_2a : Option Addr) (first_2l : Nat) (first_2c : Nat) (R : Ending → Mem → Prop) (m : Mem) (h : e0 p_0 last_1a last_1l last_1c first_2a first_2l first_2c R m) : HC P id #[.pointer p_0, .slice last_1a last_1l last_1c, .slice first_2a first_2l first_2c] m R := by
  refine HC_of (fn := fn) (c := body) (od := od) (tb := tb) Go.Proofs.Try.func31 (by kernel_rfl) (by kernel_rfl) follows (by kernel_rfl) (of_decide_eq_true (by kernel_rfl)) ?_
  have he : (e0A R).erase = body := by kernel_rfl
  rw [← he]
  refine acpt_sound (P := P) (e0A R) _ _ _ ⟨(fun ρ m h => l1_ok  R ρ m h), True.intro⟩ ?_
  exact Eq.mp (e0_eq p_0 last_1a last_1l last_1c first_2a first_2l first_2c R m) h
end place_Places_links
/-! ### eyot/place.also -/
namespace place_also
noncomputable def fn : Func := Go.Proofs.Try.f32
noncomputable def body : Code := fn.body.getD .skip
def od : Nat → Ord := fun _ => .done
def tb : Nat → Tab := fun _ => (0, [], [])
def e0 (a_0a : Option Addr) (a_0l : Nat) (a_0c : Nat) (b_1a : Option Addr) (b_1l : Nat) (b_1c : Nat) (R : Ending → Mem → Prop) (m : Mem) : Prop :=
 NewC m #[.slice a_0a a_0l a_0c, .slice b_1a b_1l b_1c] T_sl_int fun b8 m1 =>
 HC P slices_Concat_s_int_int.id #[.slice (some ⟨b8, 0, none⟩) 2 2] m1 (Cont (fun v m2 =>
   UnS v fun x9a x9l x9c =>
   HC P slices_Sort_s_int_int.id #[.slice x9a x9l x9c] m2 (Cont (fun v m3 =>
     UnTup v fun us0 =>
     UnNil us0 (
      HC P slices_Compact_s_int_int.id #[.slice x9a x9l x9c] m3 (Cont (fun v m4 =>
        UnS v fun x13a x13l x13c =>
        R (.returned (.slice x13a x13l x13c)) m4) (panicR R)))) (panicR R))) (panicR R))
noncomputable def e0A (R : Ending → Mem → Prop) : ACode := (.code (body))
theorem e0_eq (a_0a : Option Addr) (a_0l : Nat) (a_0c : Nat) (b_1a : Option Addr) (b_1l : Nat) (b_1c : Nat) (R : Ending → Mem → Prop) (m : Mem) : e0 a_0a a_0l a_0c b_1a b_1l b_1c R m = acpt P od (panicR R) (e0A R) (bodyQ P fn R) (argE (#[.slice a_0a a_0l a_0c, .slice b_1a b_1l b_1c] : Array Value).toList) m := by kernel_rfl
theorem ok (a_0a : Option Addr) (a_0l : Nat) (a_0c : Nat) (b_1a : Option Addr) (b_1l : Nat) (b_1c : Nat) (R : Ending → Mem → Prop) (m : Mem) (h : e0 a_0a a_0l a_0c b_1a b_1l b_1c R m) : HC P id #[.slice a_0a a_0l a_0c, .slice b_1a b_1l b_1c] m R := by
  refine HC_of (fn := fn) (c := body) (od := od) (tb := tb) Go.Proofs.Try.func32 (by kernel_rfl) (by kernel_rfl) follows (by kernel_rfl) (of_decide_eq_true (by kernel_rfl)) ?_
  have he : (e0A R).erase = body := by kernel_rfl
  rw [← he]
  refine acpt_sound (P := P) (e0A R) _ _ _ True.intro ?_
  exact Eq.mp (e0_eq a_0a a_0l a_0c b_1a b_1l b_1c R m) h
end place_also
end
end Go.E
set_option linter.unusedVariables false
set_option maxRecDepth 100000
namespace Go.E
open Go.H
noncomputable section
/-! ### eyot/regex.sign -/
namespace regex_sign
noncomputable def fn : Func := Go.Proofs.Try.f40
noncomputable def body : Code := fn.body.getD .skip
def od : Nat → Ord := fun _ => .done
def tb : Nat → Tab := fun _ => (0, [], [])
def e0 (kind_0 : Int) (R : Ending → Mem → Prop) (m : Mem) : Prop :=
 Br (decide (kind_0 ≥ 4)) (
  R (.returned (.bool (decide (kind_0 ≤ 6)))) m) (
  R (.returned (.bool false)) m)
noncomputable def e0A (R : Ending → Mem → Prop) : ACode := (.code (body))
theorem e0_eq (kind_0 : Int) (R : Ending → Mem → Prop) (m : Mem) : e0 kind_0 R m = acpt P od (panicR R) (e0A R) (bodyQ P fn R) (argE (#[.int .i64 kind_0] : Array Value).toList) m := by kernel_rfl
theorem ok (kind_0 : Int) (R : Ending → Mem → Prop) (m : Mem) (h : e0 kind_0 R m) : HC P id #[.int .i64 kind_0] m R := by
  refine HC_of (fn := fn) (c := body) (od := od) (tb := tb) Go.Proofs.Try.func40 (by kernel_rfl) (by kernel_rfl) follows (by kernel_rfl) (of_decide_eq_true (by kernel_rfl)) ?_
  have he : (e0A R).erase = body := by kernel_rfl
  rw [← he]
  refine acpt_sound (P := P) (e0A R) _ _ _ True.intro ?_
  exact Eq.mp (e0_eq kind_0 R m) h
end regex_sign
/-! ### slices.Concat[[]int,int] -/
namespace slices_Concat_s_int_int
noncomputable def fn : Func := Go.Proofs.Try.f41
noncomputable def body : Code := fn.body.getD .skip
def od : Nat → Ord := fun _ => .done
def tb : Nat → Tab := fun _ => (0, [], [])
def l3E (K : Option Addr → Nat → Nat → Option Addr → Nat → Nat → Int → Int → Mem → Prop) : Env → Mem → Prop := fun ρ m => UnS (ρ 6) fun newslice_6a newslice_6l newslice_6c => UnS (ρ 25) fun x25a x25l x25c => UnI (ρ 26) .i64 fun x26 => UnI (ρ 27) .i64 fun x27 => K newslice_6a newslice_6l newslice_6c x25a x25l x25c x26 x27 m
def l3B  (K3 : Option Addr → Nat → Nat → Option Addr → Nat → Nat → Int → Int → Mem → Prop) (newslice_6a : Option Addr) (newslice_6l : Nat) (newslice_6c : Nat) (x25a : Option Addr) (x25l : Nat) (x25c : Nat) (x26 : Int) (x27 : Int) (R : Ending → Mem → Prop) (m : Mem) : Prop :=
 Br (decide (x27 < x26)) (
  IxS x25a x25l x27 1 fun x29b x29o =>
  LdV m x29b x29o fun v =>
  UnS v fun x30a x30l x30c =>
  BiN P .append #[T_sl_int, T_sl_int] T_sl_int #[false, false] #[.slice newslice_6a newslice_6l newslice_6c, .slice x30a x30l x30c] m (fun w m1 =>
   UnS w fun x33a x33l x33c =>
   K3 x33a x33l x33c x25a x25l x25c x26 (IntKind.i64.wrap (x27 + 1)) m1) (panicR R)) (
  R (.returned (.slice newslice_6a newslice_6l newslice_6c)) m)
def l3  (newslice_6a : Option Addr) (newslice_6l : Nat) (newslice_6c : Nat) (x25a : Option Addr) (x25l : Nat) (x25c : Nat) (x26 : Int) (x27 : Int) (R : Ending → Mem → Prop) (m : Mem) : Prop :=
  ∃ (I : Nat → Option Addr → Nat → Nat → Option Addr → Nat → Nat → Int → Int → Mem → Prop) (N : Nat), I N newslice_6a newslice_6l newslice_6c x25a x25l x25c x26 x27 m ∧ ∀ N newslice_6a newslice_6l newslice_6c x25a x25l x25c x26 x27 m, I N newslice_6a newslice_6l newslice_6c x25a x25l x25c x26 x27 m → l3B  (fun newslice_6a newslice_6l newslice_6c x25a x25l x25c x26 x27 m => ∃ N1, N1 < N ∧ I N1 newslice_6a newslice_6l newslice_6c x25a x25l x25c x26 x27 m) newslice_6a newslice_6l newslice_6c x25a x25l x25c x26 x27 R m
noncomputable def l3A  (K3 : Option Addr → Nat → Nat → Option Addr → Nat → Nat → Int → Int → Mem → Prop) (R : Ending → Mem → Prop) : ACode := (.code (lP (bB (sR (sL (sR (sR (sR (sR (body))))))))))
def k2E (K : Option Addr → Nat → Nat → Int → Mem → Prop) : Env → Mem → Prop := fun ρ m => UnS (ρ 0) fun slices_0a slices_0l slices_0c => UnI (ρ 3) .i64 fun size_3 => K slices_0a slices_0l slices_0c size_3 m
def k2  (slices_0a : Option Addr) (slices_0l : Nat) (slices_0c : Nat) (size_3 : Int) (R : Ending → Mem → Prop) (m : Mem) : Prop :=
 HC P slices_Grow_s_int_int.id #[.slice none 0 0, .int .i64 size_3] m (Cont (fun v m1 =>
   UnS v fun x24a x24l x24c =>
   l3  x24a x24l x24c slices_0a slices_0l slices_0c ((slices_0l : Nat) : Int) 0 R m1) (panicR R))
noncomputable def k2A  (R : Ending → Mem → Prop) : ACode := (.seq (.code (sL (sR (sR (sR (body)))))) (.seq (.seq (.code (sL (sL (sR (sR (sR (sR (body)))))))) (.block 2 (.cut (l3E fun newslice_6a newslice_6l newslice_6c x25a x25l x25c x26 x27 m => l3  newslice_6a newslice_6l newslice_6c x25a x25l x25c x26 x27 R m) (.loop (lP (bB (sR (sL (sR (sR (sR (sR (body))))))))))))) (.code (sR (sR (sR (sR (sR (body)))))))))
def l1E (K : Option Addr → Nat → Nat → Int → Option Addr → Nat → Nat → Int → Int → Mem → Prop) : Env → Mem → Prop := fun ρ m => UnS (ρ 0) fun slices_0a slices_0l slices_0c => UnI (ρ 3) .i64 fun size_3 => UnS (ρ 9) fun x9a x9l x9c => UnI (ρ 10) .i64 fun x10 => UnI (ρ 11) .i64 fun x11 => K slices_0a slices_0l slices_0c size_3 x9a x9l x9c x10 x11 m
def l1B  (K1 : Option Addr → Nat → Nat → Int → Option Addr → Nat → Nat → Int → Int → Mem → Prop) (slices_0a : Option Addr) (slices_0l : Nat) (slices_0c : Nat) (size_3 : Int) (x9a : Option Addr) (x9l : Nat) (x9c : Nat) (x10 : Int) (x11 : Int) (R : Ending → Mem → Prop) (m : Mem) : Prop :=
 Br (decide (x11 < x10)) (
  IxS x9a x9l x11 1 fun x13b x13o =>
  LdV m x13b x13o fun v =>
  UnS v fun x14a x14l x14c =>
  Br (decide ((IntKind.i64.wrap (size_3 + ((x14l : Nat) : Int))) < 0)) (
   R (.panicked [{ v := .iface T_string (.string (ByteArray.mk #[108, 101, 110, 32, 111, 117, 116, 32, 111, 102, 32, 114, 97, 110, 103, 101])), recovered := false }]) m) (
   K1 slices_0a slices_0l slices_0c (IntKind.i64.wrap (size_3 + ((x14l : Nat) : Int))) x9a x9l x9c x10 (IntKind.i64.wrap (x11 + 1)) m)) (
  k2  slices_0a slices_0l slices_0c size_3 R m)
def l1  (slices_0a : Option Addr) (slices_0l : Nat) (slices_0c : Nat) (size_3 : Int) (x9a : Option Addr) (x9l : Nat) (x9c : Nat) (x10 : Int) (x11 : Int) (R : Ending → Mem → Prop) (m : Mem) : Prop :=
  ∃ (I : Nat → Option Addr → Nat → Nat → Int → Option Addr → Nat → Nat → Int → Int → Mem → Prop) (N : Nat), I N slices_0a slices_0l slices_0c size_3 x9a x9l x9c x10 x11 m ∧ ∀ N slices_0a slices_0l slices_0c size_3 x9a x9l x9c x10 x11 m, I N slices_0a slices_0l slices_0c size_3 x9a x9l x9c x10 x11 m → l1B  (fun slices_0a slices_0l slices_0c size_3 x9a x9l x9c x10 x11 m => ∃ N1, N1 < N ∧ I N1 slices_0a slices_0l slices_0c size_3 x9a x9l x9c x10 x11 m) slices_0a slices_0l slices_0c size_3 x9a x9l x9c x10 x11 R m
noncomputable def l1A  (K1 : Option Addr → Nat → Nat → Int → Option Addr → Nat → Nat → Int → Int → Mem → Prop) (R : Ending → Mem → Prop) : ACode := (.code (lP (bB (sR (sL (sR (sR (body))))))))
def e0 (slices_0a : Option Addr) (slices_0l : Nat) (slices_0c : Nat) (R : Ending → Mem → Prop) (m : Mem) : Prop :=
 l1  slices_0a slices_0l slices_0c 0 slices_0a slices_0l slices_0c ((slices_0l : Nat) : Int) 0 R m
noncomputable def e0A (R : Ending → Mem → Prop) : ACode := (.seq (.code (sL (body))) (.seq (.code (sL (sR (body)))) (.seq (.seq (.code (sL (sL (sR (sR (body)))))) (.block 0 (.cut (l1E fun slices_0a slices_0l slices_0c size_3 x9a x9l x9c x10 x11 m => l1  slices_0a slices_0l slices_0c size_3 x9a x9l x9c x10 x11 R m) (.loop (lP (bB (sR (sL (sR (sR (body))))))))))) (.cut (k2E fun slices_0a slices_0l slices_0c size_3 m => k2  slices_0a slices_0l slices_0c size_3 R m) (sR (sR (sR (body))))))))
abbrev k2Q  (R : Ending → Mem → Prop) : Exit → Env → Mem → Prop := (bodyQ P fn R)
abbrev l1Q  (R : Ending → Mem → Prop) : Exit → Env → Mem → Prop := (blockQ 0 (thenQ (acpt P od (panicR R) (.cut (k2E fun slices_0a slices_0l slices_0c size_3 m => k2  slices_0a slices_0l slices_0c size_3 R m) (sR (sR (sR (body))))) (bodyQ P fn R)) (bodyQ P fn R)))
abbrev l3Q  (R : Ending → Mem → Prop) : Exit → Env → Mem → Prop := (blockQ 2 (thenQ (acpt P od (panicR R) (.code (sR (sR (sR (sR (sR (body))))))) (k2Q  R)) (k2Q  R)))
theorem l3_eq  (K3 : Option Addr → Nat → Nat → Option Addr → Nat → Nat → Int → Int → Mem → Prop) (R : Ending → Mem → Prop) (newslice_6a : Option Addr) (newslice_6l : Nat) (newslice_6c : Nat) (x25a : Option Addr) (x25l : Nat) (x25c : Nat) (x26 : Int) (x27 : Int) (ρ : Env) (m : Mem) : l3B  K3 newslice_6a newslice_6l newslice_6c x25a x25l x25c x26 x27 R m = acpt P od (panicR R) (l3A  K3 R) (thenQ (l3E K3) (l3Q  R)) (upd (upd (upd (upd ρ 27 (.int .i64 x27)) 26 (.int .i64 x26)) 25 (.slice x25a x25l x25c)) 6 (.slice newslice_6a newslice_6l newslice_6c)) m := by kernel_rfl
theorem l3_er  (K3 : Option Addr → Nat → Nat → Option Addr → Nat → Nat → Int → Int → Mem → Prop) (R : Ending → Mem → Prop) : (l3A  K3 R).erase = lP (bB (sR (sL (sR (sR (sR (sR (body)))))))) := by kernel_rfl
theorem l3_ok  (R : Ending → Mem → Prop) (ρ : Env) (m : Mem) (h : (l3E fun newslice_6a newslice_6l newslice_6c x25a x25l x25c x26 x27 m => l3  newslice_6a newslice_6l newslice_6c x25a x25l x25c x26 x27 R m) ρ m) : cpt P od (panicR R) (.loop (lP (bB (sR (sL (sR (sR (sR (sR (body)))))))))) (l3Q  R) ρ m := by
  unfold l3E at h
  obtain ⟨newslice_6a, newslice_6l, newslice_6c, e6, h⟩ := h.ex
  obtain ⟨x25a, x25l, x25c, e25, h⟩ := h.ex
  obtain ⟨x26, e26, h⟩ := h.ex
  obtain ⟨x27, e27, h⟩ := h.ex
  obtain ⟨I, N, h0, hs⟩ := h
  refine ⟨fun N => l3E (I N), N, (by show l3E (I N) ρ m; unfold l3E; rw [e6, e25, e26, e27]; exact h0), ?_⟩
  clear h0 e6 e25 e26 e27
  intro N ρ m h
  unfold l3E at h
  obtain ⟨newslice_6a, newslice_6l, newslice_6c, e6, h⟩ := h.ex
  obtain ⟨x25a, x25l, x25c, e25, h⟩ := h.ex
  obtain ⟨x26, e26, h⟩ := h.ex
  obtain ⟨x27, e27, h⟩ := h.ex
  refine cpt_mono (P := P) (lP (bB (sR (sL (sR (sR (sR (sR (body))))))))) (Q := thenQ (l3E fun newslice_6a newslice_6l newslice_6c x25a x25l x25c x26 x27 m => ∃ N1, N1 < N ∧ I N1 newslice_6a newslice_6l newslice_6c x25a x25l x25c x26 x27 m) (l3Q  R)) (fun e ρ m h => ?_) ρ m ?_
  · cases e with
    | normal =>
      have h : l3E (fun newslice_6a newslice_6l newslice_6c x25a x25l x25c x26 x27 m => ∃ N1, N1 < N ∧ I N1 newslice_6a newslice_6l newslice_6c x25a x25l x25c x26 x27 m) ρ m := h
      unfold l3E at h
      obtain ⟨newslice_6a, newslice_6l, newslice_6c, e6, h⟩ := h.ex
      obtain ⟨x25a, x25l, x25c, e25, h⟩ := h.ex
      obtain ⟨x26, e26, h⟩ := h.ex
      obtain ⟨x27, e27, h⟩ := h.ex
      obtain ⟨N1, hlt, h⟩ := h
      exact ⟨N1, hlt, (by show l3E (I N1) ρ m; unfold l3E; rw [e6, e25, e26, e27]; exact h)⟩
    | _ => exact h
  have hh := hs N newslice_6a newslice_6l newslice_6c x25a x25l x25c x26 x27 m h
  generalize (fun newslice_6a newslice_6l newslice_6c x25a x25l x25c x26 x27 m => ∃ N1, N1 < N ∧ I N1 newslice_6a newslice_6l newslice_6c x25a x25l x25c x26 x27 m : Option Addr → Nat → Nat → Option Addr → Nat → Nat → Int → Int → Mem → Prop) = K3 at hh ⊢
  rw [← upd_self e6, ← upd_self e25, ← upd_self e26, ← upd_self e27]
  rw [← l3_er  K3 R]
  refine acpt_sound (P := P) (l3A  K3 R) _ _ _ True.intro ?_
  exact Eq.mp (l3_eq  K3 R newslice_6a newslice_6l newslice_6c x25a x25l x25c x26 x27 ρ m) hh
theorem k2_eq  (R : Ending → Mem → Prop) (slices_0a : Option Addr) (slices_0l : Nat) (slices_0c : Nat) (size_3 : Int) (ρ : Env) (m : Mem) : k2  slices_0a slices_0l slices_0c size_3 R m = acpt P od (panicR R) (k2A  R) (k2Q  R) (upd (upd ρ 3 (.int .i64 size_3)) 0 (.slice slices_0a slices_0l slices_0c)) m := by kernel_rfl
theorem k2_er  (R : Ending → Mem → Prop) : (k2A  R).erase = sR (sR (sR (body))) := by kernel_rfl
theorem k2_ok  (R : Ending → Mem → Prop) (ρ : Env) (m : Mem) (h : (k2E fun slices_0a slices_0l slices_0c size_3 m => k2  slices_0a slices_0l slices_0c size_3 R m) ρ m) : cpt P od (panicR R) (sR (sR (sR (body)))) (k2Q  R) ρ m := by
  unfold k2E at h
  obtain ⟨slices_0a, slices_0l, slices_0c, e0, h⟩ := h.ex
  obtain ⟨size_3, e3, h⟩ := h.ex
  rw [← upd_self e0, ← upd_self e3]
  rw [← k2_er  R]
  refine acpt_sound (P := P) (k2A  R) _ _ _ ⟨⟨True.intro, ⟨(fun ρ m h => l3_ok  R ρ m h), True.intro⟩⟩, True.intro⟩ ?_
  exact Eq.mp (k2_eq  R slices_0a slices_0l slices_0c size_3 ρ m) h
theorem l1_eq  (K1 : Option Addr → Nat → Nat → Int → Option Addr → Nat → Nat → Int → Int → Mem → Prop) (R : Ending → Mem → Prop) (slices_0a : Option Addr) (slices_0l : Nat) (slices_0c : Nat) (size_3 : Int) (x9a : Option Addr) (x9l : Nat) (x9c : Nat) (x10 : Int) (x11 : Int) (ρ : Env) (m : Mem) : l1B  K1 slices_0a slices_0l slices_0c size_3 x9a x9l x9c x10 x11 R m = acpt P od (panicR R) (l1A  K1 R) (thenQ (l1E K1) (l1Q  R)) (upd (upd (upd (upd (upd ρ 11 (.int .i64 x11)) 10 (.int .i64 x10)) 9 (.slice x9a x9l x9c)) 3 (.int .i64 size_3)) 0 (.slice slices_0a slices_0l slices_0c)) m := by kernel_rfl
theorem l1_er  (K1 : Option Addr → Nat → Nat → Int → Option Addr → Nat → Nat → Int → Int → Mem → Prop) (R : Ending → Mem → Prop) : (l1A  K1 R).erase = lP (bB (sR (sL (sR (sR (body)))))) := by kernel_rfl
theorem l1_ok  (R : Ending → Mem → Prop) (ρ : Env) (m : Mem) (h : (l1E fun slices_0a slices_0l slices_0c size_3 x9a x9l x9c x10 x11 m => l1  slices_0a slices_0l slices_0c size_3 x9a x9l x9c x10 x11 R m) ρ m) : cpt P od (panicR R) (.loop (lP (bB (sR (sL (sR (sR (body)))))))) (l1Q  R) ρ m := by
  unfold l1E at h
  obtain ⟨slices_0a, slices_0l, slices_0c, e0, h⟩ := h.ex
  obtain ⟨size_3, e3, h⟩ := h.ex
  obtain ⟨x9a, x9l, x9c, e9, h⟩ := h.ex
  obtain ⟨x10, e10, h⟩ := h.ex
  obtain ⟨x11, e11, h⟩ := h.ex
  obtain ⟨I, N, h0, hs⟩ := h
  refine ⟨fun N => l1E (I N), N, (by show l1E (I N) ρ m; unfold l1E; rw [e0, e3, e9, e10, e11]; exact h0), ?_⟩
  clear h0 e0 e3 e9 e10 e11
  intro N ρ m h
  unfold l1E at h
  obtain ⟨slices_0a, slices_0l, slices_0c, e0, h⟩ := h.ex
  obtain ⟨size_3, e3, h⟩ := h.ex
  obtain ⟨x9a, x9l, x9c, e9, h⟩ := h.ex
  obtain ⟨x10, e10, h⟩ := h.ex
  obtain ⟨x11, e11, h⟩ := h.ex
  refine cpt_mono (P := P) (lP (bB (sR (sL (sR (sR (body))))))) (Q := thenQ (l1E fun slices_0a slices_0l slices_0c size_3 x9a x9l x9c x10 x11 m => ∃ N1, N1 < N ∧ I N1 slices_0a slices_0l slices_0c size_3 x9a x9l x9c x10 x11 m) (l1Q  R)) (fun e ρ m h => ?_) ρ m ?_
  · cases e with
    | normal =>
      have h : l1E (fun slices_0a slices_0l slices_0c size_3 x9a x9l x9c x10 x11 m => ∃ N1, N1 < N ∧ I N1 slices_0a slices_0l slices_0c size_3 x9a x9l x9c x10 x11 m) ρ m := h
      unfold l1E at h
      obtain ⟨slices_0a, slices_0l, slices_0c, e0, h⟩ := h.ex
      obtain ⟨size_3, e3, h⟩ := h.ex
      obtain ⟨x9a, x9l, x9c, e9, h⟩ := h.ex
      obtain ⟨x10, e10, h⟩ := h.ex
      obtain ⟨x11, e11, h⟩ := h.ex
      obtain ⟨N1, hlt, h⟩ := h
      exact ⟨N1, hlt, (by show l1E (I N1) ρ m; unfold l1E; rw [e0, e3, e9, e10, e11]; exact h)⟩
    | _ => exact h
  have hh := hs N slices_0a slices_0l slices_0c size_3 x9a x9l x9c x10 x11 m h
  generalize (fun slices_0a slices_0l slices_0c size_3 x9a x9l x9c x10 x11 m => ∃ N1, N1 < N ∧ I N1 slices_0a slices_0l slices_0c size_3 x9a x9l x9c x10 x11 m : Option Addr → Nat → Nat → Int → Option Addr → Nat → Nat → Int → Int → Mem → Prop) = K1 at hh ⊢
  rw [← upd_self e0, ← upd_self e3, ← upd_self e9, ← upd_self e10, ← upd_self e11]
  rw [← l1_er  K1 R]
  refine acpt_sound (P := P) (l1A  K1 R) _ _ _ True.intro ?_
  exact Eq.mp (l1_eq  K1 R slices_0a slices_0l slices_0c size_3 x9a x9l x9c x10 x11 ρ m) hh
theorem e0_eq (slices_0a : Option Addr) (slices_0l : Nat) (slices_0c : Nat) (R : Ending → Mem → Prop) (m : Mem) : e0 slices_0a slices_0l slices_0c R m = acpt P od (panicR R) (e0A R) (bodyQ P fn R) (argE (#[.slice slices_0a slices_0l slices_0c] : Array Value).toList) m := by kernel_rfl
theorem ok (slices_0a : Option Addr) (slices_0l : Nat) (slices_0c : Nat) (R : Ending → Mem → Prop) (m : Mem) (h : e0 slices_0a slices_0l slices_0c R m) : HC P id #[.slice slices_0a slices_0l slices_0c] m R := by
  refine HC_of (fn := fn) (c := body) (od := od) (tb := tb) Go.Proofs.Try.func41 (by kernel_rfl) (by kernel_rfl) follows (by kernel_rfl) (of_decide_eq_true (by kernel_rfl)) ?_
  have he : (e0A R).erase = body := by kernel_rfl
  rw [← he]
  refine acpt_sound (P := P) (e0A R) _ _ _ ⟨⟨⟨(fun ρ m h => k2_ok  R ρ m h), ⟨(fun ρ m h => l1_ok  R ρ m h), True.intro⟩⟩, True.intro⟩, True.intro⟩ ?_
  exact Eq.mp (e0_eq slices_0a slices_0l slices_0c R m) h
end slices_Concat_s_int_int
/-! ### slices.Grow[[]int,int] -/
namespace slices_Grow_s_int_int
noncomputable def fn : Func := Go.Proofs.Try.f45
noncomputable def body : Code := fn.body.getD .skip
def od : Nat → Ord := fun _ => .done
def tb : Nat → Tab := fun _ => (0, [], [])
def e0 (s_0a : Option Addr) (s_0l : Nat) (s_0c : Nat) (n_1 : Int) (R : Ending → Mem → Prop) (m : Mem) : Prop :=
 Br (decide (n_1 < 0)) (
  R (.panicked [{ v := .iface T_string (.string (ByteArray.mk #[99, 97, 110, 110, 111, 116, 32, 98, 101, 32, 110, 101, 103, 97, 116, 105, 118, 101])), recovered := false }]) m) (
  Br (decide ((IntKind.i64.wrap (n_1 - (IntKind.i64.wrap (((s_0c : Nat) : Int) - ((s_0l : Nat) : Int))))) > 0)) (
   SlS s_0a s_0c 0 ((s_0c : Nat) : Int) 1 fun x20a x20l x20c =>
   BiN P .append #[T_sl_int, T_int] T_sl_int #[false, false] #[.slice x20a x20l x20c, .int .i64 (IntKind.i64.wrap (n_1 - (IntKind.i64.wrap (((s_0c : Nat) : Int) - ((s_0l : Nat) : Int)))))] m (fun w m1 =>
    UnS w fun x22a x22l x22c =>
    SlS x22a x22c 0 ((s_0l : Nat) : Int) 1 fun x25a x25l x25c =>
    R (.returned (.slice x25a x25l x25c)) m1) (panicR R)) (
   R (.returned (.slice s_0a s_0l s_0c)) m))
noncomputable def e0A (R : Ending → Mem → Prop) : ACode := (.code (body))
theorem e0_eq (s_0a : Option Addr) (s_0l : Nat) (s_0c : Nat) (n_1 : Int) (R : Ending → Mem → Prop) (m : Mem) : e0 s_0a s_0l s_0c n_1 R m = acpt P od (panicR R) (e0A R) (bodyQ P fn R) (argE (#[.slice s_0a s_0l s_0c, .int .i64 n_1] : Array Value).toList) m := by kernel_rfl
theorem ok (s_0a : Option Addr) (s_0l : Nat) (s_0c : Nat) (n_1 : Int) (R : Ending → Mem → Prop) (m : Mem) (h : e0 s_0a s_0l s_0c n_1 R m) : HC P id #[.slice s_0a s_0l s_0c, .int .i64 n_1] m R := by
  refine HC_of (fn := fn) (c := body) (od := od) (tb := tb) Go.Proofs.Try.func45 (by kernel_rfl) (by kernel_rfl) follows (by kernel_rfl) (of_decide_eq_true (by kernel_rfl)) ?_
  have he : (e0A R).erase = body := by kernel_rfl
  rw [← he]
  refine acpt_sound (P := P) (e0A R) _ _ _ True.intro ?_
  exact Eq.mp (e0_eq s_0a s_0l s_0c n_1 R m) h
end slices_Grow_s_int_int
end
end Go.E
set_option linter.unusedVariables false
namespace Go.H
section
variable {P : Program} {m : Mem}
theorem pt_pure {α : Type} (a : α) (Q : α → Mem → Prop) (E : Value → Mem → Prop) : pt P (pure a : Sem α) Q E m = Q a m := rfl
theorem pt_under {t : TypeId} {d : TypeDesc} (h : P.underlying t = some d) (Q : TypeDesc → Mem → Prop) (E : Value → Mem → Prop) : pt P (underlying t) Q E m = Q d m := by
  show pt P ((Sem.program .pure).bind _) Q E m = _
  simp only [Sem.bind, pt, h]; rfl
theorem pt_typeInfo {t : TypeId} {i : TypeInfo} (h : P.info? t = some i) (Q : TypeInfo → Mem → Prop) (E : Value → Mem → Prop) : pt P (typeInfo t) Q E m = Q i m := by
  show pt P ((Sem.program .pure).bind _) Q E m = _
  simp only [Sem.bind, pt, h]; rfl
theorem pt_sizeOf {t : TypeId} {i : TypeInfo} (h : P.info? t = some i) (Q : Nat → Mem → Prop) (E : Value → Mem → Prop) : pt P (Go.sizeOf t) Q E m = Q i.size m := by
  unfold Go.sizeOf; rw [pt_bind, pt_typeInfo h]; rfl
theorem pt_zero {t : TypeId} {i : TypeInfo} {z : Value} (h : P.info? t = some i) (hz : i.zero = some z) (Q : Value → Mem → Prop) (E : Value → Mem → Prop) : pt P (zeroValue t) Q E m = Q z m := by
  unfold zeroValue; rw [pt_bind, pt_typeInfo h]; simp only [hz]; rfl
theorem pt_newRow (e : TypeId) (c : Array Value) (Q : Addr → Mem → Prop) (E : Value → Mem → Prop) : pt P (newRow e c) Q E m = ∀ b, m b = none → Q ⟨b, 0, none⟩ (m.set b (.cells c e (0, 0))) := by
  unfold newRow newObj; rw [pt_bind]; rfl
theorem pt_ite {α : Type} (c : Prop) [Decidable c] (x y : Sem α) (Q : α → Mem → Prop) (E : Value → Mem → Prop) : pt P (if c then x else y) Q E m = if c then pt P x Q E m else pt P y Q E m := by
  split <;> rfl
theorem pt_loadCells {b o : Nat} {Q : Array Value → Mem → Prop} {E : Value → Mem → Prop} : ∀ (vs : List Value) (i : Nat) (acc : Array Value),
    (∀ j u, vs[j]? = some u → m.cell b (o + (i + j)) = some u) → Q (acc ++ vs.toArray) m → pt P (loadCellsFrom ⟨b, o, none⟩ i vs.length acc) Q E m
  | [], i, acc, _, h => by simpa [loadCellsFrom, pt_pure] using h
  | v :: vs, i, acc, hc, h => by
    simp only [List.length_cons, loadCellsFrom]
    rw [pt_bind, add_none]
    refine ⟨rfl, v, by simpa using hc 0 v (by simp), ?_⟩
    refine pt_loadCells vs (i + 1) (acc.push v) (fun j u hu => ?_) (by simpa using h)
    have := hc (j + 1) u (by simpa using hu)
    rw [show o + (i + 1 + j) = o + (i + (j + 1)) by omega]; exact this
/-- Cells written into a row, from an offset on. -/
def putCells (c : Array Value) : Nat → List Value → Array Value
  | _, [] => c
  | o, v :: r => putCells (c.setIfInBounds o v) (o + 1) r
theorem putCells_size (vs : List Value) : ∀ (c : Array Value) (o : Nat), (putCells c o vs).size = c.size := by
  induction vs with
  | nil => intro c o; rfl
  | cons v r ih => intro c o; simp [putCells, ih]
theorem putCells_get (vs : List Value) : ∀ (c : Array Value) (o j : Nat), o + vs.length ≤ c.size → (putCells c o vs)[j]? = if o ≤ j ∧ j < o + vs.length then vs[j - o]? else c[j]? := by
  induction vs with
  | nil => intro c o j _; simp [putCells]; omega
  | cons v r ih =>
    intro c o j h
    simp only [List.length_cons] at h
    rw [putCells, ih _ _ _ (by simp; omega)]
    by_cases h1 : o = j
    · subst h1
      rw [if_neg (by omega), if_pos (by simp)]
      have : o < c.size := by omega
      simp [this]
    · by_cases h2 : o + 1 ≤ j ∧ j < o + 1 + r.length
      · rw [if_pos h2, if_pos (by simp; omega)]
        rw [show j - o = (j - (o + 1)) + 1 by omega]; simp
      · rw [if_neg h2, if_neg (by simp; omega)]
        simp [h1]
theorem set_set (m : Mem) (b : Nat) (o o' : Obj) : (m.set b o).set b o' = m.set b o' := by
  funext k; simp only [Mem.set]; split <;> rfl
theorem set_same (m : Mem) (b : Nat) (o : Obj) : (m.set b o) b = some o := by simp [Mem.set]
theorem set_other (m : Mem) {b k : Nat} (o : Obj) (h : k ≠ b) : (m.set b o) k = m k := by simp [Mem.set, h]
theorem pt_storeCells {b o : Nat} {e : TypeId} {Q : Unit → Mem → Prop} {E : Value → Mem → Prop} : ∀ (vs : List Value) (i : Nat) (m : Mem) (c : Array Value), m b = some (.cells c e (0, 0)) →
    (∀ v ∈ vs, notOne v = false) → o + i + vs.length ≤ c.size → Q () (m.set b (.cells (putCells c (o + i) vs) e (0, 0))) → pt P (storeCells ⟨b, o, none⟩ vs i) Q E m
  | [], i, m, c, hb, _, _, h => by
    have : m.set b (.cells c e (0, 0)) = m := by
      funext k; by_cases hk : k = b
      · subst hk; rw [set_same, hb]
      · rw [set_other _ _ hk]
    simp only [storeCells, pt_pure]
    simpa [putCells, this] using h
  | v :: r, i, m, c, hb, hn, hl, h => by
    simp only [List.length_cons] at hl
    simp only [storeCells]
    rw [pt_bind, add_none]
    refine ⟨rfl, hn v (by simp), c, e, 0, 0, hb, by show o + i < c.size; omega, by simp, ?_⟩
    refine pt_storeCells r (i + 1) _ (c.setIfInBounds (o + i) v) (set_same _ _ _) (fun u hu => hn u (by simp [hu])) (by simp; omega) ?_
    rw [set_set]; exact h
end
/-- What the type table must say of a slice type t over elements e. -/
structure ElemOK (P : Program) (t e : TypeId) (z : Value) (sz bytes : Nat) : Prop where
  ht : P.underlying t = some (.slice e)
  hi : ∃ i, P.info? e = some i ∧ i.zero = some z ∧ i.size = sz ∧ i.bytes = bytes
  hz : z.cells.size = sz
/-- A slice that is its row's head, and whose row is at hand whole: its cells are xs. -/
def Own (m : Mem) (e : TypeId) (sz : Nat) (a : Option Addr) (l c : Nat) (xs : List Value) : Prop :=
  xs.length = l * sz ∧ ((a = none ∧ l = 0 ∧ c = 0) ∨
    ∃ b cur, a = some ⟨b, 0, none⟩ ∧ m b = some (.cells cur e (0, 0)) ∧ l ≤ c ∧ cur.size = c * sz ∧ cur.toList.take (l * sz) = xs ∧ c ≤ 9223372036854775807)
def blk : Option Addr → Option Nat
  | some a => some a.block
  | none => none
/-- All blocks but those of S are as they were. -/
structure Chg (S : Nat → Prop) (m m' : Mem) : Prop where
  eq : ∀ b o, m b = some o → ¬ S b → m' b = some o
  live : ∀ b, m b ≠ none → m' b ≠ none
theorem Chg.refl (S : Nat → Prop) (m : Mem) : Chg S m m := ⟨fun _ _ h _ => h, fun _ h => h⟩
theorem Chg.trans {S S' : Nat → Prop} {m m1 m2 : Mem} (h : Chg S m m1) (k : Chg S' m1 m2) (hs : ∀ b, m b ≠ none → S' b → S b) : Chg S m m2 :=
  ⟨fun b o hb hn => k.eq b o (h.eq b o hb hn) (fun hx => hn (hs b (by rw [hb]; simp) hx)), fun b hb => k.live b (h.live b hb)⟩
theorem Chg.mono {S S' : Nat → Prop} {m m' : Mem} (h : Chg S m m') (hs : ∀ b, S b → S' b) : Chg S' m m' := ⟨fun b o hb hn => h.eq b o hb (fun hx => hn (hs b hx)), h.live⟩
theorem Le.chg {m m' : Mem} (h : Le m m') (S : Nat → Prop) : Chg S m m' := ⟨fun b o hb _ => h b o hb, fun b hb => by
  cases hm : m b with
  | none => exact absurd hm hb
  | some o => rw [h b o hm]; simp⟩
theorem Chg.le {m m' : Mem} (h : Chg (fun _ => False) m m') : Le m m' := fun b o hb => h.eq b o hb (fun h => h)
theorem Le.set {m : Mem} {b : Nat} (h : m b = none) (o : Obj) : Le m (m.set b o) := fun k o' hk => by
  rw [set_other _ _ (fun e => by subst e; rw [h] at hk; cases hk)]; exact hk
theorem Chg.set (m : Mem) (b : Nat) (o : Obj) : Chg (fun k => k = b) m (m.set b o) :=
  ⟨fun k o' hk hn => by rw [set_other _ _ hn]; exact hk, fun k hk => by
    by_cases e : k = b
    · subst e; rw [set_same]; simp
    · rw [set_other _ _ e]; exact hk⟩
theorem Chg.new {S : Nat → Prop} {m m' : Mem} (h : Chg S m m') {b : Nat} (hb : m' b = none) : m b = none := by
  cases hm : m b with
  | none => rfl
  | some o => exact absurd hb (h.live b (by rw [hm]; simp))
theorem Le.live {m m' : Mem} (h : Le m m') {b : Nat} (hb : m b ≠ none) : m' b ≠ none := (h.chg fun _ => False).live b hb
theorem CellsAt.le {m m' : Mem} (h : Le m m') {a : Option Addr} {vs : List Value} (hc : CellsAt m a vs) : CellsAt m' a vs := by
  rcases hc.cases with ⟨b, o, rfl, hx⟩ | ⟨rfl, _⟩
  · intro j u hu
    have := hx j u hu
    unfold Mem.cell at *
    split at this
    · rename_i hb; rw [h _ _ hb]; exact this
    · cases this
  · exact CellsAt.empty _ _
theorem CellsAt.chg {S : Nat → Prop} {m m' : Mem} (h : Chg S m m') {a : Option Addr} {vs : List Value} (hc : CellsAt m a vs) (hn : ∀ b, blk a = some b → ¬ S b) : CellsAt m' a vs := by
  rcases hc.cases with ⟨b, o, rfl, hx⟩ | ⟨rfl, _⟩
  · intro j u hu
    have := hx j u hu
    unfold Mem.cell at *
    split at this
    · rename_i hb; rw [h.eq _ _ hb (hn _ rfl)]; exact this
    · cases this
  · exact CellsAt.empty _ _
theorem Own.le {m m' : Mem} (h : Le m m') {e : TypeId} {sz : Nat} {a : Option Addr} {l c : Nat} {xs : List Value} (ho : Own m e sz a l c xs) : Own m' e sz a l c xs := by
  obtain ⟨h1, h2⟩ := ho
  refine ⟨h1, ?_⟩
  rcases h2 with h2 | ⟨b, cur, ha, hb, r⟩
  · exact .inl h2
  · exact .inr ⟨b, cur, ha, h _ _ hb, r⟩
theorem Own.chg {S : Nat → Prop} {m m' : Mem} (h : Chg S m m') {e : TypeId} {sz : Nat} {a : Option Addr} {l c : Nat} {xs : List Value} (ho : Own m e sz a l c xs) (hn : ∀ b, blk a = some b → ¬ S b) : Own m' e sz a l c xs := by
  obtain ⟨h1, h2⟩ := ho
  refine ⟨h1, ?_⟩
  rcases h2 with h2 | ⟨b, cur, ha, hb, r⟩
  · exact .inl h2
  · exact .inr ⟨b, cur, ha, h.eq _ _ hb (hn _ (by rw [ha]; rfl)), r⟩
theorem Own.nil (m : Mem) (e : TypeId) (sz : Nat) : Own m e sz none 0 0 [] := ⟨by simp, .inl ⟨rfl, rfl, rfl⟩⟩
theorem Own.cells {m : Mem} {e : TypeId} {sz : Nat} {a : Option Addr} {l c : Nat} {xs : List Value} (ho : Own m e sz a l c xs) : CellsAt m a xs := by
  obtain ⟨h1, h2⟩ := ho
  rcases h2 with ⟨rfl, rfl, rfl⟩ | ⟨b, cur, rfl, hb, hlc, hs, ht, hcm⟩
  · show xs = []
    exact List.eq_nil_of_length_eq_zero (by simpa using h1)
  · intro j u hu
    subst ht
    rw [List.getElem?_take] at hu
    split at hu
    · unfold Mem.cell; rw [hb]; simpa using hu
    · cases hu
theorem Own.live {m : Mem} {e : TypeId} {sz : Nat} {a : Option Addr} {l c : Nat} {xs : List Value} (ho : Own m e sz a l c xs) : ∀ b, blk a = some b → m b ≠ none := by
  intro b hb
  rcases ho.2 with ⟨rfl, _⟩ | ⟨b', cur, rfl, hb', _⟩
  · cases hb
  · simp only [blk, Option.some.injEq] at hb; subst hb; rw [hb']; simp
/-- Where a slice's address leads after an append: where it was, or to a new block; nothing else is new. -/
def Grew (m m' : Mem) (a a' : Option Addr) : Prop :=
  Chg (fun b => blk a = some b) m m' ∧ (blk a' = blk a ∨ ∀ b, blk a' = some b → m b = none)
theorem nextcap_le (n o : Nat) (h : o < n) : Builtin.nextslicecap n o ≤ 4 * n + 3000 := by
  unfold Builtin.nextslicecap
  split
  · omega
  · split
    · omega
    · have : ∀ (r c : Nat), c ≤ 4 * n + 3000 → Builtin.growBy n r c ≤ 4 * n + 3000 := by
        intro r
        induction r with
        | zero => intro c hc; exact hc
        | succ r ih =>
          intro c hc
          unfold Builtin.growBy
          split
          · exact hc
          · exact ih _ (by omega)
      exact this 4 o (by omega)
/-- 'append' onto a slice of one's own. -/
theorem append_own {P : Program} {t e : TypeId} {z : Value} {sz bytes : Nat} (hE : ElemOK P t e z sz bytes) {m : Mem} {ty : TypeId} {cs : Array Bool}
    {a : Option Addr} {l c : Nat} {xs : List Value} (ho : Own m e sz a l c xs) {a2 : Option Addr} {l2 c2 : Nat} {news : List Value} (hc : CellsAt m a2 news) (hl : news.length = l2 * sz)
    (hone : ∀ v ∈ news, notOne v = false) (hsz : 0 < sz) (hlen : l + l2 ≤ 1099511627776) (hby : (4 * (l + l2) + 3000) * bytes ≤ 281474976710656) {K : Value → Mem → Prop} {Pn : List PanicEntry → Mem → Prop}
    (h : ∀ a' c' m', Own m' e sz a' (l + l2) c' (xs ++ news) → Grew m m' a a' → K (.slice a' (l + l2) c') m') :
    BiN P .append #[t, t] ty cs #[.slice a l c, .slice a2 l2 c2] m K Pn := by
  obtain ⟨i, hi, hzi, rfl, rfl⟩ := hE.hi
  have hfirst : ∀ (n : Nat) (aa : Option Addr) (cc : Nat) (vs : List Value) (mm : Mem) (nn : Nat) (Q : Array Value → Mem → Prop) (E : Value → Mem → Prop), CellsAt mm aa vs → vs.length = nn * i.size → Q vs.toArray mm →
      pt P (Builtin.firstCells i.size nn (.slice aa n cc)) Q E mm := by
    intro n aa cc vs mm nn Q E hv hvl hQ
    rcases hv.cases with ⟨b, o, rfl, hx⟩ | ⟨rfl, _⟩
    · simp only [Builtin.firstCells, loadCells]
      rw [← hvl]
      exact pt_loadCells vs 0 #[] (by simpa using hx) (by simpa using hQ)
    · cases aa with
      | none => exact hQ
      | some aa =>
        simp only [Builtin.firstCells, loadCells]
        rw [← hvl]
        exact hQ
  unfold BiN
  show pt P (do pure (Next.value (← Builtin.append_ #[t, t] ty #[.slice a l c, .slice a2 l2 c2])) : Sem Next) _ _ m
  rw [pt_bind]
  unfold Builtin.append_
  simp only [List.getElem?_toArray, List.getElem?_cons_zero, List.getElem?_cons_succ]
  rw [pt_bind, pt_under hE.ht]
  simp only []
  rw [pt_bind, pt_sizeOf hi, pt_bind, pt_under hE.ht]
  simp only [pt_bind, pt_pure, Bool.false_eq_true, if_false, Builtin.lenOf]
  rw [pt_ite]
  by_cases hroom : l + l2 ≤ c
  · rw [if_pos hroom]
    simp only [Bool.not_false, if_true]
    rw [pt_bind]
    refine hfirst l2 a2 c2 news m l2 _ _ hc hl ?_
    rcases ho.2 with ⟨rfl, rfl, rfl⟩ | ⟨b, cur, rfl, hb, hlc, hs, ht, hcm⟩
    · have h0 : l2 = 0 := by omega
      subst h0
      have hn : news = [] := List.eq_nil_of_length_eq_zero (by simpa using hl)
      subst hn
      simp only [pt_pure]
      exact h none 0 m (by simpa using ho) ⟨Chg.refl _ _, .inl rfl⟩
    · simp only []
      rw [pt_bind]
      have hsz2 : 0 + l * i.size + 0 + news.length ≤ cur.size := by
        rw [hs, hl, Nat.zero_add, Nat.add_zero, ← Nat.add_mul]; exact Nat.mul_le_mul_right _ hroom
      rw [add_none]
      refine pt_storeCells news 0 m cur hb hone hsz2 ?_
      simp only [pt_pure]
      refine h _ c _ ⟨by rw [List.length_append, ho.1, hl, Nat.add_mul], .inr ⟨b, _, rfl, set_same _ _ _, hroom, by rw [putCells_size, hs], ?_, hcm⟩⟩ ⟨?_, .inl rfl⟩
      · apply List.ext_getElem?
        intro j
        have hxl := ho.1
        have hlt : l * i.size + l2 * i.size ≤ cur.size := by rw [hs, ← Nat.add_mul]; exact Nat.mul_le_mul_right _ hroom
        rw [List.getElem?_take, Array.getElem?_toList, putCells_get _ _ _ _ hsz2, Nat.add_mul, List.getElem?_append, hxl]
        simp only [Nat.zero_add, Nat.add_zero, hl]
        by_cases h1 : j < l * i.size
        · rw [if_pos (by omega), if_neg (by omega), if_pos h1, ← ht, List.getElem?_take, if_pos h1]; simp
        · by_cases h2 : j < l * i.size + l2 * i.size
          · rw [if_pos h2, if_pos (by omega), if_neg h1]
          · rw [if_neg h2, if_neg h1]
            symm
            rw [List.getElem?_eq_none (by omega)]
      · exact (Chg.set _ _ _).mono (fun k e => by subst e; rfl)
  · rw [if_neg hroom]
    have hc0 : c < l + l2 := by omega
    have hmax : ¬ (((l + l2 : Nat) : Int) > IntKind.i64.max ∧ (False ∨ i.bytes = 0)) := by
      rintro ⟨h1, _⟩
      have : IntKind.i64.max = 9223372036854775807 := rfl
      rw [this] at h1; omega
    have hnext : ¬ Builtin.nextslicecap (l + l2) c * i.bytes > 2 ^ 48 := by
      have h1 := Nat.mul_le_mul_right i.bytes (nextcap_le (l + l2) c hc0)
      have : (2 : Nat) ^ 48 = 281474976710656 := rfl
      omega
    rw [pt_bind, pt_typeInfo hi]
    rw [pt_ite, if_neg hmax]
    rw [pt_bind, pt_typeInfo hi]
    rw [pt_ite, if_neg hnext]
    rw [pt_bind]
    intro tp
    have hge : l + l2 ≤ (Question.appendCap (l + l2) c e).cut tp := by simp [Question.cut]
    have hlt63 : (Question.appendCap (l + l2) c e).cut tp ≤ 9223372036854775807 := by
      have h1 : tp % (2 ^ 63 - (l + l2)) < 2 ^ 63 - (l + l2) := Nat.mod_lt _ (by omega)
      simp only [Question.cut]
      omega
    generalize (Question.appendCap (l + l2) c e).cut tp = nc at hge hlt63 ⊢
    show pt P (Sem.pure nc) _ _ m
    simp only [pt]
    rw [pt_bind, pt_typeInfo hi, pt_bind]
    have hask : ∀ n (Q : Unit → Mem → Prop) E, Q () m → pt P (askRoom n) Q E m := by
      intro n Q E hQ; unfold askRoom; split <;> exact hQ
    refine hask _ _ _ ?_
    rw [pt_bind]
    refine hfirst l a c xs m l _ _ ho.cells ho.1 ?_
    simp only [Bool.not_false, if_true]
    rw [pt_bind]
    refine hfirst l2 a2 c2 news m l2 _ _ hc hl ?_
    rw [pt_bind, pt_zero hi hzi, pt_bind, pt_newRow]
    intro b hb
    simp only [pt_pure]
    have hzc : (Builtin.zeroCells z.cells (nc - (l + l2))).size = (nc - (l + l2)) * i.size := by simp [Builtin.zeroCells, hE.hz]
    refine h _ nc _ ⟨by rw [List.length_append, ho.1, hl, Nat.add_mul], .inr ⟨b, _, rfl, set_same _ _ _, hge, ?_, ?_, hlt63⟩⟩ ⟨(Le.set hb _).chg _, .inr fun b' hb' => ?_⟩
    · rw [Array.size_append, Array.size_append, hzc]
      simp only [List.size_toArray, ho.1, hl, ← Nat.add_mul]
      congr 1; omega
    · have hx : (xs ++ news).length = (l + l2) * i.size := by rw [List.length_append, ho.1, hl, Nat.add_mul]
      simp only [Array.toList_append]
      rw [← hx]
      exact List.take_left
    · simp only [blk, Option.some.injEq] at hb'; subst hb'; exact hb
structure MapIB (P : Program) (t : TypeId) : Prop where
  h : ∃ k e, P.underlying t = some (.map k e) ∧ P.underlying k = some (.int .i64) ∧ (P.info? e).bind (·.zero) = some (.bool false)
end Go.H
set_option linter.unusedVariables false
namespace Go.H
theorem wi {n : Int} (h1 : -9223372036854775808 ≤ n) (h2 : n ≤ 9223372036854775807) : IntKind.i64.wrap n = n := IntWalk.i64_in n ⟨h1, h2⟩
/-- A test, its answer told as a proposition. -/
theorem BrD {p : Prop} [Decidable p] {A B : Prop} (h : p → A) (k : ¬ p → B) : Br (decide p) A B := by
  by_cases hp : p
  · rw [decide_eq_true hp]; exact h hp
  · rw [decide_eq_false hp]; exact k hp
theorem BrDt {p : Prop} [Decidable p] {A B : Prop} (hp : p) (h : A) : Br (decide p) A B := by rw [decide_eq_true hp]; exact h
theorem BrDf {p : Prop} [Decidable p] {A B : Prop} (hp : ¬ p) (h : B) : Br (decide p) A B := by rw [decide_eq_false hp]; exact h
/-- '==' and '!=' of numbers. -/
theorem BrE {x y : Int} {A B : Prop} (h : x = y → A) (k : x ≠ y → B) : Br (x == y) A B := by
  by_cases hp : x = y
  · rw [beq_iff_eq.mpr hp]; exact h hp
  · rw [beq_eq_false_iff_ne.mpr hp]; exact k hp
theorem BrEt {x y : Int} {A B : Prop} (hp : x = y) (h : A) : Br (x == y) A B := by rw [beq_iff_eq.mpr hp]; exact h
theorem BrEf {x y : Int} {A B : Prop} (hp : x ≠ y) (h : B) : Br (x == y) A B := by rw [beq_eq_false_iff_ne.mpr hp]; exact h
theorem BrN {x y : Int} {A B : Prop} (h : x ≠ y → A) (k : x = y → B) : Br (x != y) A B := by
  by_cases hp : x = y
  · have : (x != y) = false := by simp [hp]
    rw [this]; exact k hp
  · have : (x != y) = true := by simp [hp]
    rw [this]; exact h hp
theorem cell_of {m : Mem} {b o : Nat} {c : Array Value} {e : TypeId} {x : Nat × Nat} {v : Value} (h : m b = some (.cells c e x)) (hv : c[o]? = some v) : m.cell b o = some v := by
  unfold Mem.cell; rw [h]; exact hv
theorem LdV.of {m : Mem} {b o : Nat} {c : Array Value} {e : TypeId} {x : Nat × Nat} {v : Value} {K : Value → Prop} (h : m b = some (.cells c e x)) (hv : c[o]? = some v) (k : K v) : LdV m b o K :=
  LdV.mk (cell_of h hv) k
theorem CellsAt.ld {m : Mem} {b o : Nat} {vs : List Value} (h : CellsAt m (some ⟨b, o, none⟩) vs) {j : Nat} {v : Value} (hv : vs[j]? = some v) : m.cell b (o + j) = some v := h j v hv
theorem St1.of {m : Mem} {b o : Nat} {c : Array Value} {e : TypeId} {v : Value} {K : Mem → Prop} (h : m b = some (.cells c e (0, 0))) (ho : o < c.size) (hv : notOne v = false)
    (k : K (m.set b (.cells (c.setIfInBounds o v) e (0, 0)))) : St1 m b o v K := by
  unfold St1; rw [h]; exact ⟨ho, hv, by simp, k⟩
theorem St1.to {m : Mem} {b o : Nat} {c : Array Value} {e : TypeId} {v : Value} (c' : Array Value) {K : Mem → Prop} (h : m b = some (.cells c e (0, 0))) (ho : o < c.size) (hv : notOne v = false)
    (hc : c.setIfInBounds o v = c') (k : K (m.set b (.cells c' e (0, 0)))) : St1 m b o v K := St1.of h ho hv (hc ▸ k)
def ints (xs : List Int) : List Value := xs.map fun x => Value.int .i64 x
theorem ints_len (xs : List Int) : (ints xs).length = xs.length := by simp [ints]
theorem u8s_len (xs : List UInt8) : (u8s xs).length = xs.length := by simp [u8s]
theorem ints_get {xs : List Int} {i : Nat} (h : i < xs.length) : (ints xs)[i]? = some (.int .i64 xs[i]) := by simp [ints, h]
theorem u8s_get {xs : List UInt8} {i : Nat} (h : i < xs.length) : (u8s xs)[i]? = some (.int .u8 xs[i].toNat) := by simp [u8s, h]
/-- A block of one's own is apart from what is old. -/
def Fresh (m : Mem) (a : Option Addr) : Prop := ∀ b, blk a = some b → m b = none
theorem Fresh.none (m : Mem) : Fresh m none := fun _ h => by cases h
theorem Fresh.le {m m' : Mem} (h : Le m m') {a : Option Addr} (k : Fresh m' a) : Fresh m a := fun b hb => by
  have := k b hb
  cases hm : m b with
  | none => rfl
  | some o => rw [h b o hm] at this; cases this
/-- 'append' onto an own row: told as what is new. -/
theorem grown_le {m m1 m' : Mem} {a a' : Option Addr} (h1 : Le m m1) (h0 : Fresh m a) (hg : Grew m1 m' a a') : Le m m' ∧ Fresh m a' := by
  refine ⟨fun k o hk => hg.1.eq k o (h1 k o hk) (fun e => ?_), fun b hb => ?_⟩
  · rw [h0 k e] at hk; cases hk
  · rcases hg.2 with e | e
    · exact h0 b (by rw [← e]; exact hb)
    · exact Fresh.le h1 e b hb
/-- A part of a slice's cells. -/
theorem CellsAt.part {m : Mem} {a : Option Addr} {vs : List Value} (h : CellsAt m a vs) (lo : Nat) {ws : List Value} (hw : ∀ j u, ws[j]? = some u → vs[lo + j]? = some u) (hn : vs = [] → ws = []) {c sz : Nat} (hs : sz = 1) (hz : c = lo → ws = []) : CellsAt m (shf a lo sz c) ws := by
  subst hs
  unfold shf
  split
  · rename_i hc
    rw [hz hc]
    exact CellsAt.empty _ _
  · rcases h.cases with ⟨b, o, rfl, hx⟩ | ⟨rfl, _⟩
    · simp only [Option.map_some, add_none]
      intro j u hu
      have := hx (lo + j) u (hw j u hu)
      rw [Nat.mul_one, Nat.add_assoc]; exact this
    · rw [hn rfl]
      exact CellsAt.empty _ _
theorem IxS.ld {m : Mem} {a : Option Addr} {len : Nat} {vs : List Value} (hc : CellsAt m a vs) (hl : vs.length = len) {i : Int} (h0 : 0 ≤ i) (h1 : i < len) {K : Value → Prop}
    (k : ∀ v, vs[i.toNat]? = some v → K v) : IxS a len i 1 (fun b o => LdV m b o K) := by
  refine ⟨h0, h1, ?_⟩
  have hlt : i.toNat < vs.length := by omega
  rcases hc.cases with ⟨b, o, rfl, hx⟩ | ⟨rfl, _⟩
  · have := hx i.toNat _ (List.getElem?_eq_getElem hlt)
    simp only [Nat.mul_one]
    exact LdV.mk this (k _ (List.getElem?_eq_getElem hlt))
  · simp at hl; omega
theorem IxS.ints {m : Mem} {a : Option Addr} {len : Nat} {xs : List Int} (hc : CellsAt m a (ints xs)) (hl : xs.length = len) {i : Int} (h0 : 0 ≤ i) (h1 : i < len) {K : Value → Prop}
    (k : ∀ x, xs[i.toNat]? = some x → K (.int .i64 x)) : IxS a len i 1 (fun b o => LdV m b o K) := by
  refine IxS.ld hc (by rw [ints_len]; exact hl) h0 h1 ?_
  intro v hv
  have hlt : i.toNat < xs.length := by omega
  rw [ints_get hlt] at hv
  cases hv
  exact k _ (List.getElem?_eq_getElem hlt)
theorem IxS.u8s {m : Mem} {a : Option Addr} {len : Nat} {xs : List UInt8} (hc : CellsAt m a (u8s xs)) (hl : xs.length = len) {i : Int} (h0 : 0 ≤ i) (h1 : i < len) {K : Value → Prop}
    (k : ∀ x, xs[i.toNat]? = some x → K (.int .u8 x.toNat)) : IxS a len i 1 (fun b o => LdV m b o K) := by
  refine IxS.ld hc (by rw [u8s_len]; exact hl) h0 h1 ?_
  intro v hv
  have hlt : i.toNat < xs.length := by omega
  rw [u8s_get hlt] at hv
  cases hv
  exact k _ (List.getElem?_eq_getElem hlt)
theorem CellsAt.left {m : Mem} {a : Option Addr} {xs ys : List Value} (h : CellsAt m a (xs ++ ys)) : CellsAt m a xs := by
  rcases h.cases with ⟨b, o, rfl, hx⟩ | ⟨hx, _⟩
  · intro j u hu
    refine hx j u ?_
    rw [List.getElem?_append_left]
    · exact hu
    · by_cases hlt : j < xs.length
      · exact hlt
      · rw [List.getElem?_eq_none (by omega)] at hu; cases hu
  · rw [List.append_eq_nil_iff] at hx
    rw [hx.1]
    exact CellsAt.empty _ _
/-- The given world's cells, as the frame tells them. -/
theorem CellsAt.given {w : World} {a : Addr} {vs : List Value} (h : ∀ j u, vs[j]? = some u → w.cell? (a.add j) = some u) : CellsAt (fun b => w.heap[b]?) (some a) vs := by
  obtain ⟨b, o, sp⟩ := a
  cases vs with
  | nil => exact CellsAt.empty _ _
  | cons v vs =>
    have h0 := h 0 v rfl
    cases sp with
    | some s =>
      have : w.cell? (Addr.add ⟨b, o, some s⟩ 0) = none := by
        simp only [Addr.add, if_true, World.cell?]
        split <;> simp
      rw [this] at h0; cases h0
    | none =>
      intro j u hu
      have := h j u hu
      rw [add_none] at this
      unfold Mem.cell
      unfold World.cell? at this
      split at this
      · rename_i c e x hb
        simp only [hb]
        simpa using this
      · cases this
theorem IxS.st {m : Mem} {b : Nat} {cur : Array Value} {e : TypeId} (h : m b = some (.cells cur e (0, 0))) {len : Nat} {i : Int} (h0 : 0 ≤ i) (h1 : i < len) (hl : len ≤ cur.size) {v : Value} (hv : notOne v = false) {K : Mem → Prop}
    (k : K (m.set b (.cells (cur.setIfInBounds i.toNat v) e (0, 0)))) : IxS (some ⟨b, 0, none⟩) len i 1 (fun b o => St1 m b o v K) := by
  refine ⟨h0, h1, ?_⟩
  show St1 m b (0 + i.toNat * 1) v K
  rw [Nat.zero_add, Nat.mul_one]
  exact St1.of h (by omega) hv k
theorem Chg.to_le {F : Nat → Prop} {m m1 m2 : Mem} (h : Chg F m1 m2) (hle : Le m m1) (hF : ∀ b, F b → m b = none) : Le m m2 := fun b o hb =>
  h.eq b o (hle b o hb) (fun hx => by rw [hF b hx] at hb; cases hb)
theorem Le.new {m m' : Mem} (h : Le m m') {b : Nat} (hb : m' b = none) : m b = none := (h.chg fun _ => False).new hb
theorem cells_at {m : Mem} {b : Nat} {c : Array Value} {e : TypeId} {x : Nat × Nat} (h : m b = some (.cells c e x)) {vs : List Value} (hv : c.toList = vs) : CellsAt m (some ⟨b, 0, none⟩) vs := by
  intro j u hu
  rw [Nat.zero_add]
  refine cell_of h ?_
  rw [← hv] at hu
  simpa using hu
/-- A memory without some blocks. -/
noncomputable def Mem.wo (m : Mem) (F : Nat → Prop) : Mem := fun b => open Classical in if F b then none else m b
theorem wo_le (m : Mem) (F : Nat → Prop) : Le (m.wo F) m := fun b o h => by
  unfold Mem.wo at h
  split at h
  · cases h
  · exact h
theorem wo_in {m : Mem} {F : Nat → Prop} {b : Nat} (h : ¬ F b) : m.wo F b = m b := by
  unfold Mem.wo; rw [if_neg h]
theorem wo_out {m : Mem} {F : Nat → Prop} {b : Nat} (h : F b) : m.wo F b = none := by
  unfold Mem.wo; rw [if_pos h]
theorem le_wo {m m' : Mem} {F : Nat → Prop} (h : Le m m') (hF : ∀ b, F b → m b = none) : Le m (m'.wo F) := fun b o hb => by
  rw [wo_in (fun hx => by rw [hF b hx] at hb; cases hb)]; exact h b o hb
theorem CellsAt.wo {m : Mem} {F : Nat → Prop} {a : Option Addr} {vs : List Value} (h : CellsAt m a vs) (hn : ∀ b, blk a = some b → ¬ F b) : CellsAt (m.wo F) a vs := by
  rcases h.cases with ⟨b, o, rfl, hx⟩ | ⟨rfl, _⟩
  · intro j u hu
    have := hx j u hu
    unfold Mem.cell at *
    rw [wo_in (hn b rfl)]; exact this
  · exact CellsAt.empty _ _
/-- Writing one element of an own row. -/
theorem Own.st {m : Mem} {e : TypeId} {a : Option Addr} {l c : Nat} {xs : List Value} (h : Own m e 1 a l c xs) {i : Int} (h0 : 0 ≤ i) (h1 : i < l) {v : Value} (hv : notOne v = false) {K : Mem → Prop}
    (k : ∀ m', Chg (fun b => blk a = some b) m m' → Own m' e 1 a l c (xs.set i.toNat v) → K m') : IxS a l i 1 (fun b o => St1 m b o v K) := by
  obtain ⟨hl, hx⟩ := h
  rcases hx with ⟨rfl, rfl, rfl⟩ | ⟨b, cur, rfl, hb, hlc, hs, ht, hcm⟩
  · omega
  · refine IxS.st hb h0 h1 (by omega) hv ?_
    refine k _ ((Chg.set _ _ _).mono (fun k e => by subst e; rfl)) ⟨by simpa using hl, .inr ⟨b, _, rfl, set_same _ _ _, hlc, by simp [hs], ?_, hcm⟩⟩
    rw [Array.toList_setIfInBounds, List.take_set, ht]
/-- 'append(xs, i)' onto an own row of numbers. -/
theorem push_one {P : Program} {t e : TypeId} {z : Value} {bytes : Nat} (hE : ElemOK P t e z 1 bytes) {m : Mem} {ty : TypeId} {cs : Array Bool} {a : Option Addr} {l c : Nat} {xs : List Value} (ho : Own m e 1 a l c xs) {v : Value} (hv : notOne v = false)
    (hlen : l ≤ 1000000000) (hby : bytes ≤ 64) {K : Value → Mem → Prop} {Pn : List PanicEntry → Mem → Prop}
    (h : ∀ a' c' m', Chg (fun b => blk a = some b) m m' → Own m' e 1 a' (l + 1) c' (xs ++ [v]) → (blk a' = blk a ∨ Fresh m a') → K (.slice a' (l + 1) c') m') :
    ∀ b, m b = none → BiN P .append #[t, t] ty cs #[.slice a l c, .slice (some ⟨b, 0, none⟩) 1 1] (m.set b (.cells #[v] e (0, 0))) K Pn := by
  intro b hb
  refine append_own hE (Own.le (Le.set hb _) ho) (news := [v]) (cells_at (set_same _ _ _) rfl) rfl (by intro u hu; simp at hu; subst hu; exact hv) (by decide) (by omega) ?_ ?_
  · exact Nat.le_trans (Nat.mul_le_mul_left (4 * (l + 1) + 3000) hby) (by omega)
  intro a' c' m' ho' hg
  refine h a' c' m' (((Le.set hb _).chg _).trans hg.1 (fun _ _ e => e)) ho' ?_
  rcases hg.2 with e | e
  · exact .inl e
  · exact .inr (Fresh.le (Le.set hb _) e)
/-- 'append(xs, x)' onto an own row, elements of several cells. -/
theorem push_row {P : Program} {t e : TypeId} {z : Value} {sz bytes : Nat} (hE : ElemOK P t e z sz bytes) (hsz : 0 < sz) {m : Mem} {ty : TypeId} {cs : Array Bool} {a : Option Addr} {l c : Nat} {xs : List Value} (ho : Own m e sz a l c xs) {news : Array Value} (hn : news.size = sz)
    (hv : ∀ v ∈ news.toList, notOne v = false) (hlen : l ≤ 1000000000) (hby : bytes ≤ 640) {K : Value → Mem → Prop} {Pn : List PanicEntry → Mem → Prop}
    (h : ∀ a' c' m', Chg (fun b => blk a = some b) m m' → Own m' e sz a' (l + 1) c' (xs ++ news.toList) → (blk a' = blk a ∨ Fresh m a') → K (.slice a' (l + 1) c') m') :
    ∀ b, m b = none → BiN P .append #[t, t] ty cs #[.slice a l c, .slice (some ⟨b, 0, none⟩) 1 1] (m.set b (.cells news e (0, 0))) K Pn := by
  intro b hb
  refine append_own hE (Own.le (Le.set hb _) ho) (news := news.toList) (cells_at (set_same _ _ _) rfl) (by simpa using hn) hv hsz (by omega) ?_ ?_
  · exact Nat.le_trans (Nat.mul_le_mul_left (4 * (l + 1) + 3000) hby) (by omega)
  intro a' c' m' ho' hg
  refine h a' c' m' (((Le.set hb _).chg _).trans hg.1 (fun _ _ e => e)) ho' ?_
  rcases hg.2 with e | e
  · exact .inl e
  · exact .inr (Fresh.le (Le.set hb _) e)
/-- Writing one cell of an element of an own row. -/
theorem Own.stN {m : Mem} {e : TypeId} {sz : Nat} {a : Option Addr} {l c : Nat} {xs : List Value} (h : Own m e sz a l c xs) {i : Int} (h0 : 0 ≤ i) (h1 : i < l) {j : Nat} (hj : j < sz) {v : Value} (hv : notOne v = false) {K : Mem → Prop}
    (k : ∀ m', Chg (fun b => blk a = some b) m m' → Own m' e sz a l c (xs.set (i.toNat * sz + j) v) → K m') : IxS a l i sz (fun b o => St1 m b (o + j) v K) := by
  obtain ⟨hl, hx⟩ := h
  rcases hx with ⟨rfl, rfl, rfl⟩ | ⟨b, cur, rfl, hb, hlc, hs, ht, hcm⟩
  · omega
  · refine ⟨h0, h1, ?_⟩
    have hin : i.toNat * sz + j < cur.size := by
      rw [hs]
      have : (i.toNat + 1) * sz ≤ c * sz := Nat.mul_le_mul_right _ (by omega)
      rw [Nat.add_mul, Nat.one_mul] at this
      omega
    show St1 m b (0 + i.toNat * sz + j) v K
    rw [Nat.zero_add]
    refine St1.of hb hin hv ?_
    refine k _ ((Chg.set _ _ _).mono (fun k e => by subst e; rfl)) ⟨by simpa using hl, .inr ⟨b, _, rfl, set_same _ _ _, hlc, by simp [hs], ?_, hcm⟩⟩
    rw [Array.toList_setIfInBounds, List.take_set, ht]
theorem ElemOK.of {P : Program} {t e : TypeId} {z : Value} {sz bytes : Nat} (h0 : P.underlying t = some (.slice e)) (h : (P.info? e).map (fun i => (i.zero, i.size, i.bytes)) = some (some z, sz, bytes)) (hz : z.cells.size = sz) : ElemOK P t e z sz bytes := by
  cases hi : P.info? e with
  | none => rw [hi] at h; cases h
  | some i =>
    rw [hi] at h
    simp only [Option.map_some, Option.some.injEq, Prod.mk.injEq] at h
    exact ⟨h0, ⟨i, hi, h.1, h.2.1, h.2.2⟩, hz⟩
theorem MapIB.of {P : Program} {t : TypeId} (h : (match P.underlying t with | some (.map k e) => (P.underlying k, (P.info? e).bind (·.zero)) | _ => (none, none)) = (some (.int .i64), some (.bool false))) : MapIB P t := by
  split at h
  · rename_i k e hm
    simp only [Prod.mk.injEq] at h
    exact ⟨k, e, hm, h.1, h.2⟩
  · cases h
/-- A part of a row of elements. -/
theorem CellsAt.sub {m : Mem} {a : Option Addr} {vs : List Value} {sz lo hi c : Nat} (h : CellsAt m a vs) (hh : hi * sz ≤ vs.length) (hc : hi ≤ c) : CellsAt m (shf a lo sz c) ((vs.take (hi * sz)).drop (lo * sz)) := by
  unfold shf
  split
  · rename_i e
    have hlt : hi * sz ≤ lo * sz := Nat.mul_le_mul_right _ (by omega)
    rw [List.drop_of_length_le (by rw [List.length_take]; omega)]
    exact CellsAt.empty _ _
  · rcases h.cases with ⟨b, o, rfl, hx⟩ | ⟨rfl, _⟩
    · simp only [Option.map_some, add_none]
      intro j u hu
      rw [List.getElem?_drop, List.getElem?_take] at hu
      split at hu
      · have := hx _ u hu
        rw [Nat.add_assoc]; exact this
      · cases hu
    · simp only [List.take_nil, List.drop_nil]; exact CellsAt.empty _ _
theorem Own.cap {m : Mem} {e : TypeId} {sz : Nat} {a : Option Addr} {l c : Nat} {xs : List Value} (h : Own m e sz a l c xs) : l ≤ c := by
  obtain ⟨_, hx⟩ := h
  rcases hx with ⟨_, q, r⟩ | ⟨_, _, _, _, q, _⟩ <;> omega
/-- Both cells of a block are written. -/
theorem St1.two {m : Mem} {b : Nat} {x y u v : Value} {e : TypeId} {K : Mem → Prop} (h : m b = some (.cells #[x, y] e (0, 0))) (hu : notOne u = false) (hv : notOne v = false)
    (k : K (m.set b (.cells #[u, v] e (0, 0)))) : St1 m b 0 u fun m' => St1 m' b (0 + 1) v K := by
  refine St1.to #[u, y] (o := 0) h (by simp) hu rfl ?_
  refine St1.to #[u, v] (o := 0 + 1) (set_same _ _ _) (by simp) hv rfl ?_
  rw [set_set]; exact k
/-- Cells of a literal block. -/
theorem LdV.s0 {m : Mem} {b : Nat} {x : Value} {r : List Value} {e : TypeId} {fr : Nat × Nat} {K : Value → Prop} (h : m b = some (.cells (x :: r).toArray e fr)) (k : K x) : LdV m b 0 K := LdV.of h rfl k
theorem LdV.s1 {m : Mem} {b : Nat} {x0 x : Value} {r : List Value} {e : TypeId} {fr : Nat × Nat} {K : Value → Prop} (h : m b = some (.cells (x0 :: x :: r).toArray e fr)) (k : K x) : LdV m b 1 K := LdV.of h rfl k
theorem LdV.s2 {m : Mem} {b : Nat} {x0 x1 x : Value} {r : List Value} {e : TypeId} {fr : Nat × Nat} {K : Value → Prop} (h : m b = some (.cells (x0 :: x1 :: x :: r).toArray e fr)) (k : K x) : LdV m b 2 K := LdV.of h rfl k
theorem LdV.s3 {m : Mem} {b : Nat} {x0 x1 x2 x : Value} {r : List Value} {e : TypeId} {fr : Nat × Nat} {K : Value → Prop} (h : m b = some (.cells (x0 :: x1 :: x2 :: x :: r).toArray e fr)) (k : K x) : LdV m b 3 K := LdV.of h rfl k
theorem LdV.s4 {m : Mem} {b : Nat} {x0 x1 x2 x3 x : Value} {r : List Value} {e : TypeId} {fr : Nat × Nat} {K : Value → Prop} (h : m b = some (.cells (x0 :: x1 :: x2 :: x3 :: x :: r).toArray e fr)) (k : K x) : LdV m b 4 K := LdV.of h rfl k
theorem LdV.s5 {m : Mem} {b : Nat} {x0 x1 x2 x3 x4 x : Value} {r : List Value} {e : TypeId} {fr : Nat × Nat} {K : Value → Prop} (h : m b = some (.cells (x0 :: x1 :: x2 :: x3 :: x4 :: x :: r).toArray e fr)) (k : K x) : LdV m b 5 K := LdV.of h rfl k
theorem UnS.mk {a : Option Addr} {l c : Nat} {K : Option Addr → Nat → Nat → Prop} (h : K a l c) : UnS (.slice a l c) K := h
theorem UnB.mk {b : Bool} {K : Bool → Prop} (h : K b) : UnB (.bool b) K := h
theorem UnP.mk {a : Option Addr} {K : Option Addr → Prop} (h : K a) : UnP (.pointer a) K := h
theorem UnStr.mk {a : ByteArray} {K : ByteArray → Prop} (h : K a) : UnStr (.string a) K := h
theorem UnTup.mk {l : List Value} {K : List Value → Prop} (h : K l) : UnTup (.tuple l.toArray) K := h
theorem UnAgg.mk {l : List Value} {K : List Value → Prop} (h : K l) : UnAgg (.agg l.toArray) K := h
theorem UnCons.mk {x : Value} {l : List Value} {K : Value → List Value → Prop} (h : K x l) : UnCons (x :: l) K := h
theorem UnNil.mk {K : Prop} (h : K) : UnNil [] K := h
end Go.H
set_option linter.unusedVariables false
namespace Go.H
open Go.RowKit
theorem HC.calls {P : Program} {f : FuncId} {fn : Func} {args : Array Value} {w : World} {v : Value} (hf : P.funcs[f]? = some fn) (hb : fn.body.isNone = false) (hn : (fn.name == "runtime.NumGoroutine") = false) (h : HC P f args (fun b => w.heap[b]?) (fun e m' => e = .returned v ∧ Le (fun b => w.heap[b]?) m')) :
    Calls P f args w fun e w' => e = .returned v ∧ Below w.heap.size w w' := by
  have hen := callFunc_enters (P := P) hf hn hb args w
  rcases h with h | h
  rotate_left
  · have := pt_sound P _ _ w (fun b o hb => hb) h
    rw [hen] at this
    exact (this.elim fun m' hx => hx.1).elim
  refine (h.2 w (fun b o hb => hb)).mono ?_
  rintro e w' ⟨m', _, ⟨rfl, hle⟩, hF, hfr⟩
  refine ⟨rfl, hfr.os, hfr.tape, hfr.output, hfr.size, fun k hk => ?_⟩
  have h1 : w.heap[k]? = some w.heap[k] := Array.getElem?_eq_getElem hk
  rw [h1]
  exact hF k _ (hle k _ h1)
theorem wf_u8 {n : Int} (h : (Lit.int .u8 n).wf = true) : 0 ≤ n ∧ n < 256 := by
  have e1 : IntKind.u8.min = 0 := rfl
  have e2 : IntKind.u8.max = 255 := rfl
  simp only [Lit.wf, e1, e2, Bool.and_eq_true, decide_eq_true_eq] at h
  omega
end Go.H
set_option linter.unusedVariables false
set_option linter.unusedSimpArgs false
namespace Go.H
theorem first_cells {P : Program} {m : Mem} (sz n : Nat) (aa : Option Addr) (cc nn : Nat) (vs : List Value) (Q : Array Value → Mem → Prop) (E : Value → Mem → Prop) (hv : CellsAt m aa vs) (hvl : vs.length = nn * sz) (hQ : Q vs.toArray m) :
    pt P (Builtin.firstCells sz nn (.slice aa n cc)) Q E m := by
  rcases hv.cases with ⟨b, o, rfl, hx⟩ | ⟨rfl, _⟩
  · simp only [Builtin.firstCells, loadCells]
    rw [← hvl]
    exact pt_loadCells vs 0 #[] (by simpa using hx) (by simpa using hQ)
  · cases aa with
    | none => exact hQ
    | some aa =>
      simp only [Builtin.firstCells, loadCells]
      rw [← hvl]
      exact hQ
theorem zeroCells_one (z : Array Value) (n : Nat) : (Builtin.zeroCells z n).size = n * z.size := by simp [Builtin.zeroCells]
/-- 'append(s, make([]T, n)...)' where there is no room. -/
theorem append_zeros {P : Program} {t e t2 : TypeId} {z : Value} {sz bytes : Nat} (hE : ElemOK P t e z sz bytes) (ht2 : P.underlying t2 = some (.int .i64)) {m : Mem} {ty : TypeId} {cs : Array Bool}
    {a : Option Addr} {l c : Nat} {xs : List Value} (ho : CellsAt m a xs) (hxl : xs.length = l * sz) {n : Int} (h0 : 0 < n) (h1 : n ≤ 1000000) (hl1 : l ≤ 1000000) (hsz : 0 < sz) (hby : bytes ≤ 1000) (hroom : ¬ l + n.toNat ≤ c) {K : Value → Mem → Prop} {Pn : List PanicEntry → Mem → Prop}
    (h : ∀ b c' cur, m b = none → l + n.toNat ≤ c' → c' ≤ 9223372036854775807 → cur.size = c' * sz → cur.toList.take (l * sz) = xs → K (.slice (some ⟨b, 0, none⟩) (l + n.toNat) c') (m.set b (.cells cur e (0, 0)))) :
    BiN P .append #[t, t2] ty cs #[.slice a l c, .int .i64 n] m K Pn := by
  obtain ⟨i, hi, hzi, rfl, rfl⟩ := hE.hi
  unfold BiN
  show pt P (do pure (Next.value (← Builtin.append_ #[t, t2] ty #[.slice a l c, .int .i64 n])) : Sem Next) _ _ m
  rw [pt_bind]
  unfold Builtin.append_
  simp only [List.getElem?_toArray, List.getElem?_cons_zero, List.getElem?_cons_succ]
  rw [pt_bind, pt_under hE.ht]
  simp only []
  rw [pt_bind, pt_sizeOf hi, pt_bind, pt_under ht2]
  simp only [pt_bind, pt_pure, if_true]
  have hw : IntKind.i64.wrap n = n := by rw [IntKind.wrap_i64]; omega
  have hasInt : ∀ (Q : Int → Mem → Prop) E, Q n m → pt P (asInt (.int .i64 n)) Q E m := by
    intro Q E hQ
    simpa [asInt, asIntOf, pt_bind, pt_pure] using hQ
  refine hasInt _ _ ?_
  have hp : (2 : Int) ^ 48 = 281474976710656 := rfl
  have hmul : n * (i.bytes : Int) ≤ 1000000 * 1000 := Int.mul_le_mul h1 (by omega) (by omega) (by omega)
  rw [hw]
  simp only [pt_ite, pt_bind, pt_typeInfo hi, pt_pure]
  rw [if_neg (by omega), if_neg (by rw [hp]; omega)]
  have hn0 : n.toNat * i.size ≠ 0 := by
    have : 0 < n.toNat * i.size := Nat.mul_pos (by omega) hsz
    omega
  have hmax : ¬ (((l + n.toNat : Nat) : Int) > IntKind.i64.max ∧ (True ∨ i.bytes = 0)) := by
    rintro ⟨h1, _⟩
    have : IntKind.i64.max = 9223372036854775807 := rfl
    rw [this] at h1; omega
  have hnext : ¬ Builtin.nextslicecap (l + n.toNat) c * i.bytes > 2 ^ 48 := by
    have h1 := Nat.mul_le_mul (nextcap_le (l + n.toNat) c (by omega)) hby
    have : (2 : Nat) ^ 48 = 281474976710656 := rfl
    omega
  rw [if_neg hroom, if_neg hmax, if_neg hnext]
  intro tp
  have hge : l + n.toNat ≤ (Question.appendCap (l + n.toNat) c e).cut tp := by simp [Question.cut]
  have hlt63 : (Question.appendCap (l + n.toNat) c e).cut tp ≤ 9223372036854775807 := by
    have h1 : tp % (2 ^ 63 - (l + n.toNat)) < 2 ^ 63 - (l + n.toNat) := Nat.mod_lt _ (by omega)
    simp only [Question.cut]
    omega
  generalize (Question.appendCap (l + n.toNat) c e).cut tp = nc at hge hlt63 ⊢
  rw [show ∀ (Q : Nat → Mem → Prop) E, pt P (Sem.pure nc) Q E m = Q nc m from fun _ _ => rfl]
  have hask : ∀ n (Q : Unit → Mem → Prop) E, Q () m → pt P (askRoom n) Q E m := by
    intro n Q E hQ; unfold askRoom; split <;> exact hQ
  refine hask _ _ _ ?_
  refine first_cells _ l a c l xs _ _ ho hxl ?_
  simp only [Bool.not_true, Bool.false_eq_true, if_false]
  rw [if_neg hn0, pt_zero hi hzi, pt_zero hi hzi, pt_newRow]
  intro b hb
  refine h b nc _ hb hge hlt63 ?_ ?_
  · simp only [Array.size_append, zeroCells_one, hE.hz]
    simp only [List.size_toArray, hxl, ← Nat.add_mul]
    congr 1; omega
  · simp only [Array.toList_append]
    rw [← hxl, List.append_assoc]
    exact List.take_left' rfl
theorem CallV.of {P : Program} {g : FuncId} {first cap args : Array Value} {m : Mem} {R : Ending → Mem → Prop} (h : HC P g (first ++ args ++ cap) m R) : CallV P (.func (.func g) first cap) args m R := h
theorem rows_get {α : Type} {f : α → List Value} {sz : Nat} (hf : ∀ x, (f x).length = sz) : ∀ {rows : List α} {i : Nat} {x : α}, rows[i]? = some x → ∀ j u, (f x)[j]? = some u → (rows.flatMap f)[i * sz + j]? = some u
  | [], i, x, h, _, _, _ => by simp at h
  | y :: r, 0, x, h, j, u, hu => by
    simp at h; subst h
    rw [List.flatMap_cons, Nat.zero_mul, Nat.zero_add, List.getElem?_append_left]
    · exact hu
    · rcases Nat.lt_or_ge j (f y).length with h | h
      · exact h
      · rw [List.getElem?_eq_none h] at hu; cases hu
  | y :: r, i + 1, x, h, j, u, hu => by
    have ih := rows_get hf (rows := r) (i := i) (x := x) (by simpa using h) j u hu
    have e : (i + 1) * sz + j - (f y).length = i * sz + j := by rw [hf, Nat.add_mul, Nat.one_mul]; omega
    rw [List.flatMap_cons, List.getElem?_append_right (by rw [hf, Nat.add_mul, Nat.one_mul]; omega), e]
    exact ih
theorem rows_len {α : Type} {f : α → List Value} {sz : Nat} (hf : ∀ x, (f x).length = sz) : ∀ (rows : List α), (rows.flatMap f).length = rows.length * sz
  | [] => by simp
  | y :: r => by rw [List.flatMap_cons, List.length_append, hf, rows_len hf r, List.length_cons, Nat.add_mul, Nat.one_mul]; omega
theorem IxS.rows {α : Type} {f : α → List Value} {sz : Nat} (hf : ∀ x, (f x).length = sz) (hsz : 0 < sz) {m : Mem} {a : Option Addr} {len : Nat} {rows : List α} (hc : CellsAt m a (rows.flatMap f)) (hl : rows.length = len) {i : Int} (h0 : 0 ≤ i) (h1 : i < len) {K : Nat → Nat → Prop}
    (k : ∀ b o x, rows[i.toNat]? = some x → (∀ j u, (f x)[j]? = some u → m.cell b (o + j) = some u) → K b o) : IxS a len i sz K := by
  refine ⟨h0, h1, ?_⟩
  have hlt : i.toNat < rows.length := by omega
  have hg := List.getElem?_eq_getElem hlt
  rcases hc.cases with ⟨b, o, rfl, hx⟩ | ⟨hx, _⟩
  · refine k b (o + i.toNat * sz) _ hg ?_
    intro j u hu
    have := hx _ u (rows_get hf hg j u hu)
    rw [Nat.add_assoc]; exact this
  · have := rows_len hf rows
    rw [hx] at this
    simp only [List.length_nil] at this
    have : 0 < rows.length * sz := Nat.mul_pos (by omega) hsz
    omega
theorem St1.three {m : Mem} {b : Nat} {x0 x1 x2 u0 u1 u2 : Value} {e : TypeId} {K : Mem → Prop} (h : m b = some (.cells #[x0, x1, x2] e (0, 0))) (h0 : notOne u0 = false) (h1 : notOne u1 = false) (h2 : notOne u2 = false)
    (k : K (m.set b (.cells #[u0, u1, u2] e (0, 0)))) : St1 m b 0 u0 fun m' => St1 m' b 1 u1 fun m' => St1 m' b 2 u2 K := by
  refine St1.to #[u0, x1, x2] (o := 0) h (by simp) h0 rfl ?_
  refine St1.to #[u0, u1, x2] (o := 1) (set_same _ _ _) (by simp) h1 rfl ?_
  rw [set_set]
  refine St1.to #[u0, u1, u2] (o := 2) (set_same _ _ _) (by simp) h2 rfl ?_
  rw [set_set]
  exact k
/-- The first elements of an own row. -/
theorem Own.take {m : Mem} {e : TypeId} {sz : Nat} {a : Option Addr} {l c : Nat} {xs : List Value} (h : Own m e sz a l c xs) {n : Nat} (hn : n ≤ l) : Own m e sz a n c (xs.take (n * sz)) := by
  obtain ⟨hl, hx⟩ := h
  have hns : n * sz ≤ l * sz := Nat.mul_le_mul_right _ hn
  refine ⟨by rw [List.length_take, hl]; omega, ?_⟩
  rcases hx with ⟨rfl, rfl, rfl⟩ | ⟨b, cur, rfl, hb, hlc, hs, ht, hcm⟩
  · exact .inl ⟨rfl, by omega, rfl⟩
  · refine .inr ⟨b, cur, rfl, hb, by omega, hs, ?_, hcm⟩
    rw [← ht, List.take_take]
    congr 1; omega
end Go.H
set_option linter.unusedVariables false
namespace Go.H
open Go.WideShapes
/-- An argument of type t, as the statement's frame tells it. -/
def Arg (P : Program) (W : World) (t : TypeId) (v : Value) : Prop :=
  ∃ (base : Nat) (H : Type) (enc : TypeId × Value → H) (d : DataW H) (p : List MemPlace), Value.okWide P W .any base t v ∧ DataW.Trod enc P W 0 (fun _ => true) true t v d p
/-- These cells can be read at type t. -/
def Rd (P : Program) (W : World) (t : TypeId) (cs : List Value) : Prop :=
  ∃ (H : Type) (enc : TypeId × Value → H) (fuel : Nat) (x : DataW H × List MemPlace), DataW.trod enc P W 0 (fun _ => true) true fuel t cs = some x
abbrev heapM (W : World) : Mem := fun b => W.heap[b]?
section
variable {P : Program} {W : World} {t : TypeId} {v : Value} {cs : List Value}
theorem Arg.rd (h : Arg P W t v) : Rd P W t v.cells.toList := by
  obtain ⟨base, H, enc, d, p, _, n, hn⟩ := h; exact ⟨H, enc, n, _, hn⟩
theorem Rd.bool (ht : P.underlying t = some .bool) (h : Rd P W t cs) : ∃ b, cs = [.bool b] := by
  obtain ⟨H, enc, n, x, h⟩ := h
  obtain ⟨b, h1, _⟩ := DataW.trod_bool ht h; exact ⟨b, h1⟩
theorem Rd.int {k : IntKind} (ht : P.underlying t = some (.int k)) (h : Rd P W t cs) : ∃ n, cs = [.int k n] ∧ (Lit.int k n).wf = true := by
  obtain ⟨H, enc, n, x, h⟩ := h
  obtain ⟨b, h1, _, h2⟩ := DataW.trod_int ht h; exact ⟨b, h1, h2⟩
theorem Rd.str (ht : P.underlying t = some .string) (h : Rd P W t cs) : ∃ s : ByteArray, cs = [.string s] ∧ s.size ≤ maxLen := by
  obtain ⟨H, enc, n, x, h⟩ := h
  obtain ⟨b, h1, _, h2⟩ := DataW.trod_string ht h; exact ⟨b, h1, h2⟩
theorem Rd.struct {fs : Array Field} (ht : P.underlying t = some (.struct fs)) (h : Rd P W t cs) : cs.length = P.cellsOf t ∧ ∀ f ∈ fs.toList, Rd P W f.type ((cs.drop f.offset).take (P.cellsOf f.type)) := by
  obtain ⟨H, enc, n, x, h⟩ := h
  cases n with
  | zero => simp [DataW.trod] at h
  | succ n =>
    unfold DataW.trod at h
    rw [ht] at h
    simp only at h
    split at h
    · rename_i hl
      refine ⟨hl, fun f hf => ?_⟩
      rw [Option.map_eq_some_iff] at h
      obtain ⟨xs, hx, _⟩ := h
      have : ∀ (l : List Field) (xs : List (DataW H × List MemPlace)), l.mapM (fun f => DataW.trod enc P W 0 (fun _ => true) true n f.type ((cs.drop f.offset).take (P.cellsOf f.type))) = some xs → ∀ f ∈ l, Rd P W f.type ((cs.drop f.offset).take (P.cellsOf f.type)) := by
        intro l
        induction l with
        | nil => intro xs _ f hf; cases hf
        | cons a l ih =>
          intro xs hx f hf
          rw [List.mapM_cons] at hx
          simp only [Option.bind_eq_bind, Option.bind_eq_some_iff] at hx
          obtain ⟨y, hy, ys, hys, _⟩ := hx
          rcases List.mem_cons.1 hf with rfl | hf
          · exact ⟨H, enc, n, y, hy⟩
          · exact ih ys hys f hf
      exact this _ _ hx f hf
    · cases h
theorem Rd.array {n : Nat} {e : TypeId} (ht : P.underlying t = some (.array n e)) (h : Rd P W t cs) : cs.length = P.cellsOf t ∧ ∀ i, i < n → Rd P W e ((cs.drop (i * P.cellsOf e)).take (P.cellsOf e)) := by
  obtain ⟨H, enc, f, x, h⟩ := h
  cases f with
  | zero => simp [DataW.trod] at h
  | succ f =>
    unfold DataW.trod at h
    rw [ht] at h
    simp only at h
    split at h
    · rename_i hl
      refine ⟨hl, fun i hi => ?_⟩
      rw [Option.map_eq_some_iff] at h
      obtain ⟨xs, hx, _⟩ := h
      have : ∀ (l : List Nat) (xs : List (DataW H × List MemPlace)), l.mapM (fun i => DataW.trod enc P W 0 (fun _ => true) true f e ((cs.drop (i * P.cellsOf e)).take (P.cellsOf e))) = some xs → ∀ i ∈ l, Rd P W e ((cs.drop (i * P.cellsOf e)).take (P.cellsOf e)) := by
        intro l
        induction l with
        | nil => intro xs _ f hf; cases hf
        | cons a l ih =>
          intro xs hx i hi
          rw [List.mapM_cons] at hx
          simp only [Option.bind_eq_bind, Option.bind_eq_some_iff] at hx
          obtain ⟨y, hy, ys, hys, _⟩ := hx
          rcases List.mem_cons.1 hi with rfl | hi
          · exact ⟨H, enc, f, y, hy⟩
          · exact ih ys hys i hi
      exact this _ _ hx i (List.mem_range.2 hi)
    · cases h
theorem Rd.len (ht : (match P.underlying t with | some (.struct _) | some (.array _ _) => true | _ => false) = true) (h : Rd P W t cs) : cs.length = P.cellsOf t := by
  split at ht
  · rename_i fs hs; exact (h.struct hs).1
  · rename_i n e hs; exact (h.array hs).1
  · cases ht
theorem Rd.field {t' : TypeId} {off : Nat} (ht : (match P.underlying t with | some (.struct fs) => fs.toList.any (fun f => Nat.beq f.offset off && Nat.beq f.type t') | _ => false) = true) (h : Rd P W t cs) : Rd P W t' ((cs.drop off).take (P.cellsOf t')) := by
  split at ht
  · rename_i fs hs
    simp only [List.any_eq_true, Bool.and_eq_true] at ht
    obtain ⟨f, hm, h1, h2⟩ := ht
    have := (h.struct hs).2 f hm
    rwa [Nat.eq_of_beq_eq_true h1, Nat.eq_of_beq_eq_true h2] at this
  · cases ht
theorem cells?_at {a : Addr} {n : Nat} {l : List Value} (h : W.cells? 0 a n = some l) : l.length = n ∧ ∀ i u, l[i]? = some u → W.cell? (a.add i) = some u := by
  unfold World.cells? at h
  rw [if_pos (Nat.zero_le _)] at h
  have : ∀ (ks : List Nat) (l : List Value), ks.mapM (fun i => W.cell? (a.add i)) = some l → l.length = ks.length ∧ ∀ (i : Nat) (u : Value) (k : Nat), l[i]? = some u → ks[i]? = some k → W.cell? (a.add k) = some u := by
    intro ks
    induction ks with
    | nil =>
      intro l h
      simp at h; subst h
      exact ⟨rfl, fun i u k hu => by simp at hu⟩
    | cons k ks ih =>
      intro l h
      rw [List.mapM_cons] at h
      simp only [Option.bind_eq_bind, Option.bind_eq_some_iff] at h
      obtain ⟨y, hy, ys, hys, h⟩ := h
      cases h
      obtain ⟨h1, h2⟩ := ih ys hys
      refine ⟨by simp [h1], fun i u k' hu hk => ?_⟩
      cases i with
      | zero => simp at hu hk; subst hu; subst hk; exact hy
      | succ i => exact h2 i u k' (by simpa using hu) (by simpa using hk)
  obtain ⟨h1, h2⟩ := this _ _ h
  refine ⟨by simpa using h1, fun i u hu => h2 i u i hu ?_⟩
  have hlt : i < l.length := by
    rcases Nat.lt_or_ge i l.length with h | h
    · exact h
    · rw [List.getElem?_eq_none h] at hu; cases hu
  rw [List.getElem?_range (by simp at h1; omega)]
theorem flat_cells {a : Addr} {sz : Nat} : ∀ (es : List (List Value)) (k : Nat), (∀ i x, es[i]? = some x → x.length = sz ∧ ∀ j u, x[j]? = some u → W.cell? (a.add ((k + i) * sz + j)) = some u) →
    ∀ j u, es.flatten[j]? = some u → W.cell? (a.add (k * sz + j)) = some u
  | [], _, _, j, u, hu => by simp at hu
  | x :: es, k, h, j, u, hu => by
    obtain ⟨hl, h0⟩ := h 0 x rfl
    rw [List.flatten_cons, List.getElem?_append] at hu
    split at hu
    · have := h0 j u hu
      simpa using this
    · have ih := flat_cells es (k + 1) (fun i y hy => by
        have := h (i + 1) y (by simpa using hy)
        rw [show k + (i + 1) = k + 1 + i by omega] at this; exact this) (j - x.length) u hu
      rw [hl, Nat.add_mul, Nat.one_mul, show k * sz + sz + (j - sz) = k * sz + j by omega] at ih
      exact ih
theorem Rd.sl {e : TypeId} (ht : P.underlying t = some (.slice e)) (h : Rd P W t cs) :
    ∃ a l c, cs = [.slice a l c] ∧ l ≤ c ∧ c ≤ maxLen ∧ ∃ es : List (List Value), es.length = c ∧ (∀ x ∈ es, x.length = P.cellsOf e ∧ Rd P W e x) ∧ CellsAt (heapM W) a es.flatten := by
  obtain ⟨H, enc, f, x, h⟩ := h
  rcases DataW.trod_slice ht h with ⟨rfl, _⟩ | ⟨a, len, cap, elems, rest, n, _, rfl, _, _, hl, hm, hlen, hel, hsp, _⟩
  · exact ⟨none, 0, 0, rfl, Nat.le_refl _, Nat.zero_le _, [], rfl, ⟨(fun x h => by cases h), CellsAt.empty _ _⟩⟩
  · obtain ⟨hrl, hrest⟩ := hsp rfl
    have each : ∀ i, i < cap → ∃ l y, W.cells? 0 (a.add (i * P.cellsOf e)) (P.cellsOf e) = some l ∧ DataW.trod enc P W 0 (fun _ => true) true n e l = some y := by
      intro i hi
      have : ∃ y, (W.cells? 0 (a.add (i * P.cellsOf e)) (P.cellsOf e)).bind (DataW.trod enc P W 0 (fun _ => true) true n e) = some y := by
        by_cases h1 : i < len
        · rw [hel i h1]; exact ⟨elems[i]'(by omega), List.getElem?_eq_getElem _⟩
        · have := hrest (i - len) (by omega)
          rw [show len + (i - len) = i by omega] at this
          rw [this]; exact ⟨rest[i - len]'(by omega), List.getElem?_eq_getElem _⟩
      obtain ⟨y, hy⟩ := this
      rw [Option.bind_eq_some_iff] at hy
      obtain ⟨l, h1, h2⟩ := hy
      exact ⟨l, y, h1, h2⟩
    refine ⟨some a, len, cap, rfl, hl, hm, (List.range cap).map (fun i => (W.cells? 0 (a.add (i * P.cellsOf e)) (P.cellsOf e)).getD []), by simp, ?_, ?_⟩
    · intro x hx
      simp only [List.mem_map, List.mem_range] at hx
      obtain ⟨i, hi, rfl⟩ := hx
      obtain ⟨l, y, h1, h2⟩ := each i hi
      rw [h1]
      exact ⟨(cells?_at h1).1, H, enc, n, y, h2⟩
    · refine CellsAt.given ?_
      have := flat_cells (W := W) (a := a) (sz := P.cellsOf e) ((List.range cap).map (fun i => (W.cells? 0 (a.add (i * P.cellsOf e)) (P.cellsOf e)).getD [])) 0 (fun i x hx => by
        rw [List.getElem?_map] at hx
        by_cases hi : i < cap
        · rw [List.getElem?_range hi] at hx
          simp only [Option.map_some, Option.some.injEq] at hx
          obtain ⟨l, y, h1, h2⟩ := each i hi
          rw [h1] at hx
          simp only [Option.getD_some] at hx
          subst hx
          obtain ⟨g1, g2⟩ := cells?_at h1
          refine ⟨g1, fun j u hu => ?_⟩
          have := g2 j u hu
          rw [Addr.add_add] at this
          rw [Nat.zero_add]; exact this
        · rw [List.getElem?_eq_none (by simp; omega)] at hx; cases hx)
      intro j u hu
      have := this j u hu
      simpa using this
theorem Arg.bool (ht : P.underlying t = some .bool) (h : Arg P W t v) : ∃ b, v = .bool b := by
  obtain ⟨base, H, enc, d, p, h1, _⟩ := h; exact okWide_bool ht h1
theorem Arg.int {k : IntKind} (ht : P.underlying t = some (.int k)) (h : Arg P W t v) : ∃ n, v = .int k n ∧ (Lit.int k n).wf = true := by
  have hr := h.rd
  obtain ⟨base, H, enc, d, p, h1, _⟩ := h
  obtain ⟨n, rfl⟩ := okWide_int ht h1
  obtain ⟨n', h2, h3⟩ := hr.int ht
  simp [Value.cells] at h2; subst h2
  exact ⟨n, rfl, h3⟩
theorem Arg.str (ht : P.underlying t = some .string) (h : Arg P W t v) : ∃ s : ByteArray, v = .string s ∧ s.size ≤ maxLen := by
  have hr := h.rd
  obtain ⟨base, H, enc, d, p, h1, _⟩ := h
  obtain ⟨n, rfl⟩ := okWide_string ht h1
  obtain ⟨n', h2, h3⟩ := hr.str ht
  simp [Value.cells] at h2; subst h2
  exact ⟨n, rfl, h3⟩
theorem Arg.sl {e : TypeId} (ht : P.underlying t = some (.slice e)) (h : Arg P W t v) :
    ∃ a l c, v = .slice a l c ∧ l ≤ c ∧ c ≤ maxLen ∧ ∃ es : List (List Value), es.length = c ∧ (∀ x ∈ es, x.length = P.cellsOf e ∧ Rd P W e x) ∧ CellsAt (heapM W) a es.flatten := by
  have hr := h.rd
  obtain ⟨base, H, enc, d, p, h1, _⟩ := h
  obtain ⟨a, l, c, rfl⟩ := okWide_slice ht h1
  obtain ⟨a', l', c', h2, h3⟩ := hr.sl ht
  simp [Value.cells] at h2
  obtain ⟨rfl, rfl, rfl⟩ := h2
  exact ⟨a, l, c, rfl, h3⟩
theorem Arg.agg (ht : (match P.underlying t with | some (.struct _) | some (.array _ _) => true | _ => false) = true) (h : Arg P W t v) : ∃ cs : List Value, v = .agg cs.toArray ∧ Rd P W t cs := by
  have hr := h.rd
  obtain ⟨base, H, enc, d, p, h1, _⟩ := h
  unfold Value.okWide at h1
  split at h1 <;> simp_all
  all_goals
    obtain ⟨cs, rfl, _⟩ := h1
    exact ⟨cs.toList, by simp, by simpa [Value.cells] using hr⟩
/-- Rows of elements of one kind. -/
theorem es_u8 {e : TypeId} (he : P.underlying e = some (.int .u8)) {es : List (List Value)} (h : ∀ x ∈ es, Rd P W e x) : ∃ bs : List UInt8, bs.length = es.length ∧ es.flatten = u8s bs := by
  induction es with
  | nil => exact ⟨[], rfl, rfl⟩
  | cons x es ih =>
    obtain ⟨bs, h1, h2⟩ := ih (fun y hy => h y (by simp [hy]))
    obtain ⟨n, hn, hw⟩ := (h x (by simp)).int he
    have hn8 := wf_u8 hw
    refine ⟨UInt8.ofNat n.toNat :: bs, by simp [h1], ?_⟩
    rw [List.flatten_cons, h2, hn]
    have : (UInt8.ofNat n.toNat).toNat = n.toNat := by rw [UInt8.toNat_ofNat']; omega
    simp only [u8s, List.map_cons, this, List.singleton_append]
    congr 2; omega
/-- A slice of bytes that came in: its bytes, its spare room's too. -/
theorem Arg.u8s {e : TypeId} (ht : P.underlying t = some (.slice e)) (he : P.underlying e = some (.int .u8)) (h : Arg P W t v) :
    ∃ a l c bs2, v = .slice a l c ∧ l ≤ c ∧ bs2.length = c ∧ CellsAt (heapM W) a (u8s bs2) ∧ CellsAt (heapM W) a (u8s (bs2.take l)) := by
  obtain ⟨a, l, c, rfl, h1, _, es, h2, h3, h4⟩ := h.sl ht
  obtain ⟨bs, h5, h6⟩ := es_u8 he (fun x hx => (h3 x hx).2)
  rw [h6] at h4
  refine ⟨a, l, c, bs, rfl, h1, by omega, h4, ?_⟩
  have : Go.H.u8s bs = Go.H.u8s (bs.take l) ++ Go.H.u8s (bs.drop l) := by simp [Go.H.u8s]
  rw [this] at h4
  exact h4.left
theorem Rd.u8s {e : TypeId} (ht : P.underlying t = some (.slice e)) (he : P.underlying e = some (.int .u8)) (h : Rd P W t cs) :
    ∃ a l c bs, cs = [.slice a l c] ∧ l ≤ c ∧ bs.length = l ∧ CellsAt (heapM W) a (u8s bs) := by
  obtain ⟨a, l, c, rfl, h1, _, es, h2, h3, h4⟩ := h.sl ht
  obtain ⟨bs, h5, h6⟩ := es_u8 he (fun x hx => (h3 x hx).2)
  rw [h6] at h4
  refine ⟨a, l, c, bs.take l, rfl, h1, by simp; omega, ?_⟩
  have : Go.H.u8s bs = Go.H.u8s (bs.take l) ++ Go.H.u8s (bs.drop l) := by simp [Go.H.u8s]
  rw [this] at h4
  exact h4.left
end
end Go.H
set_option linter.unusedVariables false
namespace Go.E
open Go.H
theorem eU8 : ElemOK P T_sl_uint8 T_uint8 (.int .u8 0) 1 1 := .of (by kernel_rfl) (by kernel_rfl) rfl
theorem eInt : ElemOK P T_sl_int T_int (.int .i64 0) 1 8 := .of (by kernel_rfl) (by kernel_rfl) rfl
end Go.E
set_option linter.unusedVariables false
set_option linter.unusedSimpArgs false
namespace Go.E
open Go.H
def bits (f : Nat → Bool) : Nat → Nat
  | 0 => 0
  | n + 1 => 2 ^ n * (f n).toNat + bits f n
theorem bits_lt (f : Nat → Bool) : ∀ n, bits f n < 2 ^ n
  | 0 => by simp [bits]
  | n + 1 => by
    have := bits_lt f n
    unfold bits
    cases f n <;> simp [Nat.pow_succ] <;> omega
theorem bits_test (f : Nat → Bool) : ∀ n j, (bits f n).testBit j = (decide (j < n) && f j)
  | 0, j => by simp [bits]
  | n + 1, j => by
    have hlt := bits_lt f n
    have ih := bits_test f n j
    unfold bits
    cases hf : f n with
    | false =>
      simp only [Bool.toNat_false, Nat.mul_zero, Nat.zero_add]
      rw [ih]
      by_cases h : j < n
      · simp [h, Nat.lt_succ_of_lt h]
      · by_cases e : j = n
        · subst e; simp [hf]
        · have : ¬ j < n + 1 := by omega
          simp [h, this]
    | true =>
      simp only [Bool.toNat_true, Nat.mul_one]
      rcases Nat.lt_trichotomy j n with h | h | h
      · rw [Nat.testBit_two_pow_add_gt h, ih]
        simp [h, Nat.lt_succ_of_lt h]
      · subst h
        rw [Nat.testBit_two_pow_add_eq, ih]
        simp [hf]
      · have : ¬ j < n + 1 := by omega
        rw [Nat.testBit_lt_two_pow]
        · simp [this]
        · calc 2 ^ n + bits f n < 2 ^ n + 2 ^ n := by omega
            _ = 2 ^ (n + 1) := by rw [Nat.pow_succ]; omega
            _ ≤ 2 ^ j := Nat.pow_le_pow_right (by omega) (by omega)
theorem bits_congr {f g : Nat → Bool} {n : Nat} (h : ∀ j, j < n → f j = g j) : bits f n = bits g n := by
  refine Nat.eq_of_testBit_eq fun j => ?_
  rw [bits_test, bits_test]
  by_cases hj : j < n
  · simp [hj, h j hj]
  · simp [hj]
theorem two64 : (18446744073709551616 : Nat) = 2 ^ 64 := by decide
theorem or_lt {x y : Nat} (hx : x < 18446744073709551616) (hy : y < 18446744073709551616) : x ||| y < 18446744073709551616 := by
  rw [two64] at *; exact Nat.or_lt_two_pow hx hy
theorem pow_lt {j : Nat} (h : j < 64) : 2 ^ j < 18446744073709551616 := by
  rw [two64]; exact Nat.pow_lt_pow_right (by omega) h
theorem lt_pow {x j : Nat} (hx : x < 18446744073709551616) (h : 64 ≤ j) : x < 2 ^ j := by
  rw [two64] at hx; exact Nat.lt_of_lt_of_le hx (Nat.pow_le_pow_right (by omega) h)
/-- the k-th number of a set -/
def limb (f : Nat → Bool) (k : Nat) : Nat := bits (fun j => f (64 * k + j)) 64
abbrev L (f : Nat → Bool) (k : Nat) : Int := ((limb f k : Nat) : Int)
theorem limb_lt (f : Nat → Bool) (k : Nat) : limb f k < 18446744073709551616 := by rw [two64]; exact bits_lt _ 64
theorem limb_test (f : Nat → Bool) (k : Nat) {j : Nat} (h : j < 64) : (limb f k).testBit j = f (64 * k + j) := by simp [limb, bits_test, h]
theorem limb_congr {f g : Nat → Bool} {k : Nat} (h : ∀ j, j < 64 → f (64 * k + j) = g (64 * k + j)) : limb f k = limb g k := bits_congr h
theorem limb_inj {f g : Nat → Bool} {k : Nat} (h : limb f k = limb g k) {j : Nat} (hj : j < 64) : f (64 * k + j) = g (64 * k + j) := by
  rw [← limb_test f k hj, ← limb_test g k hj, h]
theorem limb_ext {n : Nat} (hn : n < 18446744073709551616) {f : Nat → Bool} {k : Nat} (h : ∀ j, j < 64 → n.testBit j = f (64 * k + j)) : n = limb f k := by
  refine Nat.eq_of_testBit_eq fun j => ?_
  by_cases hj : j < 64
  · rw [h j hj, limb_test f k hj]
  · rw [Nat.testBit_lt_two_pow, Nat.testBit_lt_two_pow]
    · exact lt_pow (limb_lt f k) (by omega)
    · exact lt_pow hn (by omega)
theorem wrap_u64 {n : Nat} (h : n < 18446744073709551616) : IntKind.u64.wrap (n : Int) = (n : Int) := by
  rw [IntKind.wrap_u64]; omega
theorem bv {n : Nat} (h : n < 18446744073709551616) : (BitVec.ofInt IntKind.u64.bits (n : Int)).toNat = n := by
  show (BitVec.ofInt 64 (n : Int)).toNat = n
  rw [BitVec.ofInt_natCast, BitVec.toNat_ofNat]
  exact Nat.mod_eq_of_lt h
theorem or_nat {x y : Nat} (hx : x < 18446744073709551616) (hy : y < 18446744073709551616) : bitsV .or .u64 (x : Int) (y : Int) = ((x ||| y : Nat) : Int) := by
  unfold bitsV
  dsimp only
  rw [BitVec.toNat_or, bv hx, bv hy]
  exact wrap_u64 (or_lt hx hy)
theorem and_nat {x y : Nat} (hx : x < 18446744073709551616) (hy : y < 18446744073709551616) : bitsV .and .u64 (x : Int) (y : Int) = ((x &&& y : Nat) : Int) := by
  unfold bitsV
  dsimp only
  rw [BitVec.toNat_and, bv hx, bv hy]
  exact wrap_u64 (Nat.lt_of_le_of_lt Nat.and_le_left hx)
theorem L_congr {f g : Nat → Bool} {k : Nat} (h : ∀ j, j < 64 → f (64 * k + j) = g (64 * k + j)) : L f k = L g k := by
  unfold L; rw [limb_congr h]
theorem L_zero (k : Nat) : L (fun _ => false) k = 0 := by
  have : (0 : Nat) = limb (fun _ => false) k := limb_ext (by omega) fun j hj => by simp
  unfold L; rw [← this]; rfl
theorem shr_nat {x j : Nat} (hj : j < 64) : shrV .u64 (x : Int) (j : Int) = ((x >>> j : Nat) : Int) := by
  unfold shrV
  have hm : min (j : Int).toNat IntKind.u64.bits = j := by
    show min (j : Int).toNat 64 = j
    omega
  rw [hm, Nat.shiftRight_eq_div_pow]
  have h2 : ((2 : Int) ^ j) = ((2 ^ j : Nat) : Int) := by simp
  rw [h2, Int.fdiv_eq_ediv_of_nonneg _ (Int.natCast_nonneg _)]
  rfl
theorem L_has (f : Nat → Bool) (k : Nat) {j : Nat} (hj : j < 64) : (bitsV .and .u64 (shrV .u64 (L f k) (j : Int)) 1 == 1) = f (64 * k + j) := by
  rw [shr_nat hj]
  have hlt : limb f k >>> j < 18446744073709551616 := Nat.lt_of_le_of_lt (Nat.shiftRight_le _ _) (limb_lt f k)
  have h := and_nat (x := limb f k >>> j) (y := 1) hlt (by omega)
  rw [show ((1 : Nat) : Int) = 1 from rfl] at h
  rw [h, ← limb_test f k hj, Nat.testBit]
  rw [Nat.and_one_is_mod, Nat.one_and_eq_mod_two]
  have := Nat.mod_two_eq_zero_or_one (limb f k >>> j)
  rcases this with e | e <;> rw [e] <;> rfl
theorem shl_one {j : Nat} (hj : j < 64) : shlV .u64 1 (j : Int) = ((2 ^ j : Nat) : Int) := by
  unfold shlV
  have hm : min (j : Int).toNat IntKind.u64.bits = j := by
    show min (j : Int).toNat 64 = j
    omega
  rw [hm, Int.one_mul]
  have h2 : ((2 : Int) ^ j) = ((2 ^ j : Nat) : Int) := by simp
  rw [h2]
  exact wrap_u64 (pow_lt hj)
theorem L_add (f : Nat → Bool) (k : Nat) {j : Nat} (hj : j < 64) : bitsV .or .u64 (L f k) (shlV .u64 1 (j : Int)) = L (fun b => f b || b == 64 * k + j) k := by
  rw [shl_one hj, or_nat (limb_lt f k) (pow_lt hj)]
  refine congrArg (Nat.cast (R := Int)) ?_
  refine limb_ext (or_lt (limb_lt f k) (pow_lt hj)) fun i hi => ?_
  rw [Nat.testBit_or, limb_test f k hi, Nat.testBit_two_pow]
  congr 1
  by_cases e : j = i
  · subst e; simp
  · have : ¬ i = j := fun x => e x.symm
    simp [e, this]
theorem L_add_ne (f : Nat → Bool) {k k' j : Nat} (hj : j < 64) (hk : k' ≠ k) : L (fun b => f b || b == 64 * k + j) k' = L f k' :=
  L_congr fun i hi => by
    have : ¬ (64 * k' + i = 64 * k + j) := by omega
    simp [this]
/-- A set as a value. -/
abbrev setv (f : Nat → Bool) : Value := .agg #[.int .u64 (L f 0), .int .u64 (L f 1), .int .u64 (L f 2), .int .u64 (L f 3)]
theorem setv_eq {f g : Nat → Bool} (h : ∀ b, b < 256 → f b = g b) : setv f = setv g := by
  unfold setv
  rw [L_congr (k := 0) fun j hj => h _ (by omega), L_congr (k := 1) fun j hj => h _ (by omega), L_congr (k := 2) fun j hj => h _ (by omega), L_congr (k := 3) fun j hj => h _ (by omega)]
theorem L_inj {f g : Nat → Bool} (h0 : L f 0 = L g 0) (h1 : L f 1 = L g 1) (h2 : L f 2 = L g 2) (h3 : L f 3 = L g 3) : ∀ b, b < 256 → f b = g b := by
  intro b hb
  have e : b = 64 * (b / 64) + b % 64 := by omega
  have hk : b / 64 = 0 ∨ b / 64 = 1 ∨ b / 64 = 2 ∨ b / 64 = 3 := by omega
  have hj : b % 64 < 64 := by omega
  rw [e]
  rcases hk with x | x | x | x <;> rw [x]
  · exact limb_inj (Int.ofNat.inj h0) hj
  · exact limb_inj (Int.ofNat.inj h1) hj
  · exact limb_inj (Int.ofNat.inj h2) hj
  · exact limb_inj (Int.ofNat.inj h3) hj
end Go.E
set_option linter.unusedVariables false
set_option linter.unusedSimpArgs false
namespace Go.E
open Go.H
def dbTab : List Nat := [0, 1, 56, 2, 57, 49, 28, 3, 61, 58, 42, 50, 38, 29, 17, 4, 62, 47, 59, 36, 45, 43, 51, 22, 53, 39, 33, 30, 24, 18, 12, 5, 63, 55, 48, 27, 60, 41, 37, 16, 46, 35, 44, 21, 52, 32, 23, 11, 54, 26, 40, 15, 34, 20, 31, 10, 25, 14, 19, 9, 13, 8, 7, 6]
end Go.E
set_option linter.unusedVariables false
set_option linter.unusedSimpArgs false
namespace Go.E
open Go.H
attribute [local irreducible] BiN MkS ConvN LookN MapUpN CallV HC
theorem St1.four {m : Mem} {b : Nat} {x0 x1 x2 x3 u0 u1 u2 u3 : Value} {e : TypeId} {K : Mem → Prop} (h : m b = some (.cells #[x0, x1, x2, x3] e (0, 0))) (h0 : notOne u0 = false) (h1 : notOne u1 = false) (h2 : notOne u2 = false) (h3 : notOne u3 = false)
    (k : K (m.set b (.cells #[u0, u1, u2, u3] e (0, 0)))) : St1 m b 0 u0 fun m1 => St1 m1 b 1 u1 fun m2 => St1 m2 b 2 u2 fun m3 => St1 m3 b 3 u3 K := by
  refine St1.to #[u0, x1, x2, x3] h (by simp) h0 rfl ?_
  refine St1.to #[u0, u1, x2, x3] (set_same _ _ _) (by simp) h1 rfl ?_
  rw [set_set]
  refine St1.to #[u0, u1, u2, x3] (set_same _ _ _) (by simp) h2 rfl ?_
  rw [set_set]
  refine St1.to #[u0, u1, u2, u3] (set_same _ _ _) (by simp) h3 rfl ?_
  rw [set_set]
  exact k
theorem get4 {m : Mem} {b : Nat} {u0 u1 u2 u3 : Int} {e : TypeId} {fr : Nat × Nat} {K : Int → Int → Int → Int → Prop} (h : m b = some (.cells #[.int .u64 u0, .int .u64 u1, .int .u64 u2, .int .u64 u3] e fr)) (k : K u0 u1 u2 u3) :
    LdV m b 0 fun v => UnI v .u64 fun x0 => LdV m b 1 fun v => UnI v .u64 fun x1 => LdV m b 2 fun v => UnI v .u64 fun x2 => LdV m b 3 fun v => UnI v .u64 fun x3 => K x0 x1 x2 x3 :=
  LdV.s0 h (LdV.s1 h (LdV.s2 h (LdV.s3 h k)))
theorem put4 {m : Mem} {b : Nat} {x0 x1 x2 x3 : Value} {u0 u1 u2 u3 : Int} {e : TypeId} {K : Mem → Prop} (h : m b = some (.cells #[x0, x1, x2, x3] e (0, 0)))
    (k : K (m.set b (.cells #[.int .u64 u0, .int .u64 u1, .int .u64 u2, .int .u64 u3] e (0, 0)))) : St1 m b 0 (.int .u64 u0) fun m1 => St1 m1 b 1 (.int .u64 u1) fun m2 => St1 m2 b 2 (.int .u64 u2) fun m3 => St1 m3 b 3 (.int .u64 u3) K :=
  St1.four h rfl rfl rfl rfl k
/-- A result is stored into its own place and read back. -/
theorem out4 {m : Mem} {b : Nat} {x0 x1 x2 x3 : Value} {u0 u1 u2 u3 : Int} {e : TypeId} {K : Int → Int → Int → Int → Mem → Prop} (h : m b = some (.cells #[x0, x1, x2, x3] e (0, 0)))
    (k : K u0 u1 u2 u3 (m.set b (.cells #[.int .u64 u0, .int .u64 u1, .int .u64 u2, .int .u64 u3] e (0, 0)))) :
    St1 m b 0 (.int .u64 u0) fun m1 => St1 m1 b 1 (.int .u64 u1) fun m2 => St1 m2 b 2 (.int .u64 u2) fun m3 => St1 m3 b 3 (.int .u64 u3) fun m4 =>
    LdV m4 b 0 fun v => UnI v .u64 fun x0 => LdV m4 b 1 fun v => UnI v .u64 fun x1 => LdV m4 b 2 fun v => UnI v .u64 fun x2 => LdV m4 b 3 fun v => UnI v .u64 fun x3 => K x0 x1 x2 x3 m4 :=
  put4 h (get4 (set_same _ _ _) k)
theorem UnSet.mk {u0 u1 u2 u3 : Int} {K : Int → Int → Int → Int → Prop} (k : K u0 u1 u2 u3) :
    UnAgg (.agg #[.int .u64 u0, .int .u64 u1, .int .u64 u2, .int .u64 u3]) fun l => UnCons l fun v l => UnI v .u64 fun x0 => UnCons l fun v l => UnI v .u64 fun x1 => UnCons l fun v l => UnI v .u64 fun x2 => UnCons l fun v l => UnI v .u64 fun x3 => UnNil l (K x0 x1 x2 x3) := k
theorem ContSet.mk {u0 u1 u2 u3 : Int} {K : Int → Int → Int → Int → Mem → Prop} {Pn : List PanicEntry → Mem → Prop} {m : Mem} (k : K u0 u1 u2 u3 m) :
    Cont (fun v m => UnAgg v fun l => UnCons l fun v l => UnI v .u64 fun x0 => UnCons l fun v l => UnI v .u64 fun x1 => UnCons l fun v l => UnI v .u64 fun x2 => UnCons l fun v l => UnI v .u64 fun x3 => UnNil l (K x0 x1 x2 x3 m)) Pn
      (.returned (.agg #[.int .u64 u0, .int .u64 u1, .int .u64 u2, .int .u64 u3])) m := k
theorem byte_div {b : Nat} (hb : b < 256) : IntKind.u8.wrap (Int.tdiv (b : Int) 64) = ((b / 64 : Nat) : Int) := by
  rw [Int.tdiv_eq_ediv_of_nonneg (by omega), IntKind.wrap_u8]; omega
theorem byte_mod {b : Nat} : Int.tmod (b : Int) 64 = ((b % 64 : Nat) : Int) := by
  rw [Int.tmod_eq_emod_of_nonneg (by omega)]; omega
theorem limb_get {f : Nat → Bool} {k : Nat} (hk : k < 4) : (#[Value.int .u64 (L f 0), .int .u64 (L f 1), .int .u64 (L f 2), .int .u64 (L f 3)] : Array Value)[k]? = some (.int .u64 (L f k)) := by
  have : k = 0 ∨ k = 1 ∨ k = 2 ∨ k = 3 := by omega
  rcases this with rfl | rfl | rfl | rfl <;> rfl
theorem RHas_spec {f : Nat → Bool} {b : Nat} (hb : b < 256) {m : Mem} {R : Ending → Mem → Prop} (h : ∀ m', Le m m' → R (.returned (.bool (f b))) m') : HC P eyotref8_Has.id #[setv f, .int .u8 (b : Int)] m R := by
  refine eyotref8_Has.ok _ _ _ _ _ _ _ ?_
  intro ba hba
  rw [byte_div hb, byte_mod]
  refine ⟨by omega, by omega, ?_⟩
  refine LdV.of (set_same _ _ _) (v := .int .u64 (L f (b / 64))) (by rw [show 0 + ((b / 64 : Nat) : Int).toNat * 1 = b / 64 by omega]; exact limb_get (by omega)) ?_
  refine UnI.mk (NnI.mk (by omega) ?_)
  rw [L_has _ _ (by omega), show 64 * (b / 64) + b % 64 = b by omega]
  exact h _ (Le.set hba _)
end Go.E
set_option linter.unusedVariables false
set_option linter.unusedSimpArgs false
namespace Go.E
open Go.H
attribute [local irreducible] BiN MkS ConvN LookN MapUpN CallV HC
abbrev cells4 (f : Nat → Bool) : Array Value := #[.int .u64 (L f 0), .int .u64 (L f 1), .int .u64 (L f 2), .int .u64 (L f 3)]
theorem limb_set (F : Nat → Bool) {c : Nat} (hc : c < 256) :
    (cells4 F).setIfInBounds (c / 64) (.int .u64 (bitsV .or .u64 (L F (c / 64)) (shlV .u64 1 ((c % 64 : Nat) : Int)))) = cells4 fun b => F b || b == c := by
  have hm : c % 64 < 64 := by omega
  rw [L_add F (c / 64) hm]
  have e : 64 * (c / 64) + c % 64 = c := by omega
  have ne : ∀ k', k' ≠ c / 64 → L (fun b => F b || b == c) k' = L F k' := by
    intro k' hk
    have := L_add_ne F (k := c / 64) (k' := k') hm hk
    rw [e] at this
    exact this
  rw [e]
  have : c / 64 = 0 ∨ c / 64 = 1 ∨ c / 64 = 2 ∨ c / 64 = 3 := by omega
  rcases this with h | h | h | h <;> rw [h] at ne ⊢
  · show #[Value.int .u64 _, Value.int .u64 (L F 1), Value.int .u64 (L F 2), Value.int .u64 (L F 3)] = cells4 _
    unfold cells4
    rw [ne 1 (by omega), ne 2 (by omega), ne 3 (by omega)]
  · unfold cells4
    rw [ne 0 (by omega), ne 2 (by omega), ne 3 (by omega)]
    rfl
  · unfold cells4
    rw [ne 0 (by omega), ne 1 (by omega), ne 3 (by omega)]
    rfl
  · unfold cells4
    rw [ne 0 (by omega), ne 1 (by omega), ne 2 (by omega)]
    rfl
/-- The bytes of a list, as a set. -/
def inB (bs : List UInt8) (b : Nat) : Bool := bs.any fun c => b == c.toNat
theorem inB_take {bs : List UInt8} {k : Nat} (h : k < bs.length) : (fun b => inB (bs.take k) b || b == bs[k].toNat) = inB (bs.take (k + 1)) := by
  funext b
  unfold inB
  rw [List.take_add_one, List.any_append, List.getElem?_eq_getElem h]
  simp
theorem zero4 : cells4 (inB []) = #[.int .u64 0, .int .u64 0, .int .u64 0, .int .u64 0] := by
  have : inB [] = fun _ => false := rfl
  unfold cells4
  rw [this, L_zero, L_zero, L_zero, L_zero]
theorem ROf_spec {m : Mem} {a : Option Addr} {l c : Nat} {bs : List UInt8} (hb : CellsAt m a (u8s bs)) (hl : bs.length = l) (hmax : bs.length < 2 ^ 62) {R : Ending → Mem → Prop}
    (h : ∀ m', Le m m' → R (.returned (setv (inB bs))) m') : HC P eyotref8_Of.id #[.slice a l c] m R := by
  refine eyotref8_Of.ok _ _ _ _ _ ?_
  intro b2 hb2 b3 hb3
  have hne : b3 ≠ b2 := fun e => by subst e; rw [set_same] at hb3; cases hb3
  have hm3 : m b3 = none := by rw [set_other _ _ hne] at hb3; exact hb3
  refine ⟨fun N xa xl xc x2b x2o s3b s3o x8 mm => x2b = b2 ∧ x2o = 0 ∧ s3b = b3 ∧ s3o = 0 ∧ xa = a ∧ xl = l ∧ xc = c ∧ ∃ k : Nat, x8 = k ∧ N = l - k ∧ k ≤ l ∧
    mm b3 = some (.cells (cells4 (inB (bs.take k))) T_api_Set (0, 0)) ∧ mm b2 = some (.cells #[.int .u64 0, .int .u64 0, .int .u64 0, .int .u64 0] T_api_Set (0, 0)) ∧ Le m mm, l,
    ⟨rfl, rfl, rfl, rfl, rfl, rfl, rfl, 0, rfl, rfl, by omega, ?_, ?_, ?_⟩, ?_⟩
  · rw [set_same]; rw [List.take_zero, zero4]
  · rw [set_other _ _ hne.symm, set_same]
  · exact (Le.set hb2 _).trans (Le.set hb3 _)
  rintro N xa xl xc x2b x2o s3b s3o x8 mm ⟨rfl, rfl, rfl, rfl, rfl, rfl, rfl, k, rfl, rfl, hk, hs, h2, hle⟩
  refine BrD (fun hlt => ?_) (fun hge => ?_)
  · have hk' : k < bs.length := by omega
    have hcl : bs[k].toNat < 256 := by have := UInt8.toNat_lt bs[k]; omega
    refine ⟨mm, Le.refl _, ?_⟩
    refine IxS.u8s (hb.le hle) hl (by omega) (by omega) ?_
    intro x hx
    rw [Int.toNat_natCast, List.getElem?_eq_getElem hk'] at hx
    cases hx
    refine UnI.mk ?_
    rw [byte_div hcl]
    refine ⟨by omega, by omega, ?_⟩
    refine LdV.of hs (v := .int .u64 (L (inB (bs.take k)) (bs[k].toNat / 64))) (by rw [show 0 + ((bs[k].toNat / 64 : Nat) : Int).toNat * 1 = bs[k].toNat / 64 by omega]; exact limb_get (by omega)) ?_
    refine UnI.mk ?_
    refine IxS.u8s (hb.le hle) hl (by omega) (by omega) ?_
    intro x hx
    rw [Int.toNat_natCast, List.getElem?_eq_getElem hk'] at hx
    cases hx
    refine UnI.mk ?_
    rw [byte_mod]
    refine NnI.mk (by omega) ⟨by omega, by omega, ?_⟩
    refine St1.to (cells4 (inB (bs.take (k + 1)))) hs (by show _ < 4; omega) rfl ?_ ?_
    · rw [show 0 + ((bs[k].toNat / 64 : Nat) : Int).toNat * 1 = bs[k].toNat / 64 by omega, limb_set _ hcl, inB_take hk']
    refine ⟨_, ?_, rfl, rfl, rfl, rfl, rfl, rfl, rfl, k + 1, ?_, rfl, by omega, set_same _ _ _, ?_, ?_⟩
    · omega
    · rw [wi (by omega) (by omega)]; omega
    · rw [set_other _ _ hne.symm]; exact h2
    · exact Chg.to_le (Chg.set mm _ _) hle (fun b e => by rw [show b = s3b from e]; exact hm3)
  · have : k = bs.length := by omega
    subst this
    rw [List.take_length] at hs
    refine get4 hs ?_
    refine out4 h2 ?_
    exact h _ (Chg.to_le (Chg.set mm _ _) hle (fun b e => by rw [show b = x2b from e]; exact hb2))
/-- A row of bytes under way, new over ms. -/
structure RwB (ms mm : Mem) (a : Option Addr) (l c : Nat) (bs : List UInt8) : Prop where
  le : Le ms mm
  own : Own mm T_uint8 1 a l c (u8s bs)
  fr : Fresh ms a
theorem RwB.nil {ms mm : Mem} (h : Le ms mm) : RwB ms mm none 0 0 [] := ⟨h, Own.nil _ _ _, Fresh.none _⟩
theorem RwB.len {ms mm : Mem} {a : Option Addr} {l c : Nat} {bs : List UInt8} (h : RwB ms mm a l c bs) : bs.length = l := by have := h.own.1; simpa [u8s] using this
theorem RwB.mono {ms mm mm' : Mem} {a : Option Addr} {l c : Nat} {bs : List UInt8} (h : RwB ms mm a l c bs) (k : Le mm mm') : RwB ms mm' a l c bs := ⟨h.le.trans k, Own.le k h.own, h.fr⟩
theorem RwB.push {ms mm : Mem} {a : Option Addr} {l c : Nat} {bs : List UInt8} (h : RwB ms mm a l c bs) (x : UInt8) (hlen : l ≤ 1000000000)
    {ty : TypeId} {cs : Array Bool} {K : Value → Mem → Prop} {Pn : List PanicEntry → Mem → Prop}
    (k : ∀ a' c' m', RwB ms m' a' (l + 1) c' (bs ++ [x]) → K (.slice a' (l + 1) c') m') :
    ∀ b, mm b = none → BiN P .append #[T_sl_uint8, T_sl_uint8] ty cs #[.slice a l c, .slice (some ⟨b, 0, none⟩) 1 1] (mm.set b (.cells #[.int .u8 x.toNat] T_uint8 (0, 0))) K Pn := by
  refine push_one eU8 h.own rfl hlen (by omega) ?_
  intro a' c' m' hch ho hb
  refine k a' c' m' ⟨hch.to_le h.le (fun b e => h.fr b e), by simpa [u8s] using ho, ?_⟩
  rcases hb with hb | hb
  · intro b e; exact h.fr b (hb ▸ e)
  · exact Fresh.le h.le hb
/-- The bytes from one to another one. -/
abbrev fromTo (a b : Nat) : Nat → Bool := fun c => decide (a ≤ c) && decide (c ≤ b)
end Go.E
set_option linter.unusedVariables false
set_option linter.unusedSimpArgs false
namespace Go.E
open Go.H
attribute [local irreducible] BiN MkS ConvN LookN MapUpN CallV HC limb dbTab
/-- The package variable 'math/bits.deBruijn64tab' is laid. -/
def Glob (m : Mem) : Prop := CellsAt m (some ⟨0, 0, none⟩) (dbTab.map fun (x : Nat) => Value.int .u8 (x : Int))
theorem Glob.le {m m' : Mem} (h : Glob m) (k : Le m m') : Glob m' := CellsAt.le k h
end Go.E
set_option linter.unusedVariables false
set_option linter.unusedSimpArgs false
namespace Go.E
open Go.H
/-- The byte that stands there; 0: none. -/
def nx (l : List UInt8) (i : Nat) : Nat := (l.getD i 0).toNat
def special : List Nat := [92, 124, 42, 43, 63, 40, 41, 91, 93, 46, 94, 45]
def isSp (c : Nat) : Bool := special.contains c
/-- a digit of sixteen; 16: none -/
def dig (c : Nat) : Nat := if 48 ≤ c ∧ c ≤ 57 then c - 48 else if 97 ≤ c ∧ c ≤ 102 then c - 87 else 16
/-- A sign: its byte, and where it ends. -/
def sgn (l : List UInt8) (i : Nat) : Option (Nat × Nat) :=
  if l.length ≤ i then none
  else if nx l i ≠ 92 then
    if nx l i < 33 ∨ 126 < nx l i ∨ isSp (nx l i) = true then none else some (nx l i, i + 1)
  else if l.length ≤ i + 1 then none
  else if nx l (i + 1) = 120 then
    if l.length ≤ i + 2 ∨ dig (nx l (i + 2)) = 16 ∨ l.length ≤ i + 3 ∨ dig (nx l (i + 3)) = 16 then none
    else some (dig (nx l (i + 2)) * 16 + dig (nx l (i + 3)), i + 4)
  else if isSp (nx l (i + 1)) = true then some (nx l (i + 1), i + 2) else none
/-- A part: its first and last byte, and where it ends. -/
def prt (l : List UInt8) (i : Nat) : Option ((Nat × Nat) × Nat) :=
  match sgn l i with
  | none => none
  | some (a, n) =>
    if nx l n ≠ 45 then some ((a, a), n)
    else match sgn l (n + 1) with
      | none => none
      | some (b, n') => if b < a then none else some ((a, b), n')
def prts (l : List UInt8) : Nat → Nat → (Nat → Bool) → Option ((Nat → Bool) × Nat)
  | 0, _, _ => none
  | k + 1, i, S =>
    if nx l i = 93 then some (S, i + 1)
    else match prt l i with
      | none => none
      | some ((a, b), n) => prts l k n fun c => S c || fromTo a b c
/-- A class as it is read, an empty one too. -/
def cls0 (l : List UInt8) : Option ((Nat → Bool) × Nat) :=
  if nx l 0 = 46 then some ((fun b => !false), 1)
  else if nx l 0 = 91 then
    match prt l (if nx l 1 = 94 then 2 else 1) with
    | none => none
    | some ((a, b), n) =>
      match prts l (l.length + 1) n (fromTo a b) with
      | none => none
      | some (S, e) => some (if nx l 1 = 94 then (fun c => !S c) else S, e)
  else match sgn l 0 with
    | none => none
    | some (c, n) => some (fromTo c c, n)
def emptyS (S : Nat → Bool) : Bool := (List.range 256).all fun b => !S b
def cls (l : List UInt8) : Option ((Nat → Bool) × Nat) :=
  match cls0 l with
  | none => none
  | some (S, e) => if emptyS S = true then none else some (S, e)
end Go.E
set_option linter.unusedVariables false
set_option linter.unusedSimpArgs false
namespace Go.E
open Go.H
attribute [local irreducible] BiN MkS ConvN LookN MapUpN CallV HC limb dbTab
abbrev z4 : Array Value := #[.int .u64 0, .int .u64 0, .int .u64 0, .int .u64 0]
/-- A result's own place, while the reader goes on. -/
structure Cel (m mm : Mem) (r b : Nat) (c : Array Value) : Prop where
  at_ : mm b = some (.cells c T_api_Set (0, 0))
  ne : b ≠ r
  new : m b = none
  ch : Chg (fun x => x = r) m mm
theorem Cel.mk0 {m : Mem} {r b : Nat} {c : Array Value} (hr : m r ≠ none) (hb : m b = none) : Cel m (m.set b (.cells c T_api_Set (0, 0))) r b c :=
  ⟨set_same _ _ _, fun e => hr (e ▸ hb), hb, (Le.set hb _).chg _⟩
theorem Cel.step {m mm m' : Mem} {r b : Nat} {c : Array Value} (h : Cel m mm r b c) (k : Chg (fun x => x = r) mm m') : Cel m m' r b c :=
  ⟨k.eq _ _ h.at_ h.ne, h.ne, h.new, h.ch.trans k (fun _ _ e => e)⟩
theorem Cel.le {m mm m' : Mem} {r b : Nat} {c : Array Value} (h : Cel m mm r b c) (k : Le mm m') : Cel m m' r b c := h.step (k.chg _)
theorem Cel.put {m mm : Mem} {r b : Nat} {c : Array Value} (h : Cel m mm r b c) (c' : Array Value) : Cel m (mm.set b (.cells c' T_api_Set (0, 0))) r b c' := by
  refine ⟨set_same _ _ _, h.ne, h.new, ?_⟩
  refine ⟨fun x o hx hn => ?_, fun x hx => ?_⟩
  · have : x ≠ b := fun e => by subst e; rw [h.new] at hx; cases hx
    rw [set_other _ _ this]
    exact h.ch.eq x o hx hn
  · by_cases e : x = b
    · subst e; rw [set_same]; simp
    · rw [set_other _ _ e]; exact h.ch.live x hx
end Go.E
set_option linter.unusedVariables false
set_option linter.unusedSimpArgs false
namespace Go.E
open Go.H
attribute [local irreducible] BiN MkS ConvN LookN MapUpN CallV HC limb dbTab
/-- Three results under way. -/
structure PS (m mm : Mem) (b2 b3 b4 : Nat) (c2 : Array Value) (n e : Int) : Prop where
  le : Le m mm
  a2 : mm b2 = some (.cells c2 T_api_Set (0, 0))
  a3 : mm b3 = some (.cells #[.int .i64 n] T_int (0, 0))
  a4 : mm b4 = some (.cells #[.int .i64 e] T_api_Errno (0, 0))
  n23 : b2 ≠ b3
  n24 : b2 ≠ b4
  n34 : b3 ≠ b4
  w2 : m b2 = none
  w3 : m b3 = none
  w4 : m b4 = none
section
variable {m mm m' : Mem} {b2 b3 b4 : Nat} {c2 : Array Value} {n e : Int}
theorem PS.step (h : PS m mm b2 b3 b4 c2 n e) {r : Nat} (hr : m r = none) (h2 : b2 ≠ r) (h3 : b3 ≠ r) (h4 : b4 ≠ r) (k : Chg (fun b => b = r) mm m') : PS m m' b2 b3 b4 c2 n e :=
  ⟨k.to_le h.le (fun b x => by rw [show b = r from x]; exact hr), k.eq _ _ h.a2 h2, k.eq _ _ h.a3 h3, k.eq _ _ h.a4 h4, h.n23, h.n24, h.n34, h.w2, h.w3, h.w4⟩
theorem PS.mono (h : PS m mm b2 b3 b4 c2 n e) (k : Le mm m') : PS m m' b2 b3 b4 c2 n e :=
  ⟨h.le.trans k, k _ _ h.a2, k _ _ h.a3, k _ _ h.a4, h.n23, h.n24, h.n34, h.w2, h.w3, h.w4⟩
theorem PS.p2 (h : PS m mm b2 b3 b4 c2 n e) (c : Array Value) : PS m (mm.set b2 (.cells c T_api_Set (0, 0))) b2 b3 b4 c n e :=
  ⟨Chg.to_le (Chg.set mm _ _) h.le (fun b x => by rw [show b = b2 from x]; exact h.w2), set_same _ _ _, by rw [set_other _ _ h.n23.symm]; exact h.a3, by rw [set_other _ _ h.n24.symm]; exact h.a4, h.n23, h.n24, h.n34, h.w2, h.w3, h.w4⟩
theorem PS.p4 (h : PS m mm b2 b3 b4 c2 n e) (c : Int) : PS m (mm.set b4 (.cells #[.int .i64 c] T_api_Errno (0, 0))) b2 b3 b4 c2 n c :=
  ⟨Chg.to_le (Chg.set mm _ _) h.le (fun b x => by rw [show b = b4 from x]; exact h.w4), by rw [set_other _ _ h.n24]; exact h.a2, by rw [set_other _ _ h.n34]; exact h.a3, set_same _ _ _, h.n23, h.n24, h.n34, h.w2, h.w3, h.w4⟩
end
theorem empty_all {S : Nat → Bool} (h : emptyS S = true) : ∀ b, b < 256 → S b = false := by
  intro b hb
  unfold emptyS at h
  rw [List.all_eq_true] at h
  have := h b (by simpa using hb)
  simpa using this
theorem empty_ex {S : Nat → Bool} (h : ¬ emptyS S = true) : ∃ t, t < 256 ∧ S t = true ∧ ∀ j, j < t → S j = false := by
  have hex : ∃ t, t < 256 ∧ S t = true := by
    apply Decidable.byContradiction
    intro hn
    refine h ?_
    unfold emptyS
    rw [List.all_eq_true]
    intro b hb
    have hb : b < 256 := by simpa using hb
    cases hS : S b with
    | false => rfl
    | true => exact absurd ⟨b, hb, hS⟩ hn
  obtain ⟨t, ht⟩ := hex
  obtain ⟨k, hk, hm⟩ := least (p := fun t => t < 256 ∧ S t = true) ht
  refine ⟨k, hk.1, hk.2, fun j hj => ?_⟩
  have := hm j hj
  cases hS : S j with
  | false => rfl
  | true => exact absurd ⟨by omega, hS⟩ this
theorem ContTB.mk {a : Int} {b : Bool} {K : Int → Bool → Mem → Prop} {Pn : List PanicEntry → Mem → Prop} {m : Mem} (k : K a b m) :
    Cont (fun v m => UnTup v fun us0 => UnCons us0 fun w us1 => UnI w .u8 fun x0 => UnCons us1 fun w us2 => UnB w fun x1 => UnNil us2 (K x0 x1 m)) Pn (.returned (.tuple #[.int .u8 a, .bool b])) m := k
end Go.E
set_option linter.unusedVariables false
set_option linter.unusedSimpArgs false
set_option maxRecDepth 20000
namespace Go.E
open Go.H
attribute [local irreducible] BiN MkS ConvN LookN MapUpN CallV HC limb dbTab
/-- The bytes below k of a set. -/
def flt (f : Nat → Bool) (k : Nat) : List UInt8 := ((List.range k).filter f).map UInt8.ofNat
theorem flt_succ (f : Nat → Bool) (k : Nat) : flt f (k + 1) = if f k = true then flt f k ++ [UInt8.ofNat k] else flt f k := by
  unfold flt
  rw [List.range_succ, List.filter_append]
  cases h : f k <;> simp [h]
theorem flt_len (f : Nat → Bool) (k : Nat) : (flt f k).length ≤ k := by
  unfold flt
  rw [List.length_map]
  exact Nat.le_trans (List.length_filter_le _ _) (by simp)
theorem inB_flt {f : Nat → Bool} {k : Nat} (h : k ≤ 256) (c : Nat) : inB (flt f k) c = (decide (c < k) && f c) := by
  induction k with
  | zero => simp [flt, inB]
  | succ k ih =>
    have ih := ih (by omega)
    have hk : (UInt8.ofNat k).toNat = k := by rw [UInt8.toNat_ofNat']; omega
    rw [flt_succ]
    cases hf : f k with
    | false =>
      simp only [Bool.false_eq_true, if_false]
      rw [ih, Bool.eq_iff_iff]
      simp only [Bool.and_eq_true, decide_eq_true_eq]
      constructor
      · rintro ⟨h1, h2⟩; exact ⟨by omega, h2⟩
      · rintro ⟨h1, h2⟩
        refine ⟨?_, h2⟩
        have : c ≠ k := fun e => by subst e; rw [hf] at h2; cases h2
        omega
    | true =>
      simp only [if_true]
      have e : inB (flt f k ++ [UInt8.ofNat k]) c = (inB (flt f k) c || c == k) := by
        unfold inB
        rw [List.any_append, List.any_cons, List.any_nil, hk, Bool.or_false]
      rw [e, ih, Bool.eq_iff_iff]
      simp only [Bool.or_eq_true, Bool.and_eq_true, decide_eq_true_eq, beq_iff_eq]
      constructor
      · rintro (⟨h1, h2⟩ | rfl)
        · exact ⟨by omega, h2⟩
        · exact ⟨by omega, hf⟩
      · rintro ⟨h1, h2⟩
        by_cases e : c = k
        · exact .inr e
        · exact .inl ⟨by omega, h2⟩
theorem setv_flt (f : Nat → Bool) : setv (inB (flt f 256)) = setv f := setv_eq fun c hc => by rw [inB_flt (Nat.le_refl _)]; simp [hc]
theorem u8w {k : Nat} (h : k < 256) : IntKind.u8.wrap (k : Int) = (k : Int) := by rw [IntKind.wrap_u8]; omega
theorem u8n {k : Nat} (h : k < 256) : (k : Int) = (((UInt8.ofNat k).toNat : Nat) : Int) := by rw [UInt8.toNat_ofNat']; omega
theorem RNot_spec {f : Nat → Bool} {m : Mem} {R : Ending → Mem → Prop} (h : ∀ m', Le m m' → R (.returned (setv fun b => !f b)) m') : HC P eyotref8_Not.id #[setv f] m R := by
  refine eyotref8_Not.ok _ _ _ _ _ _ ?_
  intro ba hba b2 hb2
  have hne : b2 ≠ ba := fun e => by subst e; rw [set_same] at hb2; cases hb2
  have hm2 : m b2 = none := by rw [set_other _ _ hne] at hb2; exact hb2
  have hle0 := (Le.set hba (.cells (cells4 f) T_api_Set (0, 0))).trans (Le.set hb2 (.cells z4 T_api_Set (0, 0)))
  have ea : ((m.set ba (.cells (cells4 f) T_api_Set (0, 0))).set b2 (.cells z4 T_api_Set (0, 0))) ba = some (.cells (cells4 f) T_api_Set (0, 0)) := by rw [set_other _ _ hne.symm, set_same]
  have e2 : ((m.set ba (.cells (cells4 f) T_api_Set (0, 0))).set b2 (.cells z4 T_api_Set (0, 0))) b2 = some (.cells z4 T_api_Set (0, 0)) := set_same _ _ _
  generalize ((m.set ba (.cells (cells4 f) T_api_Set (0, 0))).set b2 (.cells z4 T_api_Set (0, 0))) = ms at hle0 ea e2
  refine ⟨fun N a1b a1o x2b x2o la ll lc i mm => a1b = ba ∧ a1o = 0 ∧ x2b = b2 ∧ x2o = 0 ∧ ∃ k : Nat, i = k ∧ N = 256 - k ∧ k ≤ 256 ∧ RwB ms mm la ll lc (flt (fun b => !f b) k), 256, ⟨rfl, rfl, rfl, rfl, 0, rfl, rfl, by omega, RwB.nil (Le.refl _)⟩, ?_⟩
  rintro N a1b a1o x2b x2o la ll lc i mm ⟨rfl, rfl, rfl, rfl, k, rfl, rfl, hk, hr⟩
  have hl := hr.len
  have hl2 := flt_len (fun b => !f b) k
  refine BrD (fun hlt => ?_) (fun hge => ?_)
  · refine get4 (hr.le _ _ ea) ?_
    rw [u8w (by omega)]
    refine RHas_spec (by omega) ?_
    intro m1 hle1
    have hr1 := hr.mono hle1
    dsimp only [Cont]
    refine UnB.mk ?_
    have w : IntKind.i64.wrap ((k : Int) + 1) = ((k + 1 : Nat) : Int) := by rw [wi (by omega) (by omega)]; omega
    refine Br.mk (fun hb => ?_) (fun hb => ?_)
    · rw [u8n (k := k) (by omega)]
      refine hr1.push _ (by omega) ?_
      intro a' c' m' hr'
      refine UnS.mk ?_
      refine ⟨_, ?_, rfl, rfl, rfl, rfl, k + 1, ?_, rfl, by omega, by rw [flt_succ, if_pos hb]; exact hr'⟩
      · omega
      · rw [← u8n (by omega), w]
    · refine ⟨_, ?_, rfl, rfl, rfl, rfl, k + 1, w, rfl, by omega, by rw [flt_succ, if_neg (by rw [hb]; simp)]; exact hr1⟩
      omega
  · have : k = 256 := by omega
    subst this
    refine ROf_spec hr.own.cells hl (by omega) ?_
    intro m' hle
    refine ContSet.mk ?_
    refine out4 (hle _ _ (hr.le _ _ e2)) ?_
    show R (.returned (setv (inB (flt (fun b => !f b) 256)))) _
    rw [setv_flt]
    exact h _ (Chg.to_le (Chg.set m' x2b _) ((hle0.trans hr.le).trans hle) (fun b e => by rw [show b = x2b from e]; exact hm2))
theorem eq4 (f g : Nat → Bool) : (eqL [.int .u64 (L f 0), .int .u64 (L f 1), .int .u64 (L f 2), .int .u64 (L f 3)] [.int .u64 (L g 0), .int .u64 (L g 1), .int .u64 (L g 2), .int .u64 (L g 3)] = true) ↔ ∀ b, b < 256 → f b = g b := by
  have e : eqL [.int .u64 (L f 0), .int .u64 (L f 1), .int .u64 (L f 2), .int .u64 (L f 3)] [.int .u64 (L g 0), .int .u64 (L g 1), .int .u64 (L g 2), .int .u64 (L g 3)] =
      (L f 0 == L g 0 && (L f 1 == L g 1 && (L f 2 == L g 2 && (L f 3 == L g 3 && true)))) := rfl
  rw [e]
  simp only [Bool.and_eq_true, beq_iff_eq, and_true]
  constructor
  · rintro ⟨h0, h1, h2, h3⟩; exact L_inj h0 h1 h2 h3
  · intro h
    exact ⟨L_congr fun j hj => h _ (by omega), L_congr fun j hj => h _ (by omega), L_congr fun j hj => h _ (by omega), L_congr fun j hj => h _ (by omega)⟩
theorem eq4_zero (f : Nat → Bool) : eqL [.int .u64 (L f 0), .int .u64 (L f 1), .int .u64 (L f 2), .int .u64 (L f 3)] [.int .u64 0, .int .u64 0, .int .u64 0, .int .u64 0] = emptyS f := by
  have h := eq4 f fun _ => false
  rw [L_zero, L_zero, L_zero, L_zero] at h
  rw [Bool.eq_iff_iff, h]
  unfold emptyS
  simp
end Go.E
set_option linter.unusedVariables false
set_option linter.unusedSimpArgs false
set_option maxRecDepth 20000
namespace Go.E
open Go.H
attribute [local irreducible] BiN MkS ConvN LookN MapUpN CallV HC limb dbTab
theorem ContTI.mk {a b : Int} {K : Int → Int → Mem → Prop} {Pn : List PanicEntry → Mem → Prop} {m : Mem} (k : K a b m) :
    Cont (fun v m => UnTup v fun us0 => UnCons us0 fun w us1 => UnI w .u8 fun x0 => UnCons us1 fun w us2 => UnI w .i64 fun x1 => UnNil us2 (K x0 x1 m)) Pn (.returned (.tuple #[.int .u8 a, .int .i64 b])) m := k
end Go.E
set_option linter.unusedVariables false
set_option linter.unusedSimpArgs false
set_option maxRecDepth 20000
namespace Go.E
open Go.H
attribute [local irreducible] BiN MkS ConvN LookN MapUpN CallV HC limb dbTab
/-- a digit of sixteen -/
def hexd (k : Nat) : UInt8 := if k < 10 then UInt8.ofNat (48 + k) else UInt8.ofNat (87 + k)
/-- A byte's sign. -/
def sgT (c : Nat) : List UInt8 :=
  if c < 33 ∨ 126 < c then [92, 120, hexd (c / 16), hexd (c % 16)]
  else if isSp c = true then [92, UInt8.ofNat c] else [UInt8.ofNat c]
/-- How a run is shown. -/
def shT (a b : Nat) : List UInt8 := if b = a then sgT a else if b = a + 1 then sgT a ++ sgT b else sgT a ++ ([45] ++ sgT b)
end Go.E
set_option linter.unusedVariables false
set_option linter.unusedSimpArgs false
set_option maxRecDepth 20000
namespace Go.E
open Go.H
attribute [local irreducible] BiN MkS ConvN LookN MapUpN CallV HC limb dbTab
/-- One more byte. -/
def runS (l : List (Nat × Nat)) (k : Nat) : List (Nat × Nat) :=
  match l.getLast? with
  | some (a, b) => if b + 1 = k then l.dropLast ++ [(a, k)] else l ++ [(k, k)]
  | none => [(k, k)]
def runL (f : Nat → Bool) : Nat → List (Nat × Nat)
  | 0 => []
  | k + 1 => if f k = true then runS (runL f k) k else runL f k
theorem runS_nil (k : Nat) : runS [] k = [(k, k)] := rfl
theorem runS_snoc (l : List (Nat × Nat)) (a b k : Nat) : runS (l ++ [(a, b)]) k = if b + 1 = k then l ++ [(a, k)] else (l ++ [(a, b)]) ++ [(k, k)] := by
  unfold runS
  rw [List.getLast?_append]
  simp
theorem run_ok (f : Nat → Bool) : ∀ k, ∀ p ∈ runL f k, p.1 ≤ p.2 ∧ p.2 < k
  | 0 => by simp [runL]
  | k + 1 => by
    have ih := run_ok f k
    intro p hp
    unfold runL at hp
    split at hp
    · rcases List.eq_nil_or_concat (runL f k) with h | ⟨l0, ⟨a, b⟩, h⟩
      · rw [h, runS_nil] at hp
        simp at hp; subst hp; simp
      · rw [List.concat_eq_append] at h
        rw [h] at hp ih
        rw [runS_snoc] at hp
        have hab := ih (a, b) (by simp)
        split at hp
        · rcases List.mem_append.mp hp with h1 | h1
          · have := ih p (by simp [h1]); omega
          · simp at h1; subst h1; simp; simp at hab; omega
        · rcases List.mem_append.mp hp with h1 | h1
          · have := ih p h1; omega
          · simp at h1; subst h1; simp
    · have := ih p hp; omega
end Go.E
set_option linter.unusedVariables false
set_option linter.unusedSimpArgs false
set_option maxRecDepth 20000
namespace Go.E
open Go.H
attribute [local irreducible] BiN MkS ConvN LookN MapUpN CallV HC limb dbTab
def joinR (rs : List (Nat × Nat)) : List UInt8 := rs.flatMap fun p => shT p.1 p.2
def fullS (f : Nat → Bool) : Bool := emptyS fun b => !f b
def brk (rs : List (Nat × Nat)) : List UInt8 := ([91] ++ joinR rs) ++ [93]
/-- How a set is shown. -/
def shW (f : Nat → Bool) : List UInt8 :=
  if (runL f 256).length = 0 then []
  else if fullS f = true then [46]
  else match runL f 256 with
    | [(a, b)] => if a = b then sgT a else brk [(a, b)]
    | rs => brk rs
end Go.E
set_option linter.unusedVariables false
set_option linter.unusedSimpArgs false
set_option maxRecDepth 20000
namespace Go.E.Rg
open Go.H Go.E
inductive Rx where
  | mk (k : Int) (S : Nat → Bool) (ps : List Rx)
def Rx.k : Rx → Int | .mk k _ _ => k
def Rx.S : Rx → Nat → Bool | .mk _ S _ => S
def Rx.ps : Rx → List Rx | .mk _ _ ps => ps
theorem Rx.ind {C : Rx → Prop} (h : ∀ k S ps, (∀ a ∈ ps, C a) → C (.mk k S ps)) (r : Rx) : C r :=
  Rx.rec (motive_1 := C) (motive_2 := fun ps => ∀ a ∈ ps, C a) (fun k S ps ih => h k S ps ih) (fun a h => by cases h)
    (fun r rs h1 h2 a ha => by rcases List.mem_cons.mp ha with e | e; exact e ▸ h1; exact h2 a e) r
def noS : Nat → Bool := fun _ => false
def rx0 : Rx := .mk 0 noS []
def sgK (k : Int) : Bool := decide (4 ≤ k) && decide (k ≤ 6)
mutual
def form : Rx → Bool
  | .mk k S ps =>
    if k = 1 then ps.isEmpty && !emptyS S
    else if emptyS S = false then false
    else if k = 2 ∨ k = 3 then decide (2 ≤ ps.length) && formL k ps
    else if sgK k = true then decide (ps.length = 1) && !(ps.any fun a => sgK a.k) && formL k ps
    else false
def formL (k : Int) : List Rx → Bool
  | [] => true
  | r :: rs => (decide (r.k ≠ k) && form r) && formL k rs
end
mutual
def nodes : Rx → Nat
  | .mk _ _ ps => nodesL ps + 1
def nodesL : List Rx → Nat
  | [] => 0
  | r :: rs => nodes r + nodesL rs
end
mutual
def depth : Rx → Nat
  | .mk _ _ ps => depthL ps + 1
def depthL : List Rx → Nat
  | [] => 0
  | r :: rs => max (depth r) (depthL rs)
end
def may (r : Rx) : Int := if form r = true then (if 40 < nodes r ∨ 12 < depth r then 6 else 0) else 2
def rank (k : Int) : Int := if k = 3 then 0 else if k = 2 then 1 else if k = 1 then 3 else 2
def joinBar : List (List UInt8) → List UInt8
  | [] => []
  | [x] => x
  | x :: y :: r => x ++ 124 :: joinBar (y :: r)
def sgB (k : Int) : UInt8 := if k = 4 then 42 else if k = 5 then 43 else 63
mutual
def shw : Rx → List UInt8
  | .mk k S ps =>
    if k = 1 then shW S
    else if k = 3 then joinBar (shwL (rank k + 1) ps)
    else if sgK k = true then (shwL (rank k + 1) ps).flatten ++ [sgB k]
    else (shwL (rank k + 1) ps).flatten
def shwL (least : Int) : List Rx → List (List UInt8)
  | [] => []
  | r :: rs => (if rank r.k < least then 40 :: shw r ++ [41] else shw r) :: shwL least rs
end
mutual
def null : Rx → Bool
  | .mk k _ ps =>
    if k = 4 ∨ k = 6 then true
    else if k = 2 ∨ k = 5 then nullA ps
    else if k = 3 then nullE ps
    else false
def nullA : List Rx → Bool
  | [] => true
  | r :: rs => null r && nullA rs
def nullE : List Rx → Bool
  | [] => false
  | r :: rs => null r || nullE rs
end
def orL (a b : List Bool) : List Bool := List.zipWith (fun x y => x || y) a b
def newL (out l : List Bool) : Bool := (List.zipWith (fun x y => y && !x) out l).any id
def setE (S : Nat → Bool) (w : List UInt8) (at_ : List Bool) : List Bool := false :: List.zipWith (fun a (c : UInt8) => a && S c.toNat) at_ w
def manyE (f : List Bool → List Bool) : Nat → List Bool → List Bool → List Bool
  | 0, out, _ => out
  | n + 1, out, more => if newL out more = true then manyE f n (orL out more) (f more) else orL out more
mutual
def ends (w : List UInt8) : Rx → List Bool → List Bool
  | .mk k S ps, at_ =>
    if k = 1 then setE S w at_
    else if k = 2 then endsC w ps at_
    else if k = 3 then endsA w ps at_ (List.replicate (w.length + 1) false)
    else if k = 6 then orL (orL (List.replicate (w.length + 1) false) at_) (ends1 w ps at_)
    else manyE (ends1 w ps) (w.length + 1) (if k = 4 then orL (List.replicate (w.length + 1) false) at_ else List.replicate (w.length + 1) false) (ends1 w ps at_)
def endsC (w : List UInt8) : List Rx → List Bool → List Bool
  | [], at_ => at_
  | r :: rs, at_ => endsC w rs (ends w r at_)
def endsA (w : List UInt8) : List Rx → List Bool → List Bool → List Bool
  | [], _, out => out
  | r :: rs, at_, out => endsA w rs at_ (orL out (ends w r at_))
def ends1 (w : List UInt8) : List Rx → List Bool → List Bool
  | [], at_ => at_
  | r :: _, at_ => ends w r at_
end
abbrev Res := Except Int (Rx × List UInt8)
def one (k : Int) (l : List Rx) : Rx := match l with | [x] => x | _ => .mk k noS l
def sgI (c : UInt8) : Option Int := if c = 42 then some 4 else if c = 43 then some 5 else if c = 63 then some 6 else none
def atomF (alt : Nat → List UInt8 → Res) (d : Nat) (s : List UInt8) : Res :=
  match s with
  | 40 :: s' => if 13 ≤ d then .error 6 else match alt (d + 1) s' with
    | .ok (x, 41 :: s'') => .ok (x, s'')
    | .ok _ => .error 2
    | .error e => .error e
  | s => match cls s with
    | some (S, n) => .ok (.mk 1 S [], s.drop n)
    | none => .error 2
def repF (alt : Nat → List UInt8 → Res) (d : Nat) (s : List UInt8) : Res :=
  match atomF alt d s with
  | .ok (x, c :: s') => match sgI c with
    | some k => .ok (.mk k noS [x], s')
    | none => .ok (x, c :: s')
  | r => r
def catL (alt : Nat → List UInt8 → Res) (d : Nat) : Nat → List Rx → List UInt8 → Except Int (List Rx × List UInt8)
  | 0, l, s => .error 0
  | n + 1, l, s => match s with
    | [] => .ok (l, s)
    | c :: _ => if c = 124 ∨ c = 41 then .ok (l, s) else match repF alt d s with
      | .ok (x, s') => catL alt d n (l ++ [x]) s'
      | .error e => .error e
def catF (alt : Nat → List UInt8 → Res) (d : Nat) (s : List UInt8) : Res :=
  match repF alt d s with
  | .ok (x, s') => match catL alt d (s'.length + 1) [x] s' with
    | .ok (l, s'') => .ok (one 2 l, s'')
    | .error e => .error e
  | .error e => .error e
def altL (alt : Nat → List UInt8 → Res) (d : Nat) : Nat → List Rx → List UInt8 → Except Int (List Rx × List UInt8)
  | 0, l, s => .error 0
  | n + 1, l, s => match s with
    | 124 :: s' => match catF alt d s' with
      | .ok (x, s'') => altL alt d n (l ++ [x]) s''
      | .error e => .error e
    | s => .ok (l, s)
def altF (alt : Nat → List UInt8 → Res) (d : Nat) (s : List UInt8) : Res :=
  match catF alt d s with
  | .ok (x, s') => match altL alt d (s'.length + 1) [x] s' with
    | .ok (l, s'') => .ok (one 3 l, s'')
    | .error e => .error e
  | .error e => .error e
def pAlt : Nat → Nat → List UInt8 → Res
  | 0 => fun _ _ => .error 6
  | n + 1 => altF (pAlt n)
def parse (s : List UInt8) : Except Int Rx :=
  match pAlt 14 0 s with
  | .ok (x, []) => if may x = 0 then .ok x else .error (may x)
  | .ok _ => .error 2
  | .error e => .error e
end Go.E.Rg
set_option linter.unusedVariables false
set_option linter.unusedSimpArgs false
set_option maxRecDepth 20000
namespace Go.E
open Go.H
attribute [local irreducible] BiN MkS ConvN LookN MapUpN CallV HC limb dbTab
/-- A law's end: true, and nothing turned. -/
def Fine (m : Mem) : Ending → Mem → Prop := fun e m' => e = .returned (.bool true) ∧ Le m m'
theorem ContP.mk {u0 u1 u2 u3 n e : Int} {K : Int → Int → Int → Int → Int → Int → Mem → Prop} {Pn : List PanicEntry → Mem → Prop} {m : Mem} (k : K u0 u1 u2 u3 n e m) :
    Cont (fun v m => UnTup v fun us0 => UnCons us0 fun w us1 => UnAgg w fun l => UnCons l fun v l => UnI v .u64 fun x0 => UnCons l fun v l => UnI v .u64 fun x1 => UnCons l fun v l => UnI v .u64 fun x2 => UnCons l fun v l => UnI v .u64 fun x3 => UnNil l (
      UnCons us1 fun w us2 => UnI w .i64 fun n => UnCons us2 fun w us3 => UnI w .i64 fun e => UnNil us3 (K x0 x1 x2 x3 n e m))) Pn
      (.returned (.tuple #[.agg #[.int .u64 u0, .int .u64 u1, .int .u64 u2, .int .u64 u3], .int .i64 n, .int .i64 e])) m := k
end Go.E
set_option linter.unusedVariables false
set_option linter.unusedSimpArgs false
set_option maxRecDepth 20000
namespace Go.E
open Go.H
attribute [local irreducible] BiN MkS ConvN LookN MapUpN CallV HC limb dbTab
theorem nx_drop (l : List UInt8) (i k : Nat) : nx (l.drop i) k = nx l (i + k) := by
  unfold nx
  rw [List.getD_eq_getElem?_getD, List.getD_eq_getElem?_getD, List.getElem?_drop]
theorem sgn_drop (l : List UInt8) (i : Nat) : sgn l i = (sgn (l.drop i) 0).map fun p => (p.1, i + p.2) := by
  by_cases hi : l.length ≤ i
  · unfold sgn
    rw [if_pos hi, if_pos (by rw [List.length_drop]; omega)]; rfl
  · unfold sgn
    simp only [nx_drop, List.length_drop, Nat.zero_add, Nat.add_zero]
    have e0 : (l.length - i ≤ 0) ↔ (l.length ≤ i) := by omega
    have e1 : (l.length - i ≤ 1) ↔ (l.length ≤ i + 1) := by omega
    have e2 : (l.length - i ≤ 2) ↔ (l.length ≤ i + 2) := by omega
    have e3 : (l.length - i ≤ 3) ↔ (l.length ≤ i + 3) := by omega
    simp only [e0, e1, e2, e3, if_neg hi]
    split
    · split <;> simp
    · split
      · rfl
      · split
        · split <;> simp
        · split <;> simp
theorem sgn_at {l t rest : List UInt8} {i c n : Nat} (h : l.drop i = t ++ rest) (k : sgn (t ++ rest) 0 = some (c, n)) : sgn l i = some (c, i + n) := by
  rw [sgn_drop, h, k]; rfl
/-- A sign in sixteens. -/
def hx (c : Nat) : List UInt8 := [92, 120, hexd (c / 16), hexd (c % 16)]
theorem dig_hexd : ∀ k, k < 16 → dig (hexd k).toNat = k := by decide +kernel
theorem sgn_hx {c : Nat} (hc : c < 256) (rest : List UInt8) : sgn (hx c ++ rest) 0 = some (c, 4) := by
  unfold sgn hx
  have d1 := dig_hexd (c / 16) (by omega)
  have d2 := dig_hexd (c % 16) (by omega)
  have n0 : nx (([92, 120, hexd (c / 16), hexd (c % 16)] : List UInt8) ++ rest) 0 = 92 := rfl
  have n1 : nx (([92, 120, hexd (c / 16), hexd (c % 16)] : List UInt8) ++ rest) (0 + 1) = 120 := rfl
  have n2 : nx (([92, 120, hexd (c / 16), hexd (c % 16)] : List UInt8) ++ rest) (0 + 2) = (hexd (c / 16)).toNat := rfl
  have n3 : nx (([92, 120, hexd (c / 16), hexd (c % 16)] : List UInt8) ++ rest) (0 + 3) = (hexd (c % 16)).toNat := rfl
  rw [n0, n1, n2, n3, d1, d2]
  have hl : (([92, 120, hexd (c / 16), hexd (c % 16)] : List UInt8) ++ rest).length = rest.length + 4 := by simp
  rw [hl, if_neg (by omega), if_neg (by simp), if_neg (by omega), if_pos rfl, if_neg (by omega)]
  have : c / 16 * 16 + c % 16 = c := by omega
  rw [this]
theorem toNat_of {c : Nat} (hc : c < 256) : (UInt8.ofNat c).toNat = c := by simp [UInt8.toNat_ofNat']; omega
theorem isSp120 : isSp 120 = false := by decide
theorem isSp92 : isSp 92 = true := by decide
theorem sgn_sgT {c : Nat} (hc : c < 256) (rest : List UInt8) : sgn (sgT c ++ rest) 0 = some (c, (sgT c).length) := by
  unfold sgT
  by_cases h1 : c < 33 ∨ 126 < c
  · rw [if_pos h1]; exact sgn_hx hc rest
  rw [if_neg h1]
  by_cases h2 : isSp c = true
  · rw [if_pos h2]
    unfold sgn
    have n0 : nx (([92, UInt8.ofNat c] : List UInt8) ++ rest) 0 = 92 := rfl
    have n1 : nx (([92, UInt8.ofNat c] : List UInt8) ++ rest) (0 + 1) = c := toNat_of hc
    have hl : (([92, UInt8.ofNat c] : List UInt8) ++ rest).length = rest.length + 2 := by simp
    have hx : c ≠ 120 := by rintro rfl; rw [isSp120] at h2; cases h2
    rw [n0, n1, hl, if_neg (by omega), if_neg (by simp), if_neg (by omega), if_neg hx, if_pos h2]
    rfl
  · rw [if_neg h2]
    unfold sgn
    have n0 : nx (([UInt8.ofNat c] : List UInt8) ++ rest) 0 = c := toNat_of hc
    have hl : (([UInt8.ofNat c] : List UInt8) ++ rest).length = rest.length + 1 := by simp
    have hx : c ≠ 92 := by rintro rfl; rw [isSp92] at h2; exact h2 rfl
    have hn : ¬(c < 33 ∨ 126 < c ∨ isSp c = true) := by
      rintro (h | h | h)
      · exact h1 (.inl h)
      · exact h1 (.inr h)
      · exact h2 h
    rw [n0, hl, if_neg (by omega), if_pos hx, if_neg hn]
    rfl
theorem sgT_first {c : Nat} (hc : c < 256) (rest : List UInt8) : nx (sgT c ++ rest) 0 ≠ 45 ∧ nx (sgT c ++ rest) 0 ≠ 93 ∧ nx (sgT c ++ rest) 0 ≠ 94 ∧ nx (sgT c ++ rest) 0 ≠ 46 ∧ nx (sgT c ++ rest) 0 ≠ 91 := by
  unfold sgT
  split
  · rw [show nx (([92, 120, hexd (c / 16), hexd (c % 16)] : List UInt8) ++ rest) 0 = 92 from rfl]; omega
  split
  · rw [show nx (([92, UInt8.ofNat c] : List UInt8) ++ rest) 0 = 92 from rfl]; omega
  · rename_i h
    rw [show nx (([UInt8.ofNat c] : List UInt8) ++ rest) 0 = c from toNat_of hc]
    refine ⟨?_, ?_, ?_, ?_, ?_⟩ <;> (rintro rfl; exact h (by decide))
/-- A text that reads as a part, behind anything and ahead of all that is no stroke. -/
structure PT (t : List UInt8) (a b : Nat) : Prop where
  len : 1 ≤ t.length
  first : ∀ rest, nx (t ++ rest) 0 ≠ 45 ∧ nx (t ++ rest) 0 ≠ 93 ∧ nx (t ++ rest) 0 ≠ 94
  read : ∀ l i rest, l.drop i = t ++ rest → nx rest 0 ≠ 45 → prt l i = some ((a, b), i + t.length)
theorem drop_more {l t rest : List UInt8} {i : Nat} (h : l.drop i = t ++ rest) : l.drop (i + t.length) = rest := by
  rw [← List.drop_drop, h, List.drop_left]
theorem nx_rest {l t rest : List UInt8} {i : Nat} (h : l.drop i = t ++ rest) : nx l (i + t.length) = nx rest 0 := by
  rw [← drop_more h, nx_drop]; rfl
theorem PT.one {t : List UInt8} {c : Nat} (hl : 1 ≤ t.length) (hf : ∀ rest, nx (t ++ rest) 0 ≠ 45 ∧ nx (t ++ rest) 0 ≠ 93 ∧ nx (t ++ rest) 0 ≠ 94)
    (hr : ∀ rest, sgn (t ++ rest) 0 = some (c, t.length)) : PT t c c where
  len := hl
  first := hf
  read l i rest h hn := by
    unfold prt
    rw [sgn_at h (hr rest)]
    dsimp only
    rw [nx_rest h, if_pos hn]
theorem PT.two {t u : List UInt8} {a b : Nat} (hab : a ≤ b) (hl : 1 ≤ t.length) (hf : ∀ rest, nx (t ++ rest) 0 ≠ 45 ∧ nx (t ++ rest) 0 ≠ 93 ∧ nx (t ++ rest) 0 ≠ 94)
    (ht : ∀ rest, sgn (t ++ rest) 0 = some (a, t.length)) (hu : ∀ rest, sgn (u ++ rest) 0 = some (b, u.length)) : PT (t ++ ([45] ++ u)) a b where
  len := by simp; omega
  first rest := by rw [List.append_assoc]; exact hf _
  read l i rest h hn := by
    rw [List.append_assoc] at h
    unfold prt
    rw [sgn_at h (ht _)]
    dsimp only
    have h2 := drop_more h
    have n1 : nx l (i + t.length) = 45 := by rw [nx_rest h]; rfl
    rw [n1, if_neg (by simp)]
    have h3 : l.drop (i + t.length + 1) = u ++ rest := by rw [← List.drop_drop, h2]; rfl
    rw [sgn_at h3 (hu _)]
    dsimp only
    rw [if_neg (by omega)]
    simp only [List.length_append, List.length_cons, List.length_nil]
    congr 2
    omega
theorem hx_first (c : Nat) (rest : List UInt8) : nx (hx c ++ rest) 0 ≠ 45 ∧ nx (hx c ++ rest) 0 ≠ 93 ∧ nx (hx c ++ rest) 0 ≠ 94 := by
  rw [show nx (hx c ++ rest) 0 = 92 from rfl]; omega
theorem sgT_len1 (c : Nat) : 1 ≤ (sgT c).length := by unfold sgT; split <;> (try split) <;> simp
theorem PT.hx {c : Nat} (hc : c < 256) : PT (hx c) c c := .one (by unfold Go.E.hx; simp) (hx_first c) (sgn_hx hc)
theorem PT.sg {c : Nat} (hc : c < 256) : PT (sgT c) c c := .one (sgT_len1 c) (fun r => ⟨(sgT_first hc r).1, (sgT_first hc r).2.1, (sgT_first hc r).2.2.1⟩) (sgn_sgT hc)
theorem PT.sg2 {a b : Nat} (hab : a ≤ b) (hb : b < 256) : PT (sgT a ++ ([45] ++ sgT b)) a b :=
  have hc : a < 256 := by omega
  .two hab (sgT_len1 a) (fun r => ⟨(sgT_first hc r).1, (sgT_first hc r).2.1, (sgT_first hc r).2.2.1⟩) (sgn_sgT (by omega)) (sgn_sgT hb)
abbrev Tok := List UInt8 × Nat × Nat
def tokT (ts : List Tok) : List UInt8 := ts.flatMap (·.1)
def tokS (ts : List Tok) (c : Nat) : Bool := ts.any fun x => fromTo x.2.1 x.2.2 c
theorem tokT_first {ts : List Tok} (h : ∀ x ∈ ts, PT x.1 x.2.1 x.2.2) (more : List UInt8) : nx (tokT ts ++ 93 :: more) 0 ≠ 45 ∧ nx (tokT ts ++ 93 :: more) 0 ≠ 94 := by
  cases ts with
  | nil => rw [show nx (tokT [] ++ 93 :: more) 0 = 93 from rfl]; omega
  | cons x ts =>
    have := (h x (by simp)).first (tokT ts ++ 93 :: more)
    unfold tokT at this ⊢
    rw [List.flatMap_cons, List.append_assoc]
    exact ⟨this.1, this.2.2⟩
theorem tokT_len {ts : List Tok} (h : ∀ x ∈ ts, PT x.1 x.2.1 x.2.2) : ts.length ≤ (tokT ts).length := by
  induction ts with
  | nil => simp
  | cons x ts ih =>
    have := (h x (by simp)).len
    have := ih fun y hy => h y (by simp [hy])
    unfold tokT at this ⊢
    rw [List.flatMap_cons, List.length_append, List.length_cons]
    omega
theorem prts_toks {l more : List UInt8} : ∀ {ts : List Tok} {i N : Nat} {S : Nat → Bool}, (∀ x ∈ ts, PT x.1 x.2.1 x.2.2) → l.drop i = tokT ts ++ 93 :: more → ts.length < N →
    prts l N i S = some (fun c => S c || tokS ts c, i + (tokT ts).length + 1) := by
  intro ts
  induction ts with
  | nil =>
    intro i N S _ hd hN
    cases N with
    | zero => simp at hN
    | succ N =>
      unfold prts
      have : nx l i = 93 := by have := nx_rest (t := []) (i := i) hd; exact this
      rw [if_pos this]
      simp [tokS, tokT]
  | cons x ts ih =>
    intro i N S h hd hN
    cases N with
    | zero => simp at hN
    | succ N =>
      have hx := h x (by simp)
      have ht : ∀ y ∈ ts, PT y.1 y.2.1 y.2.2 := fun y hy => h y (by simp [hy])
      have hd' : l.drop i = x.1 ++ (tokT ts ++ 93 :: more) := by rw [hd]; unfold tokT; rw [List.flatMap_cons, List.append_assoc]
      have n0 : nx l i ≠ 93 := by
        have := (hx.first (tokT ts ++ 93 :: more)).2.1
        rw [← hd', nx_drop] at this; exact this
      unfold prts
      rw [if_neg n0, hx.read l i _ hd' (tokT_first ht more).1]
      dsimp only
      rw [ih ht (drop_more hd') (by simp at hN; omega)]
      congr 2
      · funext c
        unfold tokS
        rw [List.any_cons, Bool.or_assoc]
      · unfold tokT
        rw [List.flatMap_cons, List.length_append]; omega
theorem cls_toks {ts : List Tok} {more : List UInt8} (h : ∀ x ∈ ts, PT x.1 x.2.1 x.2.2) (hne : ts ≠ []) (other : Bool) :
    cls0 ((if other = true then [91, 94] else [91]) ++ (tokT ts ++ 93 :: more)) = some (fun c => if other = true then !(tokS ts c) else tokS ts c, (if other = true then 2 else 1) + (tokT ts).length + 1) := by
  obtain ⟨l, el⟩ : ∃ l, l = (if other = true then [91, 94] else [91]) ++ (tokT ts ++ 93 :: more) := ⟨_, rfl⟩
  rw [← el]
  have n0 : nx l 0 = 91 := by rw [el]; cases other <;> rfl
  have n1 : (nx l 1 = 94) = (other = true) := by
    rw [el]
    cases other
    · rw [if_neg (by simp), show nx (([91] : List UInt8) ++ (tokT ts ++ 93 :: more)) 1 = nx (tokT ts ++ 93 :: more) 0 from rfl]
      simp [(tokT_first h more).2]
    · simp; rfl
  have hlen : ts.length < l.length + 1 := by
    have := tokT_len h
    rw [el]; simp; omega
  cases ts with
  | nil => exact absurd rfl hne
  | cons x ts =>
    have hx := h x (by simp)
    have ht : ∀ y ∈ ts, PT y.1 y.2.1 y.2.2 := fun y hy => h y (by simp [hy])
    have hd' : l.drop (if other = true then 2 else 1) = x.1 ++ (tokT ts ++ 93 :: more) := by
      rw [el]
      have : tokT (x :: ts) ++ 93 :: more = x.1 ++ (tokT ts ++ 93 :: more) := by unfold tokT; rw [List.flatMap_cons, List.append_assoc]
      rw [this]
      cases other <;> rfl
    unfold cls0
    rw [if_neg (by omega), if_pos n0]
    simp only [n1]
    rw [hx.read l _ _ hd' (tokT_first ht more).1]
    dsimp only
    rw [prts_toks ht (drop_more hd') (by simp at hlen; omega)]
    dsimp only
    congr 2
    · funext c
      unfold tokS
      rw [List.any_cons]
      cases other <;> rfl
    · unfold tokT
      rw [List.flatMap_cons, List.length_append]; omega
end Go.E
set_option linter.unusedVariables false
set_option linter.unusedSimpArgs false
set_option maxRecDepth 20000
namespace Go.E
open Go.H
attribute [local irreducible] BiN MkS ConvN LookN MapUpN CallV HC limb dbTab
def tok (p : Nat × Nat) : List Tok := if p.2 = p.1 then [(sgT p.1, p.1, p.1)] else if p.2 = p.1 + 1 then [(sgT p.1, p.1, p.1), (sgT p.2, p.2, p.2)] else [(sgT p.1 ++ ([45] ++ sgT p.2), p.1, p.2)]
def runT (rs : List (Nat × Nat)) : List Tok := rs.flatMap tok
theorem tok_PT {p : Nat × Nat} (h : p.1 ≤ p.2) (hb : p.2 < 256) : ∀ x ∈ tok p, PT x.1 x.2.1 x.2.2 := by
  intro x hx
  unfold tok at hx
  split at hx
  · simp at hx; subst hx; exact PT.sg (by omega)
  split at hx
  · simp at hx
    rcases hx with rfl | rfl
    · exact PT.sg (by omega)
    · exact PT.sg hb
  · rw [List.mem_singleton] at hx; subst hx; exact PT.sg2 h hb
theorem runT_PT {rs : List (Nat × Nat)} (h : ∀ p ∈ rs, p.1 ≤ p.2 ∧ p.2 < 256) : ∀ x ∈ runT rs, PT x.1 x.2.1 x.2.2 := by
  intro x hx
  unfold runT at hx
  rw [List.mem_flatMap] at hx
  obtain ⟨p, hp, hx⟩ := hx
  exact tok_PT (h p hp).1 (h p hp).2 x hx
theorem tokT_append (a b : List Tok) : tokT (a ++ b) = tokT a ++ tokT b := by simp [tokT]
theorem tokS_append (a b : List Tok) (c : Nat) : tokS (a ++ b) c = (tokS a c || tokS b c) := by simp [tokS]
theorem tokT_tok (p : Nat × Nat) : tokT (tok p) = shT p.1 p.2 := by
  unfold tok shT
  split
  · simp [tokT]
  split
  · simp [tokT]
  · simp [tokT]
theorem tokS_tok (p : Nat × Nat) (c : Nat) (h : p.1 ≤ p.2) : tokS (tok p) c = fromTo p.1 p.2 c := by
  unfold tok
  split
  · rename_i e; rw [e]; simp [tokS]
  split
  · rename_i _ e
    simp [tokS, fromTo]
    rw [e]
    rw [Bool.eq_iff_iff]; simp; omega
  · simp [tokS]
theorem tokT_runT (rs : List (Nat × Nat)) : tokT (runT rs) = joinR rs := by
  induction rs with
  | nil => rfl
  | cons p rs ih =>
    have : runT (p :: rs) = tok p ++ runT rs := rfl
    rw [this, tokT_append, ih, tokT_tok]; rfl
theorem tokS_runT {rs : List (Nat × Nat)} (h : ∀ p ∈ rs, p.1 ≤ p.2) (c : Nat) : tokS (runT rs) c = rs.any fun p => fromTo p.1 p.2 c := by
  induction rs with
  | nil => rfl
  | cons p rs ih =>
    have : runT (p :: rs) = tok p ++ runT rs := rfl
    rw [this, tokS_append, ih fun q hq => h q (by simp [hq]), tokS_tok p c (h p (by simp)), List.any_cons]
theorem run_any (f : Nat → Bool) (c : Nat) : ∀ k, ((runL f k).any fun p => fromTo p.1 p.2 c) = (f c && decide (c < k))
  | 0 => by simp [runL]
  | k + 1 => by
    have ih := run_any f c k
    have hok := run_ok f k
    unfold runL
    split
    · rename_i hf
      have hk : (f c && decide (c < k + 1)) = ((f c && decide (c < k)) || decide (c = k)) := by
        by_cases hc : c = k
        · subst hc; simp [hf]
        · rw [Bool.eq_iff_iff]; simp [hc]; intro _; omega
      rw [hk, ← ih]
      rcases List.eq_nil_or_concat (runL f k) with h | ⟨l0, ⟨a, b⟩, h⟩
      · rw [h, runS_nil]
        simp [fromTo]
        rw [Bool.eq_iff_iff]; simp; omega
      · rw [List.concat_eq_append] at h
        rw [h] at hok ⊢
        have hab := hok (a, b) (by simp)
        rw [runS_snoc]
        split
        · rename_i e
          simp only [List.any_append, List.any_cons, List.any_nil, Bool.or_false, Bool.or_assoc]
          congr 1
          unfold fromTo
          rw [Bool.eq_iff_iff]; simp at hab ⊢; omega
        · simp only [List.any_append, List.any_cons, List.any_nil, Bool.or_false, Bool.or_assoc]
          congr 2
          unfold fromTo
          rw [Bool.eq_iff_iff]; simp; omega
    · rename_i hf
      rw [ih]
      by_cases hc : c = k
      · subst hc; simp [hf]
      · rw [Bool.eq_iff_iff]; simp; intro _; omega
theorem empty_not {S : Nat → Bool} {c : Nat} (hc : c < 256) (h : S c = true) : ¬ emptyS S = true := by
  intro he
  have := empty_all he c hc
  rw [this] at h; cases h
/-- What is shown of a set that is not empty is read as it was, whatever stands behind. -/
theorem cls_shW {f : Nat → Bool} (hf : ¬ emptyS f = true) (more : List UInt8) : ∃ f', cls (shW f ++ more) = some (f', (shW f).length) ∧ ∀ c, c < 256 → f' c = f c := by
  obtain ⟨t, ht, hft, _⟩ := empty_ex hf
  have key : ∀ f', cls0 (shW f ++ more) = some (f', (shW f).length) → (∀ c, c < 256 → f' c = f c) → ∃ f', cls (shW f ++ more) = some (f', (shW f).length) ∧ ∀ c, c < 256 → f' c = f c := by
    intro f' h1 h2
    refine ⟨f', ?_, h2⟩
    unfold cls
    rw [h1]
    dsimp only
    rw [if_neg (empty_not ht (by rw [h2 t ht]; exact hft))]
  have hany := fun c => run_any f c 256
  have hok := run_ok f 256
  have hbrk : ∀ rs, runL f 256 = rs → shW f = brk rs → ∃ f', cls (shW f ++ more) = some (f', (shW f).length) ∧ ∀ c, c < 256 → f' c = f c := by
    intro rs hrs hs
    have hnn : runT rs ≠ [] := by
      intro hn
      have h1 := hany t
      rw [hrs, ← tokS_runT (fun p hp => (hok p (hrs ▸ hp)).1), hn] at h1
      simp [tokS, hft] at h1
      omega
    have h0 := cls_toks (more := more) (runT_PT fun p hp => hok p (hrs ▸ hp)) hnn false
    simp only [Bool.false_eq_true, if_false] at h0
    refine key (fun c => tokS (runT rs) c) ?_ ?_
    · rw [hs]
      rw [tokT_runT] at h0
      unfold brk
      rw [show ([91] ++ joinR rs ++ [93]) ++ more = [91] ++ (joinR rs ++ 93 :: more) by simp, h0]
      congr 2
      simp; omega
    · intro c hc
      show tokS (runT rs) c = f c
      rw [tokS_runT (fun p hp => (hok p (hrs ▸ hp)).1), ← hrs, hany c]
      simp [hc]
  by_cases h0 : (runL f 256).length = 0
  · exfalso
    have h1 := hany t
    rw [List.length_eq_zero_iff.mp h0] at h1
    simp [hft] at h1
    omega
  by_cases hfull : fullS f = true
  · have hs : shW f = [46] := by unfold shW; rw [if_neg h0, if_pos hfull]
    refine key (fun _ => !false) ?_ ?_
    · rw [hs]
      unfold cls0
      rw [show nx (([46] : List UInt8) ++ more) 0 = 46 from rfl, if_pos rfl]
      rfl
    · intro c hc
      have := empty_all hfull c hc
      simp at this
      rw [this]; rfl
  · cases hr : runL f 256 with
    | nil => rw [hr] at h0; simp at h0
    | cons p rs =>
      cases rs with
      | cons q rs => exact hbrk _ hr (by unfold shW; rw [if_neg h0, if_neg hfull, hr])
      | nil =>
        obtain ⟨a, b⟩ := p
        have hs : shW f = if a = b then sgT a else brk [(a, b)] := by unfold shW; rw [if_neg h0, if_neg hfull, hr]
        have hab := hok (a, b) (by rw [hr]; simp)
        dsimp only at hab
        by_cases e : a = b
        · rw [if_pos e] at hs
          subst e
          refine key (fromTo a a) ?_ ?_
          · rw [hs]
            have hf := sgT_first (c := a) hab.2 more
            unfold cls0
            rw [if_neg hf.2.2.2.1, if_neg hf.2.2.2.2, sgn_sgT hab.2]
          · intro c hc
            have h1 := hany c
            rw [hr] at h1
            simp only [List.any_cons, List.any_nil, Bool.or_false] at h1
            rw [h1]; simp [hc]
        · rw [if_neg e] at hs
          exact hbrk _ hr hs
end Go.E
set_option linter.unusedVariables false
set_option linter.unusedSimpArgs false
set_option maxRecDepth 20000
namespace Go.E.Rg
open Go.H Go.E
mutual
def same : Rx → Rx → Prop
  | .mk k S ps, .mk k' S' qs => k = k' ∧ (∀ c, c < 256 → S c = S' c) ∧ sameL ps qs
def sameL : List Rx → List Rx → Prop
  | [], [] => True
  | r :: rs, q :: qs => same r q ∧ sameL rs qs
  | _, _ => False
end
theorem sameL_len : ∀ {ps qs : List Rx}, sameL ps qs → ps.length = qs.length
  | [], [], _ => rfl
  | r :: rs, q :: qs, h => by unfold sameL at h; rw [List.length_cons, List.length_cons, sameL_len h.2]
  | [], _ :: _, h => by unfold sameL at h; exact h.elim
  | _ :: _, [], h => by unfold sameL at h; exact h.elim
theorem sameL_one {r q : Rx} (h : same r q) : sameL [r] [q] := by unfold sameL; exact ⟨h, by unfold sameL; trivial⟩
theorem same_no {k : Int} {S : Nat → Bool} {ps qs : List Rx} (hS : emptyS S = true) (h : sameL ps qs) : same (.mk k noS ps) (.mk k S qs) := by
  unfold same
  exact ⟨rfl, fun c hc => (empty_all hS c hc).symm, h⟩
theorem formL_iff {k : Int} : ∀ {ps : List Rx}, formL k ps = true ↔ ∀ a ∈ ps, a.k ≠ k ∧ form a = true
  | [] => by unfold formL; simp
  | r :: rs => by
    unfold formL
    rw [Bool.and_eq_true, Bool.and_eq_true, formL_iff (ps := rs), decide_eq_true_eq]
    simp [List.forall_mem_cons]
theorem sgK_iff {k : Int} : sgK k = true ↔ 4 ≤ k ∧ k ≤ 6 := by unfold sgK; simp
theorem form_cases {k : Int} {S : Nat → Bool} {ps : List Rx} (h : form (.mk k S ps) = true) :
    (k = 1 ∧ ps = [] ∧ emptyS S = false) ∨ (emptyS S = true ∧ (∀ a ∈ ps, a.k ≠ k ∧ form a = true) ∧ (((k = 2 ∨ k = 3) ∧ 2 ≤ ps.length) ∨ (4 ≤ k ∧ k ≤ 6 ∧ ∃ x, ps = [x] ∧ sgK x.k = false))) := by
  unfold form at h
  split at h
  · rename_i hk
    rw [Bool.and_eq_true] at h
    exact .inl ⟨hk, by cases ps <;> simp_all, by simpa using h.2⟩
  · split at h
    · cases h
    · rename_i hS
      have hS : emptyS S = true := by simpa using hS
      refine .inr ⟨hS, ?_⟩
      split at h
      · rename_i hk
        rw [Bool.and_eq_true, decide_eq_true_eq, formL_iff] at h
        exact ⟨h.2, .inl ⟨hk, h.1⟩⟩
      · split at h
        · rename_i hk
          rw [Bool.and_eq_true, Bool.and_eq_true, decide_eq_true_eq, formL_iff] at h
          refine ⟨h.2, .inr ⟨(sgK_iff.mp hk).1, (sgK_iff.mp hk).2, ?_⟩⟩
          obtain ⟨x, rfl⟩ := List.length_eq_one_iff.mp h.1.1
          exact ⟨x, rfl, by simpa using h.1.2⟩
        · cases h
/-- Bytes that begin no part. -/
def badH (c : UInt8) : Prop := c = 42 ∨ c = 43 ∨ c = 63 ∨ c = 124 ∨ c = 41
def good (s : List UInt8) : Prop := ∃ c t, s = c :: t ∧ ¬ badH c
theorem sgT_good {c : Nat} (hc : c < 256) : ∃ x t, sgT c = x :: t ∧ ¬ badH x ∧ x ≠ 40 := by
  unfold sgT
  split
  · exact ⟨_, _, rfl, by unfold badH; decide, by decide⟩
  · split
    · exact ⟨_, _, rfl, by unfold badH; decide, by decide⟩
    · rename_i h
      refine ⟨_, _, rfl, ?_, ?_⟩
      · have key : ∀ k : Nat, k < 256 → isSp k = true → UInt8.ofNat c ≠ UInt8.ofNat k := by
          intro k hk hs e
          have := congrArg UInt8.toNat e
          rw [toNat_of hc, toNat_of hk] at this
          subst this; exact h hs
        rintro (e | e | e | e | e)
        · exact key 42 (by decide) (by decide) e
        · exact key 43 (by decide) (by decide) e
        · exact key 63 (by decide) (by decide) e
        · exact key 124 (by decide) (by decide) e
        · exact key 41 (by decide) (by decide) e
      · intro e
        have := congrArg UInt8.toNat e
        rw [toNat_of hc] at this
        have e2 : c = 40 := this
        subst e2; exact h (by decide)
theorem shW_good {f : Nat → Bool} (hf : emptyS f = false) : ∃ x t, shW f = x :: t ∧ ¬ badH x ∧ x ≠ 40 := by
  have hb : ∀ rs, ∃ x t, brk rs = x :: t ∧ ¬ badH x ∧ x ≠ 40 := fun rs => ⟨91, _, rfl, by unfold badH; decide, by decide⟩
  have hok := run_ok f 256
  have hany := fun c => run_any f c 256
  unfold shW
  split
  · rename_i h0
    exfalso
    obtain ⟨t, ht, hft, _⟩ := empty_ex (S := f) (by rw [hf]; decide)
    have h1 := hany t
    rw [List.length_eq_zero_iff.mp h0] at h1
    simp [hft] at h1
    omega
  · split
    · exact ⟨46, [], rfl, by unfold badH; decide, by decide⟩
    · split
      · rename_i a b hr
        have hab := hok (a, b) (by rw [hr]; simp)
        split
        · exact sgT_good (by have := hab.1; have := hab.2; simp only at *; omega)
        · exact hb _
      · exact hb _
theorem atom_set {alt : Nat → List UInt8 → Res} {d : Nat} {f : Nat → Bool} (hf : emptyS f = false) (more : List UInt8) : ∃ f', (∀ c, c < 256 → f' c = f c) ∧ atomF alt d (shW f ++ more) = .ok (.mk 1 f' [], more) := by
  obtain ⟨f', h1, h2⟩ := cls_shW (f := f) (by rw [hf]; decide) more
  obtain ⟨x, t, h3, _, h4⟩ := shW_good hf
  refine ⟨f', h2, ?_⟩
  have e : ∀ s, s = shW f ++ more → atomF alt d s = .ok (.mk 1 f' [], more) := by
    intro s hs
    unfold atomF
    split
    · rename_i s' _
      rw [h3] at hs
      cases hs
      exact absurd rfl h4
    · rw [hs, h1]
      simp
  exact e _ rfl
theorem atom_brk {alt : Nat → List UInt8 → Res} {d : Nat} (hd : d < 13) {s more : List UInt8} {x : Rx} (h : alt (d + 1) (s ++ 41 :: more) = .ok (x, 41 :: more)) : atomF alt d (40 :: s ++ [41] ++ more) = .ok (x, more) := by
  have e : (40 :: s ++ [41] ++ more : List UInt8) = 40 :: (s ++ 41 :: more) := by simp
  rw [e]
  unfold atomF
  simp only
  rw [if_neg (by omega), h]
  rfl
def notSg (s : List UInt8) : Prop := ∀ c t, s = c :: t → sgI c = none
theorem rep_plain {alt : Nat → List UInt8 → Res} {d : Nat} {s more : List UInt8} {x : Rx} (h : atomF alt d s = .ok (x, more)) (hn : notSg more) : repF alt d s = .ok (x, more) := by
  unfold repF
  rw [h]
  cases more with
  | nil => rfl
  | cons c t => simp only; rw [hn c t rfl]
theorem rep_sign {alt : Nat → List UInt8 → Res} {d : Nat} {s more : List UInt8} {x : Rx} {c : UInt8} {k : Int} (h : atomF alt d s = .ok (x, c :: more)) (hn : sgI c = some k) : repF alt d s = .ok (.mk k noS [x], more) := by
  unfold repF
  rw [h]
  simp only
  rw [hn]
/-- Where a part ends. -/
def stopC (s : List UInt8) : Prop := ∀ c t, s = c :: t → c = 124 ∨ c = 41
def stopA (s : List UInt8) : Prop := ∀ c t, s = c :: t → c = 41
theorem stopA.c {s : List UInt8} (h : stopA s) : stopC s := fun c t e => .inr (h c t e)
theorem stopC.n {s : List UInt8} (h : stopC s) : notSg s := fun c t e => by rcases h c t e with rfl | rfl <;> rfl
theorem good.n {s : List UInt8} (h : good s) : notSg s := by
  rintro c t rfl
  obtain ⟨c', t', e, hb⟩ := h
  cases e
  unfold sgI
  unfold badH at hb
  rw [if_neg (fun e => hb (.inl e)), if_neg (fun e => hb (.inr (.inl e))), if_neg (fun e => hb (.inr (.inr (.inl e))))]
theorem good.app {s more : List UInt8} (h : good s) : good (s ++ more) := by
  obtain ⟨c, t, rfl, hb⟩ := h
  exact ⟨c, t ++ more, rfl, hb⟩
/-- Parts side by side, each of which is read as it was. -/
theorem catL_items {alt : Nat → List UInt8 → Res} {d : Nat} {more : List UInt8} (hm : stopC more) : ∀ (its : List (List UInt8 × Rx)) (l : List Rx) (n : Nat), its.length < n → (∀ x ∈ its, good x.1 ∧ ∀ m, notSg m → ∃ r', same r' x.2 ∧ repF alt d (x.1 ++ m) = .ok (r', m)) →
    ∃ l', sameL l' (its.map (·.2)) ∧ catL alt d n l ((its.map (·.1)).flatten ++ more) = .ok (l ++ l', more)
  | [], l, n + 1, _, _ => by
    refine ⟨[], by unfold sameL; trivial, ?_⟩
    simp only [List.map_nil, List.flatten_nil, List.nil_append, List.append_nil]
    unfold catL
    cases more with
    | nil => rfl
    | cons c t => simp only; rw [if_pos (hm c t rfl)]
  | x :: its, l, n + 1, hn, h => by
    obtain ⟨hg, hx⟩ := h x (by simp)
    have hrest : notSg ((its.map (·.1)).flatten ++ more) := by
      cases its with
      | nil => simpa using hm.n
      | cons y its =>
        have := (h y (by simp)).1
        rw [List.map_cons, List.flatten_cons, List.append_assoc]
        exact this.app.n
    obtain ⟨r', h1, h2⟩ := hx _ hrest
    obtain ⟨l', h3, h4⟩ := catL_items hm its (l ++ [r']) n (by simp at hn; omega) (fun y hy => h y (by simp [hy]))
    refine ⟨r' :: l', by rw [List.map_cons]; unfold sameL; exact ⟨h1, h3⟩, ?_⟩
    rw [List.map_cons, List.flatten_cons, List.append_assoc]
    obtain ⟨c, t, e, hb⟩ := hg
    rw [e] at h2 ⊢
    unfold catL
    simp only [List.cons_append] at h2 ⊢
    unfold badH at hb
    rw [if_neg (fun e => hb (by rcases e with e | e; exact .inr (.inr (.inr (.inl e))); exact .inr (.inr (.inr (.inr e)))))]
    rw [h2]
    simp only
    rw [h4]
    simp
theorem altL_items {alt : Nat → List UInt8 → Res} {d : Nat} {more : List UInt8} (hm : stopA more) : ∀ (its : List (List UInt8 × Rx)) (l : List Rx) (n : Nat), its.length < n → (∀ x ∈ its, ∀ m, stopC m → ∃ r', same r' x.2 ∧ catF alt d (x.1 ++ m) = .ok (r', m)) →
    ∃ l', sameL l' (its.map (·.2)) ∧ altL alt d n l ((its.map fun x => 124 :: x.1).flatten ++ more) = .ok (l ++ l', more)
  | [], l, n + 1, _, _ => by
    refine ⟨[], by unfold sameL; trivial, ?_⟩
    simp only [List.map_nil, List.flatten_nil, List.nil_append, List.append_nil]
    unfold altL
    cases more with
    | nil => rfl
    | cons c t =>
      have := hm c t rfl
      subst this
      rfl
  | x :: its, l, n + 1, hn, h => by
    have hx := h x (by simp)
    have hrest : stopC ((its.map fun x => 124 :: x.1).flatten ++ more) := by
      cases its with
      | nil => simpa using hm.c
      | cons y its =>
        rw [List.map_cons, List.flatten_cons]
        intro c t e
        simp at e
        exact .inl e.1.symm
    obtain ⟨r', h1, h2⟩ := hx _ hrest
    obtain ⟨l', h3, h4⟩ := altL_items hm its (l ++ [r']) n (by simp at hn; omega) (fun y hy => h y (by simp [hy]))
    refine ⟨r' :: l', by rw [List.map_cons]; unfold sameL; exact ⟨h1, h3⟩, ?_⟩
    rw [List.map_cons, List.flatten_cons, List.append_assoc, List.cons_append]
    unfold altL
    simp only
    rw [h2]
    simp only
    rw [h4]
    simp
/-- How a part is shown within what binds so much. -/
def wt (least : Int) (a : Rx) : List UInt8 := if rank a.k < least then 40 :: shw a ++ [41] else shw a
theorem shwL_map (least : Int) : ∀ ps : List Rx, shwL least ps = ps.map (wt least)
  | [] => by unfold shwL; rfl
  | r :: rs => by unfold shwL; rw [shwL_map least rs]; rfl
theorem joinBar_flat : ∀ (x : List UInt8) (l : List (List UInt8)), joinBar (x :: l) = x ++ (l.map fun y => 124 :: y).flatten
  | x, [] => by simp [joinBar]
  | x, y :: r => by
    unfold joinBar
    rw [joinBar_flat y r, List.map_cons, List.flatten_cons]; simp
theorem wt_good {least : Int} {a : Rx} (h : good (shw a)) : good (wt least a) := by
  unfold wt
  split
  · exact ⟨40, _, rfl, by unfold badH; decide⟩
  · exact h
theorem shw_good (r : Rx) : form r = true → good (shw r) := by
  refine Rx.ind (C := fun r => form r = true → good (shw r)) ?_ r
  intro k S ps ih hf
  have hc := form_cases hf
  have first : ∀ least, ps ≠ [] → (∀ a ∈ ps, form a = true) → ∃ a qs, ps = a :: qs ∧ good (wt least a) := by
    intro least hne hall
    cases ps with
    | nil => exact absurd rfl hne
    | cons a qs => exact ⟨a, qs, rfl, wt_good (ih a (by simp) (hall a (by simp)))⟩
  unfold shw
  rcases hc with ⟨hk, rfl, hS⟩ | ⟨hS, hall, hsh⟩
  · rw [if_pos hk]
    obtain ⟨x, t, e, h1, _⟩ := shW_good hS
    exact ⟨x, t, e, h1⟩
  · have hne : ps ≠ [] := by
      rcases hsh with ⟨_, h2⟩ | ⟨_, _, x, rfl, _⟩
      · intro e; rw [e] at h2; simp at h2
      · simp
    have hk1 : k ≠ 1 := by rcases hsh with ⟨h1 | h1, _⟩ | ⟨h1, _⟩ <;> omega
    rw [if_neg hk1]
    obtain ⟨a, qs, rfl, hg⟩ := first (rank k + 1) hne (fun a ha => (hall a ha).2)
    rw [shwL_map, List.map_cons]
    split
    · rw [joinBar_flat]; exact hg.app
    · split
      · rw [List.flatten_cons, List.append_assoc]; exact hg.app
      · rw [List.flatten_cons]; exact hg.app
end Go.E.Rg
set_option linter.unusedVariables false
set_option linter.unusedSimpArgs false
set_option maxRecDepth 20000
namespace Go.E.Rg
open Go.H Go.E
theorem depthL_le : ∀ {ps : List Rx} {a : Rx}, a ∈ ps → depth a ≤ depthL ps
  | r :: rs, a, h => by
    unfold depthL
    rcases List.mem_cons.mp h with rfl | h
    · omega
    · have := depthL_le h; omega
theorem depth_mk (k : Int) (S : Nat → Bool) (ps : List Rx) : depth (.mk k S ps) = depthL ps + 1 := by conv => lhs; unfold depth
theorem depth_sub {r a : Rx} (h : a ∈ r.ps) : depth a + 1 ≤ depth r := by
  obtain ⟨k, S, ps⟩ := r
  rw [depth_mk]
  have := depthL_le (show a ∈ ps from h); omega
theorem depth_pos (r : Rx) : 1 ≤ depth r := by cases r; unfold depth; omega
def BK (r : Rx) : Prop := ∀ n d more, d + depth r ≤ 13 → 14 ≤ n + d → stopA more → ∃ r', same r' r ∧ pAlt n d (shw r ++ more) = .ok (r', more)
theorem brk_of {x : Rx} (hx : BK x) {n d : Nat} (h1 : d + 1 + depth x ≤ 13) (h2 : 14 ≤ n + 1 + d) (m : List UInt8) : ∃ x', same x' x ∧ atomF (pAlt n) d (40 :: shw x ++ [41] ++ m) = .ok (x', m) := by
  obtain ⟨x', h3, h4⟩ := hx n (d + 1) (41 :: m) (by omega) (by omega) (fun c t e => by cases e; rfl)
  have := depth_pos x
  exact ⟨x', h3, atom_brk (by omega) h4⟩
theorem sgI_sgB {k : Int} (h1 : 4 ≤ k) (h2 : k ≤ 6) : sgI (sgB k) = some k := by
  rcases (by omega : k = 4 ∨ k = 5 ∨ k = 6) with rfl | rfl | rfl <;> rfl
theorem shw_sign {k : Int} {S : Nat → Bool} {x : Rx} (h1 : 4 ≤ k) (h2 : k ≤ 6) : shw (.mk k S [x]) = wt 3 x ++ [sgB k] := by
  unfold shw
  rw [if_neg (by omega), if_neg (by omega), if_pos (sgK_iff.mpr ⟨h1, h2⟩)]
  have : rank k = 2 := by unfold rank; rw [if_neg (by omega), if_neg (by omega), if_neg (by omega)]
  rw [this, shwL_map]; simp
theorem rep_of {x : Rx} (hf : form x = true) (hk2 : x.k ≠ 2) (hk3 : x.k ≠ 3) (hb : ∀ y ∈ x.ps, BK y) {n d : Nat} (h1 : d + depth x ≤ 13) (h2 : 14 ≤ n + 1 + d) {m : List UInt8} (hm : notSg m) : ∃ x', same x' x ∧ repF (pAlt n) d (shw x ++ m) = .ok (x', m) := by
  obtain ⟨k, S, ps⟩ := x
  unfold Rx.k at hk2 hk3
  unfold Rx.ps at hb
  simp only at hk2 hk3 hb
  rcases form_cases hf with ⟨hk, rfl, hS⟩ | ⟨hS, hall, hsh⟩
  · obtain ⟨f', h3, h4⟩ := atom_set (alt := pAlt n) (d := d) hS m
    refine ⟨.mk 1 f' [], by unfold same; exact ⟨hk.symm, h3, by unfold sameL; trivial⟩, ?_⟩
    unfold shw
    rw [if_pos hk]
    exact rep_plain h4 hm
  · rcases hsh with ⟨h3 | h3, _⟩ | ⟨h3, h4, y, rfl, hy⟩
    · exact absurd h3 hk2
    · exact absurd h3 hk3
    · have hyf := (hall y (by simp)).2
      have hd : depth y + 1 ≤ depth (Rx.mk k S [y]) := depth_sub (show y ∈ (Rx.mk k S [y]).ps from List.mem_singleton.mpr rfl)
      rw [shw_sign h3 h4, List.append_assoc]
      have key : ∃ y', same y' y ∧ atomF (pAlt n) d (wt 3 y ++ ([sgB k] ++ m)) = .ok (y', sgB k :: m) := by
        unfold wt
        split
        · exact brk_of (hb y (by simp)) (by omega) h2 (sgB k :: m)
        · rename_i hr
          obtain ⟨k', S', ps'⟩ := y
          have hk1 : k' = 1 := by
            unfold rank Rx.k at hr
            simp only at hr
            split at hr
            · omega
            · split at hr
              · omega
              · split at hr
                · assumption
                · omega
          rcases form_cases hyf with ⟨_, rfl, hS'⟩ | ⟨_, _, ⟨h5 | h5, _⟩ | ⟨h5, _⟩⟩
          · obtain ⟨f', h6, h7⟩ := atom_set (alt := pAlt n) (d := d) hS' (sgB k :: m)
            refine ⟨.mk 1 f' [], by unfold same; exact ⟨hk1.symm, h6, by unfold sameL; trivial⟩, ?_⟩
            unfold shw
            rw [if_pos hk1]
            exact h7
          · omega
          · omega
          · omega
      obtain ⟨y', h5, h6⟩ := key
      exact ⟨.mk k noS [y'], same_no hS (sameL_one h5), rep_sign h6 (sgI_sgB h3 h4)⟩
theorem rank_lt2 {k : Int} (h : rank k < 2) : k = 2 ∨ k = 3 := by
  unfold rank at h
  split at h
  · exact .inr ‹_›
  · split at h
    · exact .inl ‹_›
    · split at h <;> omega
theorem fuel_ge : ∀ {its : List (List UInt8 × Rx)}, (∀ x ∈ its, good x.1) → its.length ≤ ((its.map (·.1)).flatten).length
  | [], _ => by simp
  | x :: its, h => by
    have ih := fuel_ge (its := its) (fun y hy => h y (by simp [hy]))
    obtain ⟨c, t, e, _⟩ := h x (by simp)
    rw [List.map_cons, List.flatten_cons, List.length_append, e]
    simp; simp at ih; omega
theorem cat_of {x : Rx} (hf : form x = true) (hk3 : x.k ≠ 3) (hb : ∀ y ∈ x.ps, BK y ∧ ∀ z ∈ y.ps, BK z) {n d : Nat} (h1 : d + depth x ≤ 13) (h2 : 14 ≤ n + 1 + d) {m : List UInt8} (hm : stopC m) : ∃ x', same x' x ∧ catF (pAlt n) d (shw x ++ m) = .ok (x', m) := by
  by_cases hk2 : x.k = 2
  · obtain ⟨k, S, ps⟩ := x
    have hk2 : k = 2 := hk2
    subst hk2
    unfold Rx.ps at hb
    simp only at hb
    rcases form_cases hf with ⟨hk, _⟩ | ⟨hS, hall, ⟨_, hl⟩ | ⟨h3, _⟩⟩
    · omega
    · have hd : ∀ y ∈ ps, d + 1 + depth y ≤ 13 := by
        intro y hy
        have := depthL_le hy
        unfold depth at h1
        omega
      have item : ∀ y ∈ ps, ∀ m', notSg m' → ∃ y', same y' y ∧ repF (pAlt n) d (wt 2 y ++ m') = .ok (y', m') := by
        intro y hy m' hm'
        unfold wt
        have hyy := hall y hy
        split
        · obtain ⟨y', h3, h4⟩ := brk_of (hb y hy).1 (hd y hy) h2 m'
          exact ⟨y', h3, rep_plain h4 hm'⟩
        · rename_i hr
          refine rep_of hyy.2 hyy.1 ?_ (hb y hy).2 (by have := hd y hy; omega) h2 hm'
          intro e
          rw [e] at hr
          exact hr (by decide)
      have gd : ∀ y ∈ ps, good (wt 2 y) := fun y hy => wt_good (shw_good y (hall y hy).2)
      have hshow : shw (.mk 2 S ps) = (ps.map (wt 2)).flatten := by
        unfold shw
        rw [if_neg (by decide), if_neg (by decide), if_neg (by decide), show rank 2 + 1 = 2 from rfl, shwL_map]
      rw [hshow]
      match ps, hl, hall, hd, item, gd with
      | p :: qs, hl, hall, hd, item, gd =>
        rw [List.map_cons, List.flatten_cons, List.append_assoc]
        have hrest : notSg ((qs.map (wt 2)).flatten ++ m) := by
          cases qs with
          | nil => simp at hl
          | cons q qs =>
            rw [List.map_cons, List.flatten_cons, List.append_assoc]
            exact (gd q (by simp)).app.n
        obtain ⟨p', h3, h4⟩ := item p (by simp) _ hrest
        have hmap1 : (qs.map fun q => (wt 2 q, q)).map (·.1) = qs.map (wt 2) := by rw [List.map_map]; rfl
        have hmap2 : (qs.map fun q => (wt 2 q, q)).map (·.2) = qs := by rw [List.map_map]; exact List.map_id _
        have hits : ∀ x ∈ qs.map fun q => (wt 2 q, q), good x.1 ∧ ∀ m, notSg m → ∃ r', same r' x.2 ∧ repF (pAlt n) d (x.1 ++ m) = .ok (r', m) := by
          intro x hx
          rw [List.mem_map] at hx
          obtain ⟨q, hq, rfl⟩ := hx
          exact ⟨gd q (by simp [hq]), fun m' hm' => item q (by simp [hq]) m' hm'⟩
        have hfu := fuel_ge (fun x hx => (hits x hx).1)
        obtain ⟨l', h5, h6⟩ := catL_items (alt := pAlt n) (d := d) hm (qs.map fun q => (wt 2 q, q)) [p'] (((qs.map (wt 2)).flatten ++ m).length + 1) (by rw [hmap1] at hfu; rw [List.length_append]; omega) hits
        rw [hmap1] at h6
        rw [hmap2] at h5
        refine ⟨.mk 2 noS (p' :: l'), same_no hS (by unfold sameL; exact ⟨h3, h5⟩), ?_⟩
        unfold catF
        rw [h4]
        simp only
        rw [h6]
        have hl' : l'.length = qs.length := sameL_len h5
        cases l' with
        | nil => simp at hl hl'; omega
        | cons y ys => rfl
    · omega
  · obtain ⟨x', h3, h4⟩ := rep_of hf hk2 hk3 (fun y hy => (hb y hy).1) h1 h2 hm.n
    refine ⟨x', h3, ?_⟩
    unfold catF
    rw [h4]
    simp only
    obtain ⟨l', h5, h6⟩ := catL_items (alt := pAlt n) (d := d) hm [] [x'] (m.length + 1) (by simp) (fun x hx => by cases hx)
    simp only [List.map_nil, List.flatten_nil, List.nil_append] at h6 h5
    have : l' = [] := by cases l' with
      | nil => rfl
      | cons y ys => unfold sameL at h5; exact h5.elim
    subst this
    rw [h6]; rfl
theorem bars_len : ∀ (l : List Rx), l.length ≤ ((l.map ((fun y => 124 :: y) ∘ wt 1)).flatten).length
  | [] => by simp
  | q :: qs => by
    have ih := bars_len qs
    rw [List.map_cons, List.flatten_cons, List.length_append]
    have : 1 ≤ (((fun y => 124 :: y) ∘ wt 1) q).length := by simp
    rw [List.length_cons]; omega
theorem back : ∀ (N : Nat) (r : Rx), depth r ≤ N → form r = true → BK r
  | 0, r, h, _ => by have := depth_pos r; omega
  | N + 1, r, hN, hf => by
    intro n d more h1 h2 hm
    have hp := depth_pos r
    obtain ⟨n', rfl⟩ : ∃ n', n = n' + 1 := ⟨n - 1, by omega⟩
    have sub : ∀ y ∈ r.ps, form y = true ∧ depth y + 1 ≤ depth r := by
      obtain ⟨k, S, ps⟩ := r
      intro y hy
      have hy : y ∈ ps := hy
      refine ⟨?_, depth_sub (show y ∈ (Rx.mk k S ps).ps from hy)⟩
      rcases form_cases hf with ⟨_, rfl, _⟩ | ⟨_, hall, _⟩
      · cases hy
      · exact (hall y hy).2
    have hb : ∀ y ∈ r.ps, BK y := fun y hy => back N y (by have := (sub y hy).2; omega) (sub y hy).1
    have hb2 : ∀ y ∈ r.ps, ∀ z ∈ y.ps, BK z := by
      intro y hy z hz
      obtain ⟨k, S, ps⟩ := y
      have hz : z ∈ ps := hz
      have h3 := depth_sub (show z ∈ (Rx.mk k S ps).ps from hz)
      have h4 := (sub _ hy).2
      have hff : form z = true := by
        rcases form_cases (sub _ hy).1 with ⟨_, rfl, _⟩ | ⟨_, hall, _⟩
        · cases hz
        · exact (hall z hz).2
      refine back N z ?_ hff
      omega
    show ∃ r', same r' r ∧ altF (pAlt n') d (shw r ++ more) = .ok (r', more)
    by_cases hk3 : r.k = 3
    · obtain ⟨k, S, ps⟩ := r
      have hk3 : k = 3 := hk3
      subst hk3
      have hb : ∀ y ∈ ps, BK y := hb
      have hb2 : ∀ y ∈ ps, ∀ z ∈ y.ps, BK z := hb2
      have sub : ∀ y ∈ ps, form y = true ∧ depth y + 1 ≤ depth (.mk 3 S ps) := sub
      rcases form_cases hf with ⟨hk, _⟩ | ⟨hS, hall, ⟨_, hl⟩ | ⟨h3, _⟩⟩
      · omega
      · have item : ∀ y ∈ ps, ∀ m', stopC m' → ∃ y', same y' y ∧ catF (pAlt n') d (wt 1 y ++ m') = .ok (y', m') := by
          intro y hy m' hm'
          have hyy := hall y hy
          have hw : wt 1 y = shw y := by
            unfold wt
            rw [if_neg]
            intro hr
            rcases rank_lt2 (k := y.k) (by omega) with e | e
            · rw [e] at hr; exact absurd hr (by decide)
            · exact hyy.1 e
          rw [hw]
          exact cat_of hyy.2 hyy.1 (fun z hz => ⟨hb2 y hy z hz, by
            intro u hu
            obtain ⟨k2, S2, ps2⟩ := z
            have hu : u ∈ ps2 := hu
            have h5 := depthL_le hu
            obtain ⟨k1, S1, ps1⟩ := y
            have hz : Rx.mk k2 S2 ps2 ∈ ps1 := hz
            have h6 := depthL_le hz
            have h7 := (sub _ hy).2
            have hfz : form (.mk k2 S2 ps2) = true := by
              rcases form_cases hyy.2 with ⟨_, rfl, _⟩ | ⟨_, hall', _⟩
              · cases hz
              · exact (hall' _ hz).2
            have hfu : form u = true := by
              rcases form_cases hfz with ⟨_, rfl, _⟩ | ⟨_, hall', _⟩
              · cases hu
              · exact (hall' _ hu).2
            refine back N u ?_ hfu
            have h8 : depth (Rx.mk k2 S2 ps2) = depthL ps2 + 1 := by conv => lhs; unfold depth
            have h9 : depth (Rx.mk k1 S1 ps1) = depthL ps1 + 1 := by conv => lhs; unfold depth
            omega⟩) (by have := (sub y hy).2; omega) (by omega) hm'
        have hshow : shw (.mk 3 S ps) = joinBar (ps.map (wt 1)) := by
          unfold shw
          rw [if_neg (by decide), if_pos rfl, show rank 3 + 1 = 1 from rfl, shwL_map]
        rw [hshow]
        match ps, hl, item with
        | p :: qs, hl, item =>
          rw [List.map_cons, joinBar_flat, List.append_assoc, List.map_map]
          have hrest : stopC ((qs.map ((fun y => 124 :: y) ∘ wt 1)).flatten ++ more) := by
            cases qs with
            | nil => simp at hl
            | cons q qs =>
              rw [List.map_cons, List.flatten_cons]
              intro c t e
              simp at e
              exact .inl e.1.symm
          obtain ⟨p', h3, h4⟩ := item p (by simp) _ hrest
          have hmap2 : (qs.map fun q => (wt 1 q, q)).map (·.2) = qs := by rw [List.map_map]; exact List.map_id _
          have hmap1 : ((qs.map fun q => (wt 1 q, q)).map fun x => 124 :: x.1) = qs.map ((fun y => 124 :: y) ∘ wt 1) := by rw [List.map_map]; rfl
          have hlen : qs.length ≤ ((qs.map ((fun y => 124 :: y) ∘ wt 1)).flatten).length := by
            exact bars_len qs
          obtain ⟨l', h5, h6⟩ := altL_items (alt := pAlt n') (d := d) hm (qs.map fun q => (wt 1 q, q)) [p'] (((qs.map ((fun y => 124 :: y) ∘ wt 1)).flatten ++ more).length + 1) (by rw [List.length_append, List.length_map]; exact Nat.lt_succ_of_le (Nat.le_trans hlen (Nat.le_add_right _ _))) (by
            intro x hx
            rw [List.mem_map] at hx
            obtain ⟨q, hq, rfl⟩ := hx
            exact fun m' hm' => item q (by simp [hq]) m' hm')
          rw [hmap1] at h6
          rw [hmap2] at h5
          refine ⟨.mk 3 noS (p' :: l'), same_no hS (by unfold sameL; exact ⟨h3, h5⟩), ?_⟩
          unfold altF
          rw [h4]
          simp only
          rw [h6]
          have hl' : l'.length = qs.length := sameL_len h5
          cases l' with
          | nil => simp at hl hl'; omega
          | cons y ys => rfl
      · omega
    · obtain ⟨x', h3, h4⟩ := cat_of hf hk3 (fun y hy => ⟨hb y hy, hb2 y hy⟩) h1 (by omega) hm.c
      refine ⟨x', h3, ?_⟩
      unfold altF
      rw [h4]
      simp only
      obtain ⟨l', h5, h6⟩ := altL_items (alt := pAlt n') (d := d) hm [] [x'] (more.length + 1) (by simp) (fun x hx => by cases hx)
      simp only [List.map_nil, List.flatten_nil, List.nil_append] at h6 h5
      have : l' = [] := by cases l' with
        | nil => rfl
        | cons y ys => unfold sameL at h5; exact h5.elim
      subst this
      rw [h6]; rfl
end Go.E.Rg
set_option linter.unusedVariables false
set_option linter.unusedSimpArgs false
set_option maxRecDepth 20000
namespace Go.E.Rg
open Go.H Go.E
inductive Star (R : Nat → Nat → Prop) : Nat → Nat → Prop where
  | refl (i : Nat) : Star R i i
  | step {i x j : Nat} : R i x → Star R x j → Star R i j
theorem Star.one {R : Nat → Nat → Prop} {i j : Nat} (h : R i j) : Star R i j := .step h (.refl j)
theorem Star.trans {R : Nat → Nat → Prop} {i x j : Nat} (h : Star R i x) (k : Star R x j) : Star R i j := by
  induction h with
  | refl => exact k
  | step a _ ih => exact .step a (ih k)
theorem Star.tail {R : Nat → Nat → Prop} {i x j : Nat} (h : Star R i x) (k : R x j) : Star R i j := h.trans (.one k)
mutual
def M (w : List UInt8) : Rx → Nat → Nat → Prop
  | .mk k S ps, i, j =>
    if k = 1 then j = i + 1 ∧ ∃ c : UInt8, w[i]? = some c ∧ S c.toNat = true
    else if k = 2 then MC w ps i j
    else if k = 3 then MA w ps i j
    else if k = 6 then i = j ∨ M1 w ps i j
    else if k = 4 then Star (M1 w ps) i j
    else ∃ x, M1 w ps i x ∧ Star (M1 w ps) x j
def MC (w : List UInt8) : List Rx → Nat → Nat → Prop
  | [], i, j => i = j
  | r :: rs, i, j => ∃ x, M w r i x ∧ MC w rs x j
def MA (w : List UInt8) : List Rx → Nat → Nat → Prop
  | [], i, j => False
  | r :: rs, i, j => M w r i j ∨ MA w rs i j
def M1 (w : List UInt8) : List Rx → Nat → Nat → Prop
  | [], i, j => i = j
  | r :: _, i, j => M w r i j
end
/-- Matches go to the right, and stay within. -/
theorem Star.le {R : Nat → Nat → Prop} {n : Nat} (h : ∀ i j, R i j → i ≤ j ∧ (i ≤ n → j ≤ n)) {i j : Nat} (k : Star R i j) : i ≤ j ∧ (i ≤ n → j ≤ n) := by
  induction k with
  | refl => exact ⟨Nat.le_refl _, id⟩
  | step a _ ih => have := h _ _ a; exact ⟨by omega, fun hi => ih.2 (this.2 hi)⟩
def has (l : List Bool) (j : Nat) : Prop := l.getD j false = true
/-- How many places are still free. -/
def free (l : List Bool) : Nat := l.countP fun b => !b
end Go.E.Rg
set_option linter.unusedVariables false
set_option linter.unusedSimpArgs false
set_option maxRecDepth 20000
namespace Go.E.Rg
open Go.H Go.E
theorem may_form {r : Rx} (h : may r = 0) : form r = true ∧ nodes r ≤ 40 ∧ depth r ≤ 12 := by
  unfold may at h
  split at h
  · rename_i hf
    split at h
    · cases h
    · exact ⟨hf, by omega, by omega⟩
  · cases h
/-- One byte of a set. -/
def st (S : Nat → Bool) : Rx := .mk 1 S []
theorem may_st {S : Nat → Bool} (h : emptyS S = false) : may (st S) = 0 := by
  unfold may st form nodes depth nodesL depthL
  simp [h]
end Go.E.Rg
set_option linter.unusedVariables false
set_option linter.unusedSimpArgs false
set_option maxRecDepth 20000
namespace Go.E
open Go.H
attribute [local irreducible] BiN MkS ConvN LookN MapUpN CallV HC limb dbTab
/-- What Parse answers: a set, how long, a fault. -/
def res (o : Option ((Nat → Bool) × Nat)) : (Nat → Bool) × Nat × Nat := match o with | some (S, e) => (S, e, 0) | none => (fun _ => false, 0, 2)
end Go.E
set_option linter.unusedVariables false
set_option linter.unusedSimpArgs false
set_option maxRecDepth 20000
namespace Go.E.Rg
open Go.H Go.E
def wrap (s : List UInt8) : Nat → List UInt8
  | 0 => s
  | k + 1 => 40 :: wrap s k ++ [41]
/-- The parts that a bar joins. -/
def parts (x : Rx) : List Rx := if x.k = 3 then x.ps else [x]
end Go.E.Rg
