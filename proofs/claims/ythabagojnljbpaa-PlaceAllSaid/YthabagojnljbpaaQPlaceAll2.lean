/- This project's own logic, printed forms and lemmas, as far as this claim needs them (part 2). -/
import Derived.Test.YthabagojnljbpaaQPlaceAll1
set_option linter.unusedVariables false
set_option maxRecDepth 100000
namespace Go.E
open Go.H
noncomputable section
/-! ### (*eyot/place.Places).walk -/
namespace place_Places_walk
noncomputable def fn : Func := Go.Proofs.Try.f22
noncomputable def body : Code := fn.body.getD .skip
def od : Nat → Ord := fun | 4 => ordL [(0, 3), (1, 3), (2, 3), (3, 3), (4, 3), (5, 1), (6, 3), (7, 1), (10, 3), (11, 3), (12, 3), (13, 1)] (.alt 8 0 (ordL [] (.alt 9 0 (ordL [(14, 0), (15, 2), (16, 3), (17, 3), (18, 2), (19, 3), (20, 3), (21, 2)] .done) 14 0 (ordL [(9, 0), (15, 2), (16, 3), (17, 3), (18, 2), (19, 3), (20, 3), (21, 2)] .done))) 14 0 (ordL [(8, 0), (9, 0), (15, 2), (16, 3), (17, 3), (18, 2), (19, 3), (20, 3), (21, 2)] .done)) | 26 => ordL [(0, 3), (1, 1), (2, 3), (3, 1), (5, 3), (6, 1), (7, 3), (8, 1), (10, 3), (11, 1), (4, 0), (9, 0), (12, 3), (13, 3), (14, 2), (15, 3), (16, 3), (17, 2)] .done | _ => .done
def tb : Nat → Tab := fun | 4 => (2392064, [0, 0, 0, 4, 12, 28, 0, 64, 192, 508, 0, 1024, 3072, 7168, 0, 32764, 65533, 131069, 262141, 524287, 1048575, 2097151], [(0, 1, 25), (0, 1, 26), (0, 1, 27), (4, 67108864, 28), (8, 134217728, 29), (16, 268435456, 30), (0, 8, 31), (64, 1073741824, 32), (128, 2147483648, 33), (288, 4831838208, 34), (0, 1, 35), (1024, 17179869184, 36), (2048, 34359738368, 37), (4096, 68719476736, 38), (0, 0, 39), (25088, 412316860416, 40), (41981, 16777216, 41), (107517, 1099511627776, 42), (173053, 2207613190144, 0), (524287, 33554432, 43), (1048575, 4398046511104, 44), (1572863, 9345848836096, 0)]) | 26 => (147456, [0, 1, 0, 4, 15, 0, 32, 0, 128, 511, 0, 1024, 4095, 8191, 16383, 32767, 65535, 131071], [(0, 1024, 110), (1, 649037107316853453566312041152512, 111), (0, 8192, 112), (4, 2596148429267413814265248164610048, 113), (10, 6490371073168534535663120411525120, 114), (0, 1024, 115), (32, 20769187434139310514121985316880384, 116), (0, 8192, 117), (128, 83076749736557242056487941267521536, 118), (336, 207691874341393105141219853168803840, 119), (0, 1024, 120), (1024, 664613997892457936451903530140172288, 121), (2560, 1329227995784915872903807060280344576, 122), (4096, 2658455991569831745807614120560697344, 123), (12288, 7975367974709495237422842361682067456, 124), (20480, 13292279957849158729038070602803445760, 125), (33296, 21610339525221952589943925722214039552, 126), (131071, 42535295865117307932921825928971027456, 0)]) | _ => (0, [], [])
def k1E (K : Nat → Nat → Int → Mem → Prop) : Env → Mem → Prop := fun ρ m => UnPA (ρ 4) fun x4b x4o => UnI (ρ 5) .i64 fun n_5 => K x4b x4o n_5 m
def k1  (x4b : Nat) (x4o : Nat) (n_5 : Int) (R : Ending → Mem → Prop) (m : Mem) : Prop :=
 NewC m #[.int .i64 n_5] T_int fun b45 m1 =>
 NewC m1 #[.int .i64 n_5] T_int fun b47 m2 =>
 St1 m2 x4b x4o (.slice (some ⟨b45, 0, none⟩) 1 1) fun m3 =>
 St1 m3 x4b (x4o + 1) (.slice (some ⟨b47, 0, none⟩) 1 1) fun m4 =>
 St1 m4 x4b (x4o + 2) (.bool false) fun m5 =>
 LdV m5 x4b x4o fun v =>
 UnS v fun res0_0a res0_0l res0_0c =>
 LdV m5 x4b (x4o + 1) fun v =>
 UnS v fun res0_1a res0_1l res0_1c =>
 LdV m5 x4b (x4o + 2) fun v =>
 UnB v fun res0_2 =>
 R (.returned (.agg #[.slice res0_0a res0_0l res0_0c, .slice res0_1a res0_1l res0_1c, .bool res0_2])) m5
noncomputable def k1A  (R : Ending → Mem → Prop) : ACode := (.code (sR (sR (cT (sR (bB (sR (sL (sR (body))))))))))
def k4E (K : Option Addr → Nat → Nat → Nat → Nat → Nat → Nat → Option Addr → Nat → Nat → Int → Int → Mem → Prop) : Env → Mem → Prop := fun ρ m => UnP (ρ 0) fun p_0 => UnPA (ρ 4) fun x4b x4o => UnPA (ρ 6) fun out_6b out_6o => UnPA (ρ 9) fun q_9b q_9o => UnS (ρ 53) fun x53a x53l x53c => UnI (ρ 54) .i64 fun x54 => UnI (ρ 55) .i64 fun x55 => K p_0 x4b x4o out_6b out_6o q_9b q_9o x53a x53l x53c x54 x55 m
def k4 (K2 : Option Addr → Nat → Nat → Nat → Nat → Option Addr → Nat → Nat → Int → Int → Mem → Prop) (p_0 : Option Addr) (x4b : Nat) (x4o : Nat) (out_6b : Nat) (out_6o : Nat) (q_9b : Nat) (q_9o : Nat) (x53a : Option Addr) (x53l : Nat) (x53c : Nat) (x54 : Int) (x55 : Int) (R : Ending → Mem → Prop) (m : Mem) : Prop :=
 LdV m out_6b out_6o fun v =>
 UnS v fun x85a x85l x85c =>
 LdV m q_9b (q_9o + 1) fun v =>
 UnS v fun x87a x87l x87c =>
 LdV m out_6b (out_6o + 2) fun v =>
 UnB v fun x89 =>
 Br x89 (
  LdV m q_9b (q_9o + 2) fun v =>
  UnB v fun x92 =>
  St1 m out_6b out_6o (.slice x85a x85l x85c) fun m1 =>
  St1 m1 out_6b (out_6o + 1) (.slice x87a x87l x87c) fun m2 =>
  St1 m2 out_6b (out_6o + 2) (.bool x92) fun m3 =>
  K2 p_0 x4b x4o out_6b out_6o x53a x53l x53c x54 (IntKind.i64.wrap (x55 + 1)) m3) (
  St1 m out_6b out_6o (.slice x85a x85l x85c) fun m1 =>
  St1 m1 out_6b (out_6o + 1) (.slice x87a x87l x87c) fun m2 =>
  St1 m2 out_6b (out_6o + 2) (.bool false) fun m3 =>
  K2 p_0 x4b x4o out_6b out_6o x53a x53l x53c x54 (IntKind.i64.wrap (x55 + 1)) m3)
noncomputable def k4A (K2 : Option Addr → Nat → Nat → Nat → Nat → Option Addr → Nat → Nat → Int → Int → Mem → Prop) (R : Ending → Mem → Prop) : ACode := (.code (sR (sR (sR (sR (sR (bB (sL (sR (sR (lP (bB (sR (sL (sR (cT (sR (cE (sR (bB (sR (sL (sR (body))))))))))))))))))))))))
def k3E (K : Option Addr → Nat → Nat → Nat → Nat → Nat → Nat → Option Addr → Nat → Nat → Int → Int → Mem → Prop) : Env → Mem → Prop := fun ρ m => UnP (ρ 0) fun p_0 => UnPA (ρ 4) fun x4b x4o => UnPA (ρ 6) fun out_6b out_6o => UnPA (ρ 9) fun q_9b q_9o => UnS (ρ 53) fun x53a x53l x53c => UnI (ρ 54) .i64 fun x54 => UnI (ρ 55) .i64 fun x55 => K p_0 x4b x4o out_6b out_6o q_9b q_9o x53a x53l x53c x54 x55 m
def k3 (K2 : Option Addr → Nat → Nat → Nat → Nat → Option Addr → Nat → Nat → Int → Int → Mem → Prop) (p_0 : Option Addr) (x4b : Nat) (x4o : Nat) (out_6b : Nat) (out_6o : Nat) (q_9b : Nat) (q_9o : Nat) (x53a : Option Addr) (x53l : Nat) (x53c : Nat) (x54 : Int) (x55 : Int) (R : Ending → Mem → Prop) (m : Mem) : Prop :=
 LdV m q_9b (q_9o + 2) fun v =>
 UnB v fun x77 =>
 Br x77 (
  LdV m out_6b (out_6o + 1) fun v =>
  UnS v fun x79a x79l x79c =>
  LdV m q_9b (q_9o + 1) fun v =>
  UnS v fun x81a x81l x81c =>
  HC P place_also.id #[.slice x79a x79l x79c, .slice x81a x81l x81c] m (Cont (fun v m1 =>
    UnS v fun x82a x82l x82c =>
    St1 m1 q_9b (q_9o + 1) (.slice x82a x82l x82c) fun m2 =>
    k4 K2 p_0 x4b x4o out_6b out_6o q_9b q_9o x53a x53l x53c x54 x55 R m2) (panicR R))) (
  k4 K2 p_0 x4b x4o out_6b out_6o q_9b q_9o x53a x53l x53c x54 x55 R m)
noncomputable def k3A (K2 : Option Addr → Nat → Nat → Nat → Nat → Option Addr → Nat → Nat → Int → Int → Mem → Prop) (R : Ending → Mem → Prop) : ACode := (.seq (.code (sL (sR (sR (sR (sR (bB (sL (sR (sR (lP (bB (sR (sL (sR (cT (sR (cE (sR (bB (sR (sL (sR (body)))))))))))))))))))))))) (.cut (k4E fun p_0 x4b x4o out_6b out_6o q_9b q_9o x53a x53l x53c x54 x55 m => k4 K2 p_0 x4b x4o out_6b out_6o q_9b q_9o x53a x53l x53c x54 x55 R m) (sR (sR (sR (sR (sR (bB (sL (sR (sR (lP (bB (sR (sL (sR (cT (sR (cE (sR (bB (sR (sL (sR (body)))))))))))))))))))))))))
def l2E (K : Option Addr → Nat → Nat → Nat → Nat → Option Addr → Nat → Nat → Int → Int → Mem → Prop) : Env → Mem → Prop := fun ρ m => UnP (ρ 0) fun p_0 => UnPA (ρ 4) fun x4b x4o => UnPA (ρ 6) fun out_6b out_6o => UnS (ρ 53) fun x53a x53l x53c => UnI (ρ 54) .i64 fun x54 => UnI (ρ 55) .i64 fun x55 => K p_0 x4b x4o out_6b out_6o x53a x53l x53c x54 x55 m
def l2B  (K2 : Option Addr → Nat → Nat → Nat → Nat → Option Addr → Nat → Nat → Int → Int → Mem → Prop) (p_0 : Option Addr) (x4b : Nat) (x4o : Nat) (out_6b : Nat) (out_6o : Nat) (x53a : Option Addr) (x53l : Nat) (x53c : Nat) (x54 : Int) (x55 : Int) (R : Ending → Mem → Prop) (m : Mem) : Prop :=
 Br (decide (x55 < x54)) (
  IxS x53a x53l x55 6 fun x57b x57o =>
  LdV m x57b x57o fun v =>
  UnI v .i64 fun x58_0 =>
  LdV m x57b (x57o + 1) fun v =>
  UnI v .u64 fun x58_1 =>
  LdV m x57b (x57o + 2) fun v =>
  UnI v .u64 fun x58_2 =>
  LdV m x57b (x57o + 3) fun v =>
  UnI v .u64 fun x58_3 =>
  LdV m x57b (x57o + 4) fun v =>
  UnI v .u64 fun x58_4 =>
  LdV m x57b (x57o + 5) fun v =>
  UnS v fun x58_5a x58_5l x58_5c =>
  NewC m #[.int .i64 0, .int .u64 0, .int .u64 0, .int .u64 0, .int .u64 0, .slice none 0 0] T_api_Rx fun b_x_8 m1 =>
  St1 m1 b_x_8 0 (.int .i64 x58_0) fun m2 =>
  St1 m2 b_x_8 1 (.int .u64 x58_1) fun m3 =>
  St1 m3 b_x_8 2 (.int .u64 x58_2) fun m4 =>
  St1 m4 b_x_8 3 (.int .u64 x58_3) fun m5 =>
  St1 m5 b_x_8 4 (.int .u64 x58_4) fun m6 =>
  St1 m6 b_x_8 5 (.slice x58_5a x58_5l x58_5c) fun m7 =>
  LdV m7 b_x_8 0 fun v =>
  UnI v .i64 fun x60_0 =>
  LdV m7 b_x_8 1 fun v =>
  UnI v .u64 fun x60_1 =>
  LdV m7 b_x_8 2 fun v =>
  UnI v .u64 fun x60_2 =>
  LdV m7 b_x_8 3 fun v =>
  UnI v .u64 fun x60_3 =>
  LdV m7 b_x_8 4 fun v =>
  UnI v .u64 fun x60_4 =>
  LdV m7 b_x_8 5 fun v =>
  UnS v fun x60_5a x60_5l x60_5c =>
  HC P place_Places_walk.id #[.pointer p_0, .agg #[.int .i64 x60_0, .int .u64 x60_1, .int .u64 x60_2, .int .u64 x60_3, .int .u64 x60_4, .slice x60_5a x60_5l x60_5c]] m7 (Cont (fun v m8 =>
    UnAgg v fun l =>
    UnCons l fun v l =>
    UnS v fun x61_0a x61_0l x61_0c =>
    UnCons l fun v l =>
    UnS v fun x61_1a x61_1l x61_1c =>
    UnCons l fun v l =>
    UnB v fun x61_2 =>
    UnNil l (
     NewC m8 #[.slice none 0 0, .slice none 0 0, .bool false] T_place_part fun b_q_9 m9 =>
     St1 m9 b_q_9 0 (.slice x61_0a x61_0l x61_0c) fun m10 =>
     St1 m10 b_q_9 1 (.slice x61_1a x61_1l x61_1c) fun m11 =>
     St1 m11 b_q_9 2 (.bool x61_2) fun m12 =>
     LdV m12 out_6b (out_6o + 1) fun v =>
     UnS v fun x64a x64l x64c =>
     LdV m12 b_q_9 0 fun v =>
     UnS v fun x66a x66l x66c =>
     HC P place_Places_links.id #[.pointer p_0, .slice x64a x64l x64c, .slice x66a x66l x66c] m12 (Cont (fun v m13 =>
       UnTup v fun us0 =>
       UnNil us0 (
        LdV m13 out_6b (out_6o + 2) fun v =>
        UnB v fun x69 =>
        Br x69 (
        LdV m13 out_6b out_6o fun v =>
        UnS v fun x71a x71l x71c =>
        LdV m13 b_q_9 0 fun v =>
        UnS v fun x73a x73l x73c =>
        HC P place_also.id #[.slice x71a x71l x71c, .slice x73a x73l x73c] m13 (Cont (fun v m14 =>
        UnS v fun x74a x74l x74c =>
        St1 m14 out_6b out_6o (.slice x74a x74l x74c) fun m15 =>
        k3 K2 p_0 x4b x4o out_6b out_6o b_q_9 0 x53a x53l x53c x54 x55 R m15) (panicR R))) (
        k3 K2 p_0 x4b x4o out_6b out_6o b_q_9 0 x53a x53l x53c x54 x55 R m13))) (panicR R)))) (panicR R))) (
  LdV m out_6b out_6o fun v =>
  UnS v fun x96_0a x96_0l x96_0c =>
  LdV m out_6b (out_6o + 1) fun v =>
  UnS v fun x96_1a x96_1l x96_1c =>
  LdV m out_6b (out_6o + 2) fun v =>
  UnB v fun x96_2 =>
  St1 m x4b x4o (.slice x96_0a x96_0l x96_0c) fun m1 =>
  St1 m1 x4b (x4o + 1) (.slice x96_1a x96_1l x96_1c) fun m2 =>
  St1 m2 x4b (x4o + 2) (.bool x96_2) fun m3 =>
  LdV m3 x4b x4o fun v =>
  UnS v fun res0_0a res0_0l res0_0c =>
  LdV m3 x4b (x4o + 1) fun v =>
  UnS v fun res0_1a res0_1l res0_1c =>
  LdV m3 x4b (x4o + 2) fun v =>
  UnB v fun res0_2 =>
  R (.returned (.agg #[.slice res0_0a res0_0l res0_0c, .slice res0_1a res0_1l res0_1c, .bool res0_2])) m3)
def l2  (p_0 : Option Addr) (x4b : Nat) (x4o : Nat) (out_6b : Nat) (out_6o : Nat) (x53a : Option Addr) (x53l : Nat) (x53c : Nat) (x54 : Int) (x55 : Int) (R : Ending → Mem → Prop) (m : Mem) : Prop :=
  ∃ (I : Nat → Option Addr → Nat → Nat → Nat → Nat → Option Addr → Nat → Nat → Int → Int → Mem → Prop) (N : Nat), I N p_0 x4b x4o out_6b out_6o x53a x53l x53c x54 x55 m ∧ ∀ N p_0 x4b x4o out_6b out_6o x53a x53l x53c x54 x55 m, I N p_0 x4b x4o out_6b out_6o x53a x53l x53c x54 x55 m → l2B  (fun p_0 x4b x4o out_6b out_6o x53a x53l x53c x54 x55 m => ∃ N1, N1 < N ∧ I N1 p_0 x4b x4o out_6b out_6o x53a x53l x53c x54 x55 m) p_0 x4b x4o out_6b out_6o x53a x53l x53c x54 x55 R m
noncomputable def l2A  (K2 : Option Addr → Nat → Nat → Nat → Nat → Option Addr → Nat → Nat → Int → Int → Mem → Prop) (R : Ending → Mem → Prop) : ACode := (.seq (.code (sL (lP (bB (sR (sL (sR (cT (sR (cE (sR (bB (sR (sL (sR (body)))))))))))))))) (.seq (.code (sL (sR (lP (bB (sR (sL (sR (cT (sR (cE (sR (bB (sR (sL (sR (body))))))))))))))))) (.seq (.block 2 (.seq (.code (sL (bB (sL (sR (sR (lP (bB (sR (sL (sR (cT (sR (cE (sR (bB (sR (sL (sR (body)))))))))))))))))))) (.seq (.code (sL (sR (bB (sL (sR (sR (lP (bB (sR (sL (sR (cT (sR (cE (sR (bB (sR (sL (sR (body))))))))))))))))))))) (.seq (.code (sL (sR (sR (bB (sL (sR (sR (lP (bB (sR (sL (sR (cT (sR (cE (sR (bB (sR (sL (sR (body)))))))))))))))))))))) (.seq (.code (sL (sR (sR (sR (bB (sL (sR (sR (lP (bB (sR (sL (sR (cT (sR (cE (sR (bB (sR (sL (sR (body))))))))))))))))))))))) (.cut (k3E fun p_0 x4b x4o out_6b out_6o q_9b q_9o x53a x53l x53c x54 x55 m => k3 K2 p_0 x4b x4o out_6b out_6o q_9b q_9o x53a x53l x53c x54 x55 R m) (sR (sR (sR (sR (bB (sL (sR (sR (lP (bB (sR (sL (sR (cT (sR (cE (sR (bB (sR (sL (sR (body)))))))))))))))))))))))))))) (.code (sR (sR (sR (lP (bB (sR (sL (sR (cT (sR (cE (sR (bB (sR (sL (sR (body)))))))))))))))))))))
def l5E (K : Option Addr → Nat → Nat → Nat → Nat → Option Addr → Nat → Nat → Int → Int → Mem → Prop) : Env → Mem → Prop := fun ρ m => UnP (ρ 0) fun p_0 => UnPA (ρ 4) fun x4b x4o => UnPA (ρ 10) fun out_10b out_10o => UnS (ρ 100) fun x100a x100l x100c => UnI (ρ 101) .i64 fun x101 => UnI (ρ 102) .i64 fun x102 => K p_0 x4b x4o out_10b out_10o x100a x100l x100c x101 x102 m
def l5B  (K5 : Option Addr → Nat → Nat → Nat → Nat → Option Addr → Nat → Nat → Int → Int → Mem → Prop) (p_0 : Option Addr) (x4b : Nat) (x4o : Nat) (out_10b : Nat) (out_10o : Nat) (x100a : Option Addr) (x100l : Nat) (x100c : Nat) (x101 : Int) (x102 : Int) (R : Ending → Mem → Prop) (m : Mem) : Prop :=
 Br (decide (x102 < x101)) (
  IxS x100a x100l x102 6 fun x104b x104o =>
  LdV m x104b x104o fun v =>
  UnI v .i64 fun x105_0 =>
  LdV m x104b (x104o + 1) fun v =>
  UnI v .u64 fun x105_1 =>
  LdV m x104b (x104o + 2) fun v =>
  UnI v .u64 fun x105_2 =>
  LdV m x104b (x104o + 3) fun v =>
  UnI v .u64 fun x105_3 =>
  LdV m x104b (x104o + 4) fun v =>
  UnI v .u64 fun x105_4 =>
  LdV m x104b (x104o + 5) fun v =>
  UnS v fun x105_5a x105_5l x105_5c =>
  NewC m #[.int .i64 0, .int .u64 0, .int .u64 0, .int .u64 0, .int .u64 0, .slice none 0 0] T_api_Rx fun b_x_12 m1 =>
  St1 m1 b_x_12 0 (.int .i64 x105_0) fun m2 =>
  St1 m2 b_x_12 1 (.int .u64 x105_1) fun m3 =>
  St1 m3 b_x_12 2 (.int .u64 x105_2) fun m4 =>
  St1 m4 b_x_12 3 (.int .u64 x105_3) fun m5 =>
  St1 m5 b_x_12 4 (.int .u64 x105_4) fun m6 =>
  St1 m6 b_x_12 5 (.slice x105_5a x105_5l x105_5c) fun m7 =>
  LdV m7 b_x_12 0 fun v =>
  UnI v .i64 fun x107_0 =>
  LdV m7 b_x_12 1 fun v =>
  UnI v .u64 fun x107_1 =>
  LdV m7 b_x_12 2 fun v =>
  UnI v .u64 fun x107_2 =>
  LdV m7 b_x_12 3 fun v =>
  UnI v .u64 fun x107_3 =>
  LdV m7 b_x_12 4 fun v =>
  UnI v .u64 fun x107_4 =>
  LdV m7 b_x_12 5 fun v =>
  UnS v fun x107_5a x107_5l x107_5c =>
  HC P place_Places_walk.id #[.pointer p_0, .agg #[.int .i64 x107_0, .int .u64 x107_1, .int .u64 x107_2, .int .u64 x107_3, .int .u64 x107_4, .slice x107_5a x107_5l x107_5c]] m7 (Cont (fun v m8 =>
    UnAgg v fun l =>
    UnCons l fun v l =>
    UnS v fun x108_0a x108_0l x108_0c =>
    UnCons l fun v l =>
    UnS v fun x108_1a x108_1l x108_1c =>
    UnCons l fun v l =>
    UnB v fun x108_2 =>
    UnNil l (
     NewC m8 #[.slice none 0 0, .slice none 0 0, .bool false] T_place_part fun b_q_13 m9 =>
     St1 m9 b_q_13 0 (.slice x108_0a x108_0l x108_0c) fun m10 =>
     St1 m10 b_q_13 1 (.slice x108_1a x108_1l x108_1c) fun m11 =>
     St1 m11 b_q_13 2 (.bool x108_2) fun m12 =>
     Sub m12 fun r13 =>
     LdV r13 out_10b out_10o fun v =>
     UnS v fun x110a x110l x110c =>
     LdV r13 b_q_13 0 fun v =>
     UnS v fun x112a x112l x112c =>
     LdV r13 out_10b (out_10o + 1) fun v =>
     UnS v fun x115a x115l x115c =>
     LdV r13 b_q_13 1 fun v =>
     UnS v fun x117a x117l x117c =>
     LdV r13 out_10b (out_10o + 2) fun v =>
     UnB v fun x120 =>
     HC P place_also.id #[.slice x110a x110l x110c, .slice x112a x112l x112c] m12 (Cont (fun v m14 =>
       UnS v fun x113a x113l x113c =>
       Lk r13 m14 fun r15 =>
       HC P place_also.id #[.slice x115a x115l x115c, .slice x117a x117l x117c] m14 (Cont (fun v m16 =>
        UnS v fun x118a x118l x118c =>
        Lk r15 m16 fun r17 =>
        Br x120 (
        St1 m16 out_10b out_10o (.slice x113a x113l x113c) fun m18 =>
        St1 m18 out_10b (out_10o + 1) (.slice x118a x118l x118c) fun m19 =>
        St1 m19 out_10b (out_10o + 2) (.bool true) fun m20 =>
        K5 p_0 x4b x4o out_10b out_10o x100a x100l x100c x101 (IntKind.i64.wrap (x102 + 1)) m20) (
        LdV m16 b_q_13 2 fun v =>
        UnB v fun x123 =>
        St1 m16 out_10b out_10o (.slice x113a x113l x113c) fun m18 =>
        St1 m18 out_10b (out_10o + 1) (.slice x118a x118l x118c) fun m19 =>
        St1 m19 out_10b (out_10o + 2) (.bool x123) fun m20 =>
        K5 p_0 x4b x4o out_10b out_10o x100a x100l x100c x101 (IntKind.i64.wrap (x102 + 1)) m20)) (panicR R))) (panicR R)))) (panicR R))) (
  LdV m out_10b out_10o fun v =>
  UnS v fun x127_0a x127_0l x127_0c =>
  LdV m out_10b (out_10o + 1) fun v =>
  UnS v fun x127_1a x127_1l x127_1c =>
  LdV m out_10b (out_10o + 2) fun v =>
  UnB v fun x127_2 =>
  St1 m x4b x4o (.slice x127_0a x127_0l x127_0c) fun m1 =>
  St1 m1 x4b (x4o + 1) (.slice x127_1a x127_1l x127_1c) fun m2 =>
  St1 m2 x4b (x4o + 2) (.bool x127_2) fun m3 =>
  LdV m3 x4b x4o fun v =>
  UnS v fun res0_0a res0_0l res0_0c =>
  LdV m3 x4b (x4o + 1) fun v =>
  UnS v fun res0_1a res0_1l res0_1c =>
  LdV m3 x4b (x4o + 2) fun v =>
  UnB v fun res0_2 =>
  R (.returned (.agg #[.slice res0_0a res0_0l res0_0c, .slice res0_1a res0_1l res0_1c, .bool res0_2])) m3)
def l5  (p_0 : Option Addr) (x4b : Nat) (x4o : Nat) (out_10b : Nat) (out_10o : Nat) (x100a : Option Addr) (x100l : Nat) (x100c : Nat) (x101 : Int) (x102 : Int) (R : Ending → Mem → Prop) (m : Mem) : Prop :=
  ∃ (I : Nat → Option Addr → Nat → Nat → Nat → Nat → Option Addr → Nat → Nat → Int → Int → Mem → Prop) (N : Nat), I N p_0 x4b x4o out_10b out_10o x100a x100l x100c x101 x102 m ∧ ∀ N p_0 x4b x4o out_10b out_10o x100a x100l x100c x101 x102 m, I N p_0 x4b x4o out_10b out_10o x100a x100l x100c x101 x102 m → l5B  (fun p_0 x4b x4o out_10b out_10o x100a x100l x100c x101 x102 m => ∃ N1, N1 < N ∧ I N1 p_0 x4b x4o out_10b out_10o x100a x100l x100c x101 x102 m) p_0 x4b x4o out_10b out_10o x100a x100l x100c x101 x102 R m
noncomputable def l5A  (K5 : Option Addr → Nat → Nat → Nat → Nat → Option Addr → Nat → Nat → Int → Int → Mem → Prop) (R : Ending → Mem → Prop) : ACode := (.code (lP (bB (sR (sL (sR (cT (sR (cE (sR (cE (sR (bB (sR (sL (sR (body)))))))))))))))))
def k6E (K : Nat → Nat → Nat → Nat → Nat → Nat → Mem → Prop) : Env → Mem → Prop := fun ρ m => UnPA (ρ 3) fun r_3b r_3o => UnPA (ρ 4) fun x4b x4o => UnPA (ρ 14) fun q_14b q_14o => K r_3b r_3o x4b x4o q_14b q_14o m
def k6  (r_3b : Nat) (r_3o : Nat) (x4b : Nat) (x4o : Nat) (q_14b : Nat) (q_14o : Nat) (R : Ending → Mem → Prop) (m : Mem) : Prop :=
 LdV m q_14b (q_14o + 2) fun v =>
 UnB v fun x144 =>
 Br x144 (
  St1 m q_14b (q_14o + 2) (.bool true) fun m1 =>
  LdV m1 q_14b q_14o fun v =>
  UnS v fun x151_0a x151_0l x151_0c =>
  LdV m1 q_14b (q_14o + 1) fun v =>
  UnS v fun x151_1a x151_1l x151_1c =>
  LdV m1 q_14b (q_14o + 2) fun v =>
  UnB v fun x151_2 =>
  St1 m1 x4b x4o (.slice x151_0a x151_0l x151_0c) fun m2 =>
  St1 m2 x4b (x4o + 1) (.slice x151_1a x151_1l x151_1c) fun m3 =>
  St1 m3 x4b (x4o + 2) (.bool x151_2) fun m4 =>
  LdV m4 x4b x4o fun v =>
  UnS v fun res0_0a res0_0l res0_0c =>
  LdV m4 x4b (x4o + 1) fun v =>
  UnS v fun res0_1a res0_1l res0_1c =>
  LdV m4 x4b (x4o + 2) fun v =>
  UnB v fun res0_2 =>
  R (.returned (.agg #[.slice res0_0a res0_0l res0_0c, .slice res0_1a res0_1l res0_1c, .bool res0_2])) m4) (
  LdV m r_3b r_3o fun v =>
  UnI v .i64 fun x147 =>
  St1 m q_14b (q_14o + 2) (.bool (x147 != 5)) fun m1 =>
  LdV m1 q_14b q_14o fun v =>
  UnS v fun x151_0a x151_0l x151_0c =>
  LdV m1 q_14b (q_14o + 1) fun v =>
  UnS v fun x151_1a x151_1l x151_1c =>
  LdV m1 q_14b (q_14o + 2) fun v =>
  UnB v fun x151_2 =>
  St1 m1 x4b x4o (.slice x151_0a x151_0l x151_0c) fun m2 =>
  St1 m2 x4b (x4o + 1) (.slice x151_1a x151_1l x151_1c) fun m3 =>
  St1 m3 x4b (x4o + 2) (.bool x151_2) fun m4 =>
  LdV m4 x4b x4o fun v =>
  UnS v fun res0_0a res0_0l res0_0c =>
  LdV m4 x4b (x4o + 1) fun v =>
  UnS v fun res0_1a res0_1l res0_1c =>
  LdV m4 x4b (x4o + 2) fun v =>
  UnB v fun res0_2 =>
  R (.returned (.agg #[.slice res0_0a res0_0l res0_0c, .slice res0_1a res0_1l res0_1c, .bool res0_2])) m4)
noncomputable def k6A  (R : Ending → Mem → Prop) : ACode := (.code (sR (sR (sR (sR (body))))))
def e0 (p_0 : Option Addr) (r_1_0 : Int) (r_1_1 : Int) (r_1_2 : Int) (r_1_3 : Int) (r_1_4 : Int) (r_1_5a : Option Addr) (r_1_5l : Nat) (r_1_5c : Nat) (R : Ending → Mem → Prop) (m : Mem) : Prop :=
 NewC m #[.int .i64 r_1_0, .int .u64 r_1_1, .int .u64 r_1_2, .int .u64 r_1_3, .int .u64 r_1_4, .slice r_1_5a r_1_5l r_1_5c] T_api_Rx fun b_r_3 m1 =>
 NewC m1 #[.slice none 0 0, .slice none 0 0, .bool false] T_place_part fun b4 m2 =>
 LdV m2 b_r_3 0 fun v =>
 UnI v .i64 fun x16 =>
 Br (x16 == 1) (
  NilC p_0 (fun x20b x20o =>
   LdV m2 x20b x20o fun v =>
   UnS v fun x22a x22l x22c =>
   Sub m2 fun r3 =>
   NilC p_0 (fun x27b x27o =>
    LdV r3 x27b x27o fun v =>
    UnS v fun x29a x29l x29c =>
    LdV r3 b_r_3 1 fun v =>
    UnI v .u64 fun x31_0 =>
    LdV r3 b_r_3 2 fun v =>
    UnI v .u64 fun x31_1 =>
    LdV r3 b_r_3 3 fun v =>
    UnI v .u64 fun x31_2 =>
    LdV r3 b_r_3 4 fun v =>
    UnI v .u64 fun x31_3 =>
    NilC p_0 (fun x35b x35o =>
     LdV r3 x35b (x35o + 3) fun v =>
     UnS v fun x37a x37l x37c =>
     (
      NewC m2 #[.int .u64 x31_0, .int .u64 x31_1, .int .u64 x31_2, .int .u64 x31_3] T_api_Set fun b32 m4 =>
      Lk r3 m4 fun r5 =>
      (
       BiN P .append #[T_sl_api_Set, T_sl_api_Set] T_sl_api_Set #[false, false] #[.slice x29a x29l x29c, .slice (some ⟨b32, 0, none⟩) 1 1] m4 (fun w m6 =>
        UnS w fun x33a x33l x33c =>
        Lk r5 m6 fun r7 =>
        NewC m6 #[.slice none 0 0] T_sl_int fun b38 m8 =>
        Lk r7 m8 fun r9 =>
        BiN P .append #[T_sl_sl_int, T_sl_sl_int] T_sl_sl_int #[false, false] #[.slice x37a x37l x37c, .slice (some ⟨b38, 0, none⟩) 1 1] m8 (fun w m10 =>
        UnS w fun x39a x39l x39c =>
        NilC p_0 (fun x40b x40o =>
        St1 m10 x40b x40o (.slice x33a x33l x33c) fun m11 =>
        NilC p_0 (fun x42b x42o =>
        St1 m11 x42b (x42o + 3) (.slice x39a x39l x39c) fun m12 =>
        k1  b4 0 ((x22l : Nat) : Int) R m12) (False)) (False)) (panicR R)) (panicR R)) ∧ (
       NewC m4 #[.slice none 0 0] T_sl_int fun b38 m6 =>
       Lk r5 m6 fun r7 =>
       BiN P .append #[T_sl_api_Set, T_sl_api_Set] T_sl_api_Set #[false, false] #[.slice x29a x29l x29c, .slice (some ⟨b32, 0, none⟩) 1 1] m6 (fun w m8 =>
        UnS w fun x33a x33l x33c =>
        Lk r7 m8 fun r9 =>
        BiN P .append #[T_sl_sl_int, T_sl_sl_int] T_sl_sl_int #[false, false] #[.slice x37a x37l x37c, .slice (some ⟨b38, 0, none⟩) 1 1] m8 (fun w m10 =>
        UnS w fun x39a x39l x39c =>
        NilC p_0 (fun x40b x40o =>
        St1 m10 x40b x40o (.slice x33a x33l x33c) fun m11 =>
        NilC p_0 (fun x42b x42o =>
        St1 m11 x42b (x42o + 3) (.slice x39a x39l x39c) fun m12 =>
        k1  b4 0 ((x22l : Nat) : Int) R m12) (False)) (False)) (panicR R)) (panicR R))) ∧ (
      NewC m2 #[.slice none 0 0] T_sl_int fun b38 m4 =>
      Lk r3 m4 fun r5 =>
      NewC m4 #[.int .u64 x31_0, .int .u64 x31_1, .int .u64 x31_2, .int .u64 x31_3] T_api_Set fun b32 m6 =>
      Lk r5 m6 fun r7 =>
      BiN P .append #[T_sl_api_Set, T_sl_api_Set] T_sl_api_Set #[false, false] #[.slice x29a x29l x29c, .slice (some ⟨b32, 0, none⟩) 1 1] m6 (fun w m8 =>
       UnS w fun x33a x33l x33c =>
       Lk r7 m8 fun r9 =>
       BiN P .append #[T_sl_sl_int, T_sl_sl_int] T_sl_sl_int #[false, false] #[.slice x37a x37l x37c, .slice (some ⟨b38, 0, none⟩) 1 1] m8 (fun w m10 =>
        UnS w fun x39a x39l x39c =>
        NilC p_0 (fun x40b x40o =>
        St1 m10 x40b x40o (.slice x33a x33l x33c) fun m11 =>
        NilC p_0 (fun x42b x42o =>
        St1 m11 x42b (x42o + 3) (.slice x39a x39l x39c) fun m12 =>
        k1  b4 0 ((x22l : Nat) : Int) R m12) (False)) (False)) (panicR R)) (panicR R))) (False)) (False)) (R (.panicked (nilPanic P)) m2)) (
  Br (x16 == 2) (
   NewC m2 #[.slice none 0 0, .slice none 0 0, .bool false] T_place_part fun b_out_6 m3 =>
   St1 m3 b_out_6 0 (.slice none 0 0) fun m4 =>
   St1 m4 b_out_6 1 (.slice none 0 0) fun m5 =>
   St1 m5 b_out_6 2 (.bool true) fun m6 =>
   LdV m6 b_r_3 5 fun v =>
   UnS v fun x53a x53l x53c =>
   l2  p_0 b4 0 b_out_6 0 x53a x53l x53c ((x53l : Nat) : Int) 0 R m6) (
   Br (x16 == 3) (
    NewC m2 #[.slice none 0 0, .slice none 0 0, .bool false] T_place_part fun b_out_10 m3 =>
    LdV m3 b_r_3 5 fun v =>
    UnS v fun x100a x100l x100c =>
    l5  p_0 b4 0 b_out_10 0 x100a x100l x100c ((x100l : Nat) : Int) 0 R m3) (
    LdV m2 b_r_3 5 fun v =>
    UnS v fun x130a x130l x130c =>
    IxS x130a x130l 0 6 fun x131b x131o =>
    LdV m2 x131b x131o fun v =>
    UnI v .i64 fun x132_0 =>
    LdV m2 x131b (x131o + 1) fun v =>
    UnI v .u64 fun x132_1 =>
    LdV m2 x131b (x131o + 2) fun v =>
    UnI v .u64 fun x132_2 =>
    LdV m2 x131b (x131o + 3) fun v =>
    UnI v .u64 fun x132_3 =>
    LdV m2 x131b (x131o + 4) fun v =>
    UnI v .u64 fun x132_4 =>
    LdV m2 x131b (x131o + 5) fun v =>
    UnS v fun x132_5a x132_5l x132_5c =>
    HC P place_Places_walk.id #[.pointer p_0, .agg #[.int .i64 x132_0, .int .u64 x132_1, .int .u64 x132_2, .int .u64 x132_3, .int .u64 x132_4, .slice x132_5a x132_5l x132_5c]] m2 (Cont (fun v m3 =>
      UnAgg v fun l =>
      UnCons l fun v l =>
      UnS v fun x133_0a x133_0l x133_0c =>
      UnCons l fun v l =>
      UnS v fun x133_1a x133_1l x133_1c =>
      UnCons l fun v l =>
      UnB v fun x133_2 =>
      UnNil l (
       NewC m3 #[.slice none 0 0, .slice none 0 0, .bool false] T_place_part fun b_q_14 m4 =>
       St1 m4 b_q_14 0 (.slice x133_0a x133_0l x133_0c) fun m5 =>
       St1 m5 b_q_14 1 (.slice x133_1a x133_1l x133_1c) fun m6 =>
       St1 m6 b_q_14 2 (.bool x133_2) fun m7 =>
       LdV m7 b_r_3 0 fun v =>
       UnI v .i64 fun x135 =>
       Br (x135 != 6) (
        LdV m7 b_q_14 1 fun v =>
        UnS v fun x139a x139l x139c =>
        LdV m7 b_q_14 0 fun v =>
        UnS v fun x141a x141l x141c =>
        HC P place_Places_links.id #[.pointer p_0, .slice x139a x139l x139c, .slice x141a x141l x141c] m7 (Cont (fun v m8 =>
        UnTup v fun us0 =>
        UnNil us0 (
        k6  b_r_3 0 b4 0 b_q_14 0 R m8)) (panicR R))) (
        k6  b_r_3 0 b4 0 b_q_14 0 R m7))) (panicR R)))))
noncomputable def e0A (R : Ending → Mem → Prop) : ACode := (.seq (.code (sL (body))) (.seq (.seq (.code (sL (sL (sR (body))))) (.block 0 (.seq (.code (sL (bB (sR (sL (sR (body))))))) (.cond (.tmp 17) (.seq (.code (sL (cT (sR (bB (sR (sL (sR (body))))))))) (.seq (.code (sL (sR (cT (sR (bB (sR (sL (sR (body)))))))))) (.cut (k1E fun x4b x4o n_5 m => k1  x4b x4o n_5 R m) (sR (sR (cT (sR (bB (sR (sL (sR (body)))))))))))) (.seq (.code (sL (cE (sR (bB (sR (sL (sR (body))))))))) (.cond (.tmp 49) (.seq (.code (sL (cT (sR (cE (sR (bB (sR (sL (sR (body))))))))))) (.seq (.seq (.code (sL (sL (sR (cT (sR (cE (sR (bB (sR (sL (sR (body))))))))))))) (.block 1 (.cut (l2E fun p_0 x4b x4o out_6b out_6o x53a x53l x53c x54 x55 m => l2  p_0 x4b x4o out_6b out_6o x53a x53l x53c x54 x55 R m) (.loop (lP (bB (sR (sL (sR (cT (sR (cE (sR (bB (sR (sL (sR (body)))))))))))))))))) (.code (sR (sR (cT (sR (cE (sR (bB (sR (sL (sR (body)))))))))))))) (.seq (.code (sL (cE (sR (cE (sR (bB (sR (sL (sR (body))))))))))) (.cond (.tmp 97) (.seq (.code (sL (cT (sR (cE (sR (cE (sR (bB (sR (sL (sR (body))))))))))))) (.seq (.seq (.code (sL (sL (sR (cT (sR (cE (sR (cE (sR (bB (sR (sL (sR (body))))))))))))))) (.block 3 (.cut (l5E fun p_0 x4b x4o out_10b out_10o x100a x100l x100c x101 x102 m => l5  p_0 x4b x4o out_10b out_10o x100a x100l x100c x101 x102 R m) (.loop (lP (bB (sR (sL (sR (cT (sR (cE (sR (cE (sR (bB (sR (sL (sR (body)))))))))))))))))))) (.code (sR (sR (cT (sR (cE (sR (cE (sR (bB (sR (sL (sR (body)))))))))))))))) (.code (cE (sR (cE (sR (cE (sR (bB (sR (sL (sR (body)))))))))))))))))))) (.seq (.code (sL (sR (sR (body))))) (.seq (.code (sL (sR (sR (sR (body)))))) (.cut (k6E fun r_3b r_3o x4b x4o q_14b q_14o m => k6  r_3b r_3o x4b x4o q_14b q_14o R m) (sR (sR (sR (sR (body))))))))))
abbrev k6Q  (R : Ending → Mem → Prop) : Exit → Env → Mem → Prop := (bodyQ P fn R)
abbrev k1Q  (R : Ending → Mem → Prop) : Exit → Env → Mem → Prop := (blockQ 0 (thenQ (acpt P od (panicR R) (.seq (.code (sL (sR (sR (body))))) (.seq (.code (sL (sR (sR (sR (body)))))) (.cut (k6E fun r_3b r_3o x4b x4o q_14b q_14o m => k6  r_3b r_3o x4b x4o q_14b q_14o R m) (sR (sR (sR (sR (body)))))))) (bodyQ P fn R)) (bodyQ P fn R)))
abbrev l2Q  (R : Ending → Mem → Prop) : Exit → Env → Mem → Prop := (blockQ 1 (thenQ (acpt P od (panicR R) (.code (sR (sR (cT (sR (cE (sR (bB (sR (sL (sR (body)))))))))))) (blockQ 0 (thenQ (acpt P od (panicR R) (.seq (.code (sL (sR (sR (body))))) (.seq (.code (sL (sR (sR (sR (body)))))) (.cut (k6E fun r_3b r_3o x4b x4o q_14b q_14o m => k6  r_3b r_3o x4b x4o q_14b q_14o R m) (sR (sR (sR (sR (body)))))))) (bodyQ P fn R)) (bodyQ P fn R)))) (blockQ 0 (thenQ (acpt P od (panicR R) (.seq (.code (sL (sR (sR (body))))) (.seq (.code (sL (sR (sR (sR (body)))))) (.cut (k6E fun r_3b r_3o x4b x4o q_14b q_14o m => k6  r_3b r_3o x4b x4o q_14b q_14o R m) (sR (sR (sR (sR (body)))))))) (bodyQ P fn R)) (bodyQ P fn R)))))
abbrev l5Q  (R : Ending → Mem → Prop) : Exit → Env → Mem → Prop := (blockQ 3 (thenQ (acpt P od (panicR R) (.code (sR (sR (cT (sR (cE (sR (cE (sR (bB (sR (sL (sR (body)))))))))))))) (blockQ 0 (thenQ (acpt P od (panicR R) (.seq (.code (sL (sR (sR (body))))) (.seq (.code (sL (sR (sR (sR (body)))))) (.cut (k6E fun r_3b r_3o x4b x4o q_14b q_14o m => k6  r_3b r_3o x4b x4o q_14b q_14o R m) (sR (sR (sR (sR (body)))))))) (bodyQ P fn R)) (bodyQ P fn R)))) (blockQ 0 (thenQ (acpt P od (panicR R) (.seq (.code (sL (sR (sR (body))))) (.seq (.code (sL (sR (sR (sR (body)))))) (.cut (k6E fun r_3b r_3o x4b x4o q_14b q_14o m => k6  r_3b r_3o x4b x4o q_14b q_14o R m) (sR (sR (sR (sR (body)))))))) (bodyQ P fn R)) (bodyQ P fn R)))))
abbrev k3Q (K2 : Option Addr → Nat → Nat → Nat → Nat → Option Addr → Nat → Nat → Int → Int → Mem → Prop) (R : Ending → Mem → Prop) : Exit → Env → Mem → Prop := (blockQ 2 (thenQ (acpt P od (panicR R) (.code (sR (sR (sR (lP (bB (sR (sL (sR (cT (sR (cE (sR (bB (sR (sL (sR (body)))))))))))))))))) (thenQ (l2E K2) (l2Q  R))) (thenQ (l2E K2) (l2Q  R))))
abbrev k4Q (K2 : Option Addr → Nat → Nat → Nat → Nat → Option Addr → Nat → Nat → Int → Int → Mem → Prop) (R : Ending → Mem → Prop) : Exit → Env → Mem → Prop := (k3Q K2 R)
theorem k1_eq  (R : Ending → Mem → Prop) (x4b : Nat) (x4o : Nat) (n_5 : Int) (ρ : Env) (m : Mem) : k1  x4b x4o n_5 R m = acpt P od (panicR R) (k1A  R) (k1Q  R) (upd (upd ρ 5 (.int .i64 n_5)) 4 (.pointer (some ⟨x4b, x4o, none⟩))) m := by kernel_rfl
theorem k1_er  (R : Ending → Mem → Prop) : (k1A  R).erase = sR (sR (cT (sR (bB (sR (sL (sR (body)))))))) := by kernel_rfl
theorem k1_ok  (R : Ending → Mem → Prop) (ρ : Env) (m : Mem) (h : (k1E fun x4b x4o n_5 m => k1  x4b x4o n_5 R m) ρ m) : cpt P od (panicR R) (sR (sR (cT (sR (bB (sR (sL (sR (body))))))))) (k1Q  R) ρ m := by
  unfold k1E at h
  obtain ⟨x4b, x4o, e4, h⟩ := h.ex
  obtain ⟨n_5, e5, h⟩ := h.ex
  rw [← upd_self e4, ← upd_self e5]
  rw [← k1_er  R]
  refine acpt_sound (P := P) (k1A  R) _ _ _ True.intro ?_
  exact Eq.mp (k1_eq  R x4b x4o n_5 ρ m) h
theorem k4_eq (K2 : Option Addr → Nat → Nat → Nat → Nat → Option Addr → Nat → Nat → Int → Int → Mem → Prop) (R : Ending → Mem → Prop) (p_0 : Option Addr) (x4b : Nat) (x4o : Nat) (out_6b : Nat) (out_6o : Nat) (q_9b : Nat) (q_9o : Nat) (x53a : Option Addr) (x53l : Nat) (x53c : Nat) (x54 : Int) (x55 : Int) (ρ : Env) (m : Mem) : k4 K2 p_0 x4b x4o out_6b out_6o q_9b q_9o x53a x53l x53c x54 x55 R m = acpt P od (panicR R) (k4A K2 R) (k4Q K2 R) (upd (upd (upd (upd (upd (upd (upd ρ 55 (.int .i64 x55)) 54 (.int .i64 x54)) 53 (.slice x53a x53l x53c)) 9 (.pointer (some ⟨q_9b, q_9o, none⟩))) 6 (.pointer (some ⟨out_6b, out_6o, none⟩))) 4 (.pointer (some ⟨x4b, x4o, none⟩))) 0 (.pointer p_0)) m := by kernel_rfl
theorem k4_er (K2 : Option Addr → Nat → Nat → Nat → Nat → Option Addr → Nat → Nat → Int → Int → Mem → Prop) (R : Ending → Mem → Prop) : (k4A K2 R).erase = sR (sR (sR (sR (sR (bB (sL (sR (sR (lP (bB (sR (sL (sR (cT (sR (cE (sR (bB (sR (sL (sR (body)))))))))))))))))))))) := by kernel_rfl
theorem k4_ok (K2 : Option Addr → Nat → Nat → Nat → Nat → Option Addr → Nat → Nat → Int → Int → Mem → Prop) (R : Ending → Mem → Prop) (ρ : Env) (m : Mem) (h : (k4E fun p_0 x4b x4o out_6b out_6o q_9b q_9o x53a x53l x53c x54 x55 m => k4 K2 p_0 x4b x4o out_6b out_6o q_9b q_9o x53a x53l x53c x54 x55 R m) ρ m) : cpt P od (panicR R) (sR (sR (sR (sR (sR (bB (sL (sR (sR (lP (bB (sR (sL (sR (cT (sR (cE (sR (bB (sR (sL (sR (body))))))))))))))))))))))) (k4Q K2 R) ρ m := by
  unfold k4E at h
  obtain ⟨p_0, e0, h⟩ := h.ex
  obtain ⟨x4b, x4o, e4, h⟩ := h.ex
  obtain ⟨out_6b, out_6o, e6, h⟩ := h.ex
  obtain ⟨q_9b, q_9o, e9, h⟩ := h.ex
  obtain ⟨x53a, x53l, x53c, e53, h⟩ := h.ex
  obtain ⟨x54, e54, h⟩ := h.ex
  obtain ⟨x55, e55, h⟩ := h.ex
  rw [← upd_self e0, ← upd_self e4, ← upd_self e6, ← upd_self e9, ← upd_self e53, ← upd_self e54, ← upd_self e55]
  rw [← k4_er K2 R]
  refine acpt_sound (P := P) (k4A K2 R) _ _ _ True.intro ?_
  exact Eq.mp (k4_eq K2 R p_0 x4b x4o out_6b out_6o q_9b q_9o x53a x53l x53c x54 x55 ρ m) h
theorem k3_eq (K2 : Option Addr → Nat → Nat → Nat → Nat → Option Addr → Nat → Nat → Int → Int → Mem → Prop) (R : Ending → Mem → Prop) (p_0 : Option Addr) (x4b : Nat) (x4o : Nat) (out_6b : Nat) (out_6o : Nat) (q_9b : Nat) (q_9o : Nat) (x53a : Option Addr) (x53l : Nat) (x53c : Nat) (x54 : Int) (x55 : Int) (ρ : Env) (m : Mem) : k3 K2 p_0 x4b x4o out_6b out_6o q_9b q_9o x53a x53l x53c x54 x55 R m = acpt P od (panicR R) (k3A K2 R) (k3Q K2 R) (upd (upd (upd (upd (upd (upd (upd ρ 55 (.int .i64 x55)) 54 (.int .i64 x54)) 53 (.slice x53a x53l x53c)) 9 (.pointer (some ⟨q_9b, q_9o, none⟩))) 6 (.pointer (some ⟨out_6b, out_6o, none⟩))) 4 (.pointer (some ⟨x4b, x4o, none⟩))) 0 (.pointer p_0)) m := by kernel_rfl
theorem k3_er (K2 : Option Addr → Nat → Nat → Nat → Nat → Option Addr → Nat → Nat → Int → Int → Mem → Prop) (R : Ending → Mem → Prop) : (k3A K2 R).erase = sR (sR (sR (sR (bB (sL (sR (sR (lP (bB (sR (sL (sR (cT (sR (cE (sR (bB (sR (sL (sR (body))))))))))))))))))))) := by kernel_rfl
theorem k3_ok (K2 : Option Addr → Nat → Nat → Nat → Nat → Option Addr → Nat → Nat → Int → Int → Mem → Prop) (R : Ending → Mem → Prop) (ρ : Env) (m : Mem) (h : (k3E fun p_0 x4b x4o out_6b out_6o q_9b q_9o x53a x53l x53c x54 x55 m => k3 K2 p_0 x4b x4o out_6b out_6o q_9b q_9o x53a x53l x53c x54 x55 R m) ρ m) : cpt P od (panicR R) (sR (sR (sR (sR (bB (sL (sR (sR (lP (bB (sR (sL (sR (cT (sR (cE (sR (bB (sR (sL (sR (body)))))))))))))))))))))) (k3Q K2 R) ρ m := by
  unfold k3E at h
  obtain ⟨p_0, e0, h⟩ := h.ex
  obtain ⟨x4b, x4o, e4, h⟩ := h.ex
  obtain ⟨out_6b, out_6o, e6, h⟩ := h.ex
  obtain ⟨q_9b, q_9o, e9, h⟩ := h.ex
  obtain ⟨x53a, x53l, x53c, e53, h⟩ := h.ex
  obtain ⟨x54, e54, h⟩ := h.ex
  obtain ⟨x55, e55, h⟩ := h.ex
  rw [← upd_self e0, ← upd_self e4, ← upd_self e6, ← upd_self e9, ← upd_self e53, ← upd_self e54, ← upd_self e55]
  rw [← k3_er K2 R]
  refine acpt_sound (P := P) (k3A K2 R) _ _ _ ⟨(fun ρ m h => k4_ok K2 R ρ m h), True.intro⟩ ?_
  exact Eq.mp (k3_eq K2 R p_0 x4b x4o out_6b out_6o q_9b q_9o x53a x53l x53c x54 x55 ρ m) h
theorem l2_eq  (K2 : Option Addr → Nat → Nat → Nat → Nat → Option Addr → Nat → Nat → Int → Int → Mem → Prop) (R : Ending → Mem → Prop) (p_0 : Option Addr) (x4b : Nat) (x4o : Nat) (out_6b : Nat) (out_6o : Nat) (x53a : Option Addr) (x53l : Nat) (x53c : Nat) (x54 : Int) (x55 : Int) (ρ : Env) (m : Mem) : l2B  K2 p_0 x4b x4o out_6b out_6o x53a x53l x53c x54 x55 R m = acpt P od (panicR R) (l2A  K2 R) (thenQ (l2E K2) (l2Q  R)) (upd (upd (upd (upd (upd (upd ρ 55 (.int .i64 x55)) 54 (.int .i64 x54)) 53 (.slice x53a x53l x53c)) 6 (.pointer (some ⟨out_6b, out_6o, none⟩))) 4 (.pointer (some ⟨x4b, x4o, none⟩))) 0 (.pointer p_0)) m := by kernel_rfl
theorem l2_er  (K2 : Option Addr → Nat → Nat → Nat → Nat → Option Addr → Nat → Nat → Int → Int → Mem → Prop) (R : Ending → Mem → Prop) : (l2A  K2 R).erase = lP (bB (sR (sL (sR (cT (sR (cE (sR (bB (sR (sL (sR (body))))))))))))) := by kernel_rfl
theorem l2_ok  (R : Ending → Mem → Prop) (ρ : Env) (m : Mem) (h : (l2E fun p_0 x4b x4o out_6b out_6o x53a x53l x53c x54 x55 m => l2  p_0 x4b x4o out_6b out_6o x53a x53l x53c x54 x55 R m) ρ m) : cpt P od (panicR R) (.loop (lP (bB (sR (sL (sR (cT (sR (cE (sR (bB (sR (sL (sR (body))))))))))))))) (l2Q  R) ρ m := by
  unfold l2E at h
  obtain ⟨p_0, e0, h⟩ := h.ex
  obtain ⟨x4b, x4o, e4, h⟩ := h.ex
  obtain ⟨out_6b, out_6o, e6, h⟩ := h.ex
  obtain ⟨x53a, x53l, x53c, e53, h⟩ := h.ex
  obtain ⟨x54, e54, h⟩ := h.ex
  obtain ⟨x55, e55, h⟩ := h.ex
  obtain ⟨I, N, h0, hs⟩ := h
  refine ⟨fun N => l2E (I N), N, (by show l2E (I N) ρ m; unfold l2E; rw [e0, e4, e6, e53, e54, e55]; exact h0), ?_⟩
  clear h0 e0 e4 e6 e53 e54 e55
  intro N ρ m h
  unfold l2E at h
  obtain ⟨p_0, e0, h⟩ := h.ex
  obtain ⟨x4b, x4o, e4, h⟩ := h.ex
  obtain ⟨out_6b, out_6o, e6, h⟩ := h.ex
  obtain ⟨x53a, x53l, x53c, e53, h⟩ := h.ex
  obtain ⟨x54, e54, h⟩ := h.ex
  obtain ⟨x55, e55, h⟩ := h.ex
  refine cpt_mono (P := P) (lP (bB (sR (sL (sR (cT (sR (cE (sR (bB (sR (sL (sR (body)))))))))))))) (Q := thenQ (l2E fun p_0 x4b x4o out_6b out_6o x53a x53l x53c x54 x55 m => ∃ N1, N1 < N ∧ I N1 p_0 x4b x4o out_6b out_6o x53a x53l x53c x54 x55 m) (l2Q  R)) (fun e ρ m h => ?_) ρ m ?_
  · cases e with
    | normal =>
      have h : l2E (fun p_0 x4b x4o out_6b out_6o x53a x53l x53c x54 x55 m => ∃ N1, N1 < N ∧ I N1 p_0 x4b x4o out_6b out_6o x53a x53l x53c x54 x55 m) ρ m := h
      unfold l2E at h
      obtain ⟨p_0, e0, h⟩ := h.ex
      obtain ⟨x4b, x4o, e4, h⟩ := h.ex
      obtain ⟨out_6b, out_6o, e6, h⟩ := h.ex
      obtain ⟨x53a, x53l, x53c, e53, h⟩ := h.ex
      obtain ⟨x54, e54, h⟩ := h.ex
      obtain ⟨x55, e55, h⟩ := h.ex
      obtain ⟨N1, hlt, h⟩ := h
      exact ⟨N1, hlt, (by show l2E (I N1) ρ m; unfold l2E; rw [e0, e4, e6, e53, e54, e55]; exact h)⟩
    | _ => exact h
  have hh := hs N p_0 x4b x4o out_6b out_6o x53a x53l x53c x54 x55 m h
  generalize (fun p_0 x4b x4o out_6b out_6o x53a x53l x53c x54 x55 m => ∃ N1, N1 < N ∧ I N1 p_0 x4b x4o out_6b out_6o x53a x53l x53c x54 x55 m : Option Addr → Nat → Nat → Nat → Nat → Option Addr → Nat → Nat → Int → Int → Mem → Prop) = K2 at hh ⊢
  rw [← upd_self e0, ← upd_self e4, ← upd_self e6, ← upd_self e53, ← upd_self e54, ← upd_self e55]
  rw [← l2_er  K2 R]
  refine acpt_sound (P := P) (l2A  K2 R) _ _ _ ⟨⟨⟨True.intro, ⟨⟨⟨⟨(fun ρ m h => k3_ok K2 R ρ m h), True.intro⟩, True.intro⟩, True.intro⟩, True.intro⟩⟩, True.intro⟩, True.intro⟩ ?_
  exact Eq.mp (l2_eq  K2 R p_0 x4b x4o out_6b out_6o x53a x53l x53c x54 x55 ρ m) hh
theorem l5_eq  (K5 : Option Addr → Nat → Nat → Nat → Nat → Option Addr → Nat → Nat → Int → Int → Mem → Prop) (R : Ending → Mem → Prop) (p_0 : Option Addr) (x4b : Nat) (x4o : Nat) (out_10b : Nat) (out_10o : Nat) (x100a : Option Addr) (x100l : Nat) (x100c : Nat) (x101 : Int) (x102 : Int) (ρ : Env) (m : Mem) : l5B  K5 p_0 x4b x4o out_10b out_10o x100a x100l x100c x101 x102 R m = acpt P od (panicR R) (l5A  K5 R) (thenQ (l5E K5) (l5Q  R)) (upd (upd (upd (upd (upd (upd ρ 102 (.int .i64 x102)) 101 (.int .i64 x101)) 100 (.slice x100a x100l x100c)) 10 (.pointer (some ⟨out_10b, out_10o, none⟩))) 4 (.pointer (some ⟨x4b, x4o, none⟩))) 0 (.pointer p_0)) m := by kernel_rfl
theorem l5_er  (K5 : Option Addr → Nat → Nat → Nat → Nat → Option Addr → Nat → Nat → Int → Int → Mem → Prop) (R : Ending → Mem → Prop) : (l5A  K5 R).erase = lP (bB (sR (sL (sR (cT (sR (cE (sR (cE (sR (bB (sR (sL (sR (body))))))))))))))) := by kernel_rfl
theorem l5_ok  (R : Ending → Mem → Prop) (ρ : Env) (m : Mem) (h : (l5E fun p_0 x4b x4o out_10b out_10o x100a x100l x100c x101 x102 m => l5  p_0 x4b x4o out_10b out_10o x100a x100l x100c x101 x102 R m) ρ m) : cpt P od (panicR R) (.loop (lP (bB (sR (sL (sR (cT (sR (cE (sR (cE (sR (bB (sR (sL (sR (body))))))))))))))))) (l5Q  R) ρ m := by
  unfold l5E at h
  obtain ⟨p_0, e0, h⟩ := h.ex
  obtain ⟨x4b, x4o, e4, h⟩ := h.ex
  obtain ⟨out_10b, out_10o, e10, h⟩ := h.ex
  obtain ⟨x100a, x100l, x100c, e100, h⟩ := h.ex
  obtain ⟨x101, e101, h⟩ := h.ex
  obtain ⟨x102, e102, h⟩ := h.ex
  obtain ⟨I, N, h0, hs⟩ := h
  refine ⟨fun N => l5E (I N), N, (by show l5E (I N) ρ m; unfold l5E; rw [e0, e4, e10, e100, e101, e102]; exact h0), ?_⟩
  clear h0 e0 e4 e10 e100 e101 e102
  intro N ρ m h
  unfold l5E at h
  obtain ⟨p_0, e0, h⟩ := h.ex
  obtain ⟨x4b, x4o, e4, h⟩ := h.ex
  obtain ⟨out_10b, out_10o, e10, h⟩ := h.ex
  obtain ⟨x100a, x100l, x100c, e100, h⟩ := h.ex
  obtain ⟨x101, e101, h⟩ := h.ex
  obtain ⟨x102, e102, h⟩ := h.ex
  refine cpt_mono (P := P) (lP (bB (sR (sL (sR (cT (sR (cE (sR (cE (sR (bB (sR (sL (sR (body)))))))))))))))) (Q := thenQ (l5E fun p_0 x4b x4o out_10b out_10o x100a x100l x100c x101 x102 m => ∃ N1, N1 < N ∧ I N1 p_0 x4b x4o out_10b out_10o x100a x100l x100c x101 x102 m) (l5Q  R)) (fun e ρ m h => ?_) ρ m ?_
  · cases e with
    | normal =>
      have h : l5E (fun p_0 x4b x4o out_10b out_10o x100a x100l x100c x101 x102 m => ∃ N1, N1 < N ∧ I N1 p_0 x4b x4o out_10b out_10o x100a x100l x100c x101 x102 m) ρ m := h
      unfold l5E at h
      obtain ⟨p_0, e0, h⟩ := h.ex
      obtain ⟨x4b, x4o, e4, h⟩ := h.ex
      obtain ⟨out_10b, out_10o, e10, h⟩ := h.ex
      obtain ⟨x100a, x100l, x100c, e100, h⟩ := h.ex
      obtain ⟨x101, e101, h⟩ := h.ex
      obtain ⟨x102, e102, h⟩ := h.ex
      obtain ⟨N1, hlt, h⟩ := h
      exact ⟨N1, hlt, (by show l5E (I N1) ρ m; unfold l5E; rw [e0, e4, e10, e100, e101, e102]; exact h)⟩
    | _ => exact h
  have hh := hs N p_0 x4b x4o out_10b out_10o x100a x100l x100c x101 x102 m h
  generalize (fun p_0 x4b x4o out_10b out_10o x100a x100l x100c x101 x102 m => ∃ N1, N1 < N ∧ I N1 p_0 x4b x4o out_10b out_10o x100a x100l x100c x101 x102 m : Option Addr → Nat → Nat → Nat → Nat → Option Addr → Nat → Nat → Int → Int → Mem → Prop) = K5 at hh ⊢
  rw [← upd_self e0, ← upd_self e4, ← upd_self e10, ← upd_self e100, ← upd_self e101, ← upd_self e102]
  rw [← l5_er  K5 R]
  refine acpt_sound (P := P) (l5A  K5 R) _ _ _ True.intro ?_
  exact Eq.mp (l5_eq  K5 R p_0 x4b x4o out_10b out_10o x100a x100l x100c x101 x102 ρ m) hh
theorem k6_eq  (R : Ending → Mem → Prop) (r_3b : Nat) (r_3o : Nat) (x4b : Nat) (x4o : Nat) (q_14b : Nat) (q_14o : Nat) (ρ : Env) (m : Mem) : k6  r_3b r_3o x4b x4o q_14b q_14o R m = acpt P od (panicR R) (k6A  R) (k6Q  R) (upd (upd (upd ρ 14 (.pointer (some ⟨q_14b, q_14o, none⟩))) 4 (.pointer (some ⟨x4b, x4o, none⟩))) 3 (.pointer (some ⟨r_3b, r_3o, none⟩))) m := by kernel_rfl
theorem k6_er  (R : Ending → Mem → Prop) : (k6A  R).erase = sR (sR (sR (sR (body)))) := by kernel_rfl
theorem k6_ok  (R : Ending → Mem → Prop) (ρ : Env) (m : Mem) (h : (k6E fun r_3b r_3o x4b x4o q_14b q_14o m => k6  r_3b r_3o x4b x4o q_14b q_14o R m) ρ m) : cpt P od (panicR R) (sR (sR (sR (sR (body))))) (k6Q  R) ρ m := by
  unfold k6E at h
  obtain ⟨r_3b, r_3o, e3, h⟩ := h.ex
  obtain ⟨x4b, x4o, e4, h⟩ := h.ex
  obtain ⟨q_14b, q_14o, e14, h⟩ := h.ex
  rw [← upd_self e3, ← upd_self e4, ← upd_self e14]
  rw [← k6_er  R]
  refine acpt_sound (P := P) (k6A  R) _ _ _ True.intro ?_
  exact Eq.mp (k6_eq  R r_3b r_3o x4b x4o q_14b q_14o ρ m) h
theorem e0_eq (p_0 : Option Addr) (r_1_0 : Int) (r_1_1 : Int) (r_1_2 : Int) (r_1_3 : Int) (r_1_4 : Int) (r_1_5a : Option Addr) (r_1_5l : Nat) (r_1_5c : Nat) (R : Ending → Mem → Prop) (m : Mem) : e0 p_0 r_1_0 r_1_1 r_1_2 r_1_3 r_1_4 r_1_5a r_1_5l r_1_5c R m = acpt P od (panicR R) (e0A R) (bodyQ P fn R) (argE (#[.pointer p_0, .agg #[.int .i64 r_1_0, .int .u64 r_1_1, .int .u64 r_1_2, .int .u64 r_1_3, .int .u64 r_1_4, .slice r_1_5a r_1_5l r_1_5c]] : Array Value).toList) m := by kernel_rfl
theorem ok (p_0 : Option Addr) (r_1_0 : Int) (r_1_1 : Int) (r_1_2 : Int) (r_1_3 : Int) (r_1_4 : Int) (r_1_5a : Option Addr) (r_1_5l : Nat) (r_1_5c : Nat) (R : Ending → Mem → Prop) (m : Mem) (h : e0 p_0 r_1_0 r_1_1 r_1_2 r_1_3 r_1_4 r_1_5a r_1_5l r_1_5c R m) : HC P id #[.pointer p_0, .agg #[.int .i64 r_1_0, .int .u64 r_1_1, .int .u64 r_1_2, .int .u64 r_1_3, .int .u64 r_1_4, .slice r_1_5a r_1_5l r_1_5c]] m R := by
  refine HC_of (fn := fn) (c := body) (od := od) (tb := tb) Go.Proofs.Try.func22 (by kernel_rfl) (by kernel_rfl) follows (by kernel_rfl) (of_decide_eq_true (by kernel_rfl)) ?_
  have he : (e0A R).erase = body := by kernel_rfl
  rw [← he]
  refine acpt_sound (P := P) (e0A R) _ _ _ ⟨⟨⟨⟨(fun ρ m h => k6_ok  R ρ m h), True.intro⟩, True.intro⟩, ⟨⟨⟨⟨⟨(fun ρ m h => k1_ok  R ρ m h), True.intro⟩, True.intro⟩, ⟨⟨⟨⟨True.intro, ⟨(fun ρ m h => l2_ok  R ρ m h), True.intro⟩⟩, True.intro⟩, ⟨⟨⟨⟨True.intro, ⟨(fun ρ m h => l5_ok  R ρ m h), True.intro⟩⟩, True.intro⟩, True.intro⟩, True.intro⟩⟩, True.intro⟩⟩, True.intro⟩, True.intro⟩⟩, True.intro⟩ ?_
  exact Eq.mp (e0_eq p_0 r_1_0 r_1_1 r_1_2 r_1_3 r_1_4 r_1_5a r_1_5l r_1_5c R m) h
end place_Places_walk
/-! ### eyot/eyotref8.May -/
namespace eyotref8_May
noncomputable def fn : Func := Go.Proofs.Try.f23
noncomputable def body : Code := fn.body.getD .skip
def od : Nat → Ord := fun _ => .done
def tb : Nat → Tab := fun _ => (0, [], [])
def e0 (r_0_0 : Int) (r_0_1 : Int) (r_0_2 : Int) (r_0_3 : Int) (r_0_4 : Int) (r_0_5a : Option Addr) (r_0_5l : Nat) (r_0_5c : Nat) (R : Ending → Mem → Prop) (m : Mem) : Prop :=
 NewC m #[.int .i64 r_0_0, .int .u64 r_0_1, .int .u64 r_0_2, .int .u64 r_0_3, .int .u64 r_0_4, .slice r_0_5a r_0_5l r_0_5c] T_api_Rx fun b_r_1 m1 =>
 LdV m1 b_r_1 0 fun v =>
 UnI v .i64 fun x3_0 =>
 LdV m1 b_r_1 1 fun v =>
 UnI v .u64 fun x3_1 =>
 LdV m1 b_r_1 2 fun v =>
 UnI v .u64 fun x3_2 =>
 LdV m1 b_r_1 3 fun v =>
 UnI v .u64 fun x3_3 =>
 LdV m1 b_r_1 4 fun v =>
 UnI v .u64 fun x3_4 =>
 LdV m1 b_r_1 5 fun v =>
 UnS v fun x3_5a x3_5l x3_5c =>
 HC P eyotref8_form.id #[.agg #[.int .i64 x3_0, .int .u64 x3_1, .int .u64 x3_2, .int .u64 x3_3, .int .u64 x3_4, .slice x3_5a x3_5l x3_5c]] m1 (Cont (fun v m2 =>
   UnB v fun x4 =>
   Br (!x4) (
    R (.returned (.int .i64 2)) m2) (
    LdV m2 b_r_1 0 fun v =>
    UnI v .i64 fun x6_0 =>
    LdV m2 b_r_1 1 fun v =>
    UnI v .u64 fun x6_1 =>
    LdV m2 b_r_1 2 fun v =>
    UnI v .u64 fun x6_2 =>
    LdV m2 b_r_1 3 fun v =>
    UnI v .u64 fun x6_3 =>
    LdV m2 b_r_1 4 fun v =>
    UnI v .u64 fun x6_4 =>
    LdV m2 b_r_1 5 fun v =>
    UnS v fun x6_5a x6_5l x6_5c =>
    HC P eyotref8_nodes.id #[.agg #[.int .i64 x6_0, .int .u64 x6_1, .int .u64 x6_2, .int .u64 x6_3, .int .u64 x6_4, .slice x6_5a x6_5l x6_5c]] m2 (Cont (fun v m3 =>
      UnI v .i64 fun x7 =>
      Br (decide (x7 > 40)) (
       R (.returned (.int .i64 6)) m3) (
       LdV m3 b_r_1 0 fun v =>
       UnI v .i64 fun x10_0 =>
       LdV m3 b_r_1 1 fun v =>
       UnI v .u64 fun x10_1 =>
       LdV m3 b_r_1 2 fun v =>
       UnI v .u64 fun x10_2 =>
       LdV m3 b_r_1 3 fun v =>
       UnI v .u64 fun x10_3 =>
       LdV m3 b_r_1 4 fun v =>
       UnI v .u64 fun x10_4 =>
       LdV m3 b_r_1 5 fun v =>
       UnS v fun x10_5a x10_5l x10_5c =>
       HC P eyotref8_depth.id #[.agg #[.int .i64 x10_0, .int .u64 x10_1, .int .u64 x10_2, .int .u64 x10_3, .int .u64 x10_4, .slice x10_5a x10_5l x10_5c]] m3 (Cont (fun v m4 =>
        UnI v .i64 fun x11 =>
        Br (decide (x11 > 12)) (
        R (.returned (.int .i64 6)) m4) (
        R (.returned (.int .i64 0)) m4)) (panicR R)))) (panicR R)))) (panicR R))
noncomputable def e0A (R : Ending → Mem → Prop) : ACode := (.code (body))
theorem e0_eq (r_0_0 : Int) (r_0_1 : Int) (r_0_2 : Int) (r_0_3 : Int) (r_0_4 : Int) (r_0_5a : Option Addr) (r_0_5l : Nat) (r_0_5c : Nat) (R : Ending → Mem → Prop) (m : Mem) : e0 r_0_0 r_0_1 r_0_2 r_0_3 r_0_4 r_0_5a r_0_5l r_0_5c R m = acpt P od (panicR R) (e0A R) (bodyQ P fn R) (argE (#[.agg #[.int .i64 r_0_0, .int .u64 r_0_1, .int .u64 r_0_2, .int .u64 r_0_3, .int .u64 r_0_4, .slice r_0_5a r_0_5l r_0_5c]] : Array Value).toList) m := by kernel_rfl
theorem ok (r_0_0 : Int) (r_0_1 : Int) (r_0_2 : Int) (r_0_3 : Int) (r_0_4 : Int) (r_0_5a : Option Addr) (r_0_5l : Nat) (r_0_5c : Nat) (R : Ending → Mem → Prop) (m : Mem) (h : e0 r_0_0 r_0_1 r_0_2 r_0_3 r_0_4 r_0_5a r_0_5l r_0_5c R m) : HC P id #[.agg #[.int .i64 r_0_0, .int .u64 r_0_1, .int .u64 r_0_2, .int .u64 r_0_3, .int .u64 r_0_4, .slice r_0_5a r_0_5l r_0_5c]] m R := by
  refine HC_of (fn := fn) (c := body) (od := od) (tb := tb) Go.Proofs.Try.func23 (by kernel_rfl) (by kernel_rfl) follows (by kernel_rfl) (of_decide_eq_true (by kernel_rfl)) ?_
  have he : (e0A R).erase = body := by kernel_rfl
  rw [← he]
  refine acpt_sound (P := P) (e0A R) _ _ _ True.intro ?_
  exact Eq.mp (e0_eq r_0_0 r_0_1 r_0_2 r_0_3 r_0_4 r_0_5a r_0_5l r_0_5c R m) h
end eyotref8_May
end
end Go.E
set_option linter.unusedVariables false
set_option maxRecDepth 100000
namespace Go.E
open Go.H
noncomputable section
/-! ### (*eyot/eyotref8.Places).walk -/
namespace eyotref8_Places_walk
noncomputable def fn : Func := Go.Proofs.Try.f24
noncomputable def body : Code := fn.body.getD .skip
def od : Nat → Ord := fun | 4 => ordL [(0, 3), (1, 3), (2, 3), (3, 3), (4, 3), (5, 1), (6, 3), (7, 1), (10, 3), (11, 3), (12, 3), (13, 1)] (.alt 8 0 (ordL [] (.alt 9 0 (ordL [(14, 0), (15, 2), (16, 3), (17, 3), (18, 2), (19, 3), (20, 3), (21, 2)] .done) 14 0 (ordL [(9, 0), (15, 2), (16, 3), (17, 3), (18, 2), (19, 3), (20, 3), (21, 2)] .done))) 14 0 (ordL [(8, 0), (9, 0), (15, 2), (16, 3), (17, 3), (18, 2), (19, 3), (20, 3), (21, 2)] .done)) | 12 => ordL [(0, 3), (1, 1), (2, 3), (3, 1), (5, 3), (6, 1), (7, 3), (8, 1), (10, 3), (11, 1), (4, 0), (16, 3), (9, 0), (12, 3), (13, 3)] (.alt 14 2 (ordL [(15, 3), (17, 2), (18, 3), (19, 2), (20, 3), (21, 2)] .done) 17 2 (ordL [(18, 3)] (.alt 14 2 (ordL [(15, 3), (19, 2), (20, 3), (21, 2)] .done) 19 2 (ordL [(14, 2), (15, 3), (20, 3), (21, 2)] .done)))) | 22 => ordL [(1, 3), (2, 1), (4, 3), (5, 1), (0, 0), (3, 0), (6, 2), (7, 3), (8, 2)] .done | 24 => ordL [(1, 3), (2, 1), (4, 3), (5, 1), (0, 0), (3, 0), (6, 2), (7, 3), (8, 2)] .done | _ => .done
def tb : Nat → Tab := fun | 4 => (2392064, [0, 0, 0, 4, 12, 28, 0, 64, 192, 508, 0, 1024, 3072, 7168, 0, 32764, 65533, 131069, 262141, 524287, 1048575, 2097151], [(0, 1, 23), (0, 1, 24), (0, 1, 25), (4, 16777216, 26), (8, 33554432, 27), (16, 67108864, 28), (0, 8, 29), (64, 268435456, 30), (128, 536870912, 31), (288, 1207959552, 32), (0, 1, 33), (1024, 4294967296, 34), (2048, 8589934592, 35), (4096, 17179869184, 36), (0, 0, 37), (25088, 103079215104, 38), (41981, 4194304, 39), (107517, 274877906944, 40), (173053, 551903297536, 0), (524287, 8388608, 41), (1048575, 1099511627776, 42), (1572863, 2336462209024, 0)]) | 12 => (2768896, [0, 1, 0, 4, 15, 0, 32, 0, 128, 511, 0, 1024, 4095, 8191, 16383, 32767, 3199, 73727, 204799, 466943, 1048575, 2097151], [(0, 64, 64), (1, 9223372036854775808, 65), (0, 256, 66), (4, 36893488147419103232, 67), (10, 92233720368547758080, 68), (0, 64, 69), (32, 295147905179352825856, 70), (0, 256, 71), (128, 1180591620717411303424, 72), (336, 2951479051793528258560, 73), (0, 64, 74), (1024, 9444732965739290427392, 75), (2560, 18889465931478580854784, 76), (4096, 37778931862957161709824, 77), (12288, 113336795588871485128704, 78), (20480, 188894659314785808547840, 79), (3199, 64, 80), (72831, 604610483759904263766016, 0), (200703, 64, 81), (462847, 1213648186097498819919872, 0), (1048575, 64, 82), (2097151, 2720083094132915643088896, 0)]) | 22 => (320, [0, 0, 2, 7, 0, 16, 63, 127, 255], [(0, 0, 109), (0, 512, 110), (2, 649037107316853453566312041152512, 111), (5, 1622592768292133633915780102881280, 112), (0, 2048, 113), (16, 5192296858534827628530496329220096, 114), (40, 12980742146337069071326240823050240, 115), (127, 512, 116), (255, 62307562302417931542365955950641152, 0)]) | 24 => (320, [0, 0, 2, 7, 0, 16, 63, 127, 255], [(0, 0, 119), (0, 512, 120), (2, 664613997892457936451903530140172288, 121), (5, 1661534994731144841129758825350430720, 122), (0, 2048, 123), (16, 5316911983139663491615228241121378304, 124), (40, 13292279957849158729038070602803445760, 125), (127, 512, 126), (255, 63802943797675961899382738893456539648, 0)]) | _ => (0, [], [])
def k1E (K : Nat → Nat → Int → Mem → Prop) : Env → Mem → Prop := fun ρ m => UnPA (ρ 4) fun x4b x4o => UnI (ρ 5) .i64 fun k_5 => K x4b x4o k_5 m
def k1  (x4b : Nat) (x4o : Nat) (k_5 : Int) (R : Ending → Mem → Prop) (m : Mem) : Prop :=
 NewC m #[.int .i64 k_5] T_int fun b43 m1 =>
 NewC m1 #[.int .i64 k_5] T_int fun b45 m2 =>
 St1 m2 x4b x4o (.slice none 0 0) fun m3 =>
 St1 m3 x4b (x4o + 1) (.slice (some ⟨b43, 0, none⟩) 1 1) fun m4 =>
 St1 m4 x4b (x4o + 2) (.slice (some ⟨b45, 0, none⟩) 1 1) fun m5 =>
 St1 m5 x4b (x4o + 3) (.slice none 0 0) fun m6 =>
 St1 m6 x4b (x4o + 4) (.bool false) fun m7 =>
 LdV m7 x4b x4o fun v =>
 UnS v fun res0_0a res0_0l res0_0c =>
 LdV m7 x4b (x4o + 1) fun v =>
 UnS v fun res0_1a res0_1l res0_1c =>
 LdV m7 x4b (x4o + 2) fun v =>
 UnS v fun res0_2a res0_2l res0_2c =>
 LdV m7 x4b (x4o + 3) fun v =>
 UnS v fun res0_3a res0_3l res0_3c =>
 LdV m7 x4b (x4o + 4) fun v =>
 UnB v fun res0_4 =>
 R (.returned (.agg #[.slice res0_0a res0_0l res0_0c, .slice res0_1a res0_1l res0_1c, .slice res0_2a res0_2l res0_2c, .slice res0_3a res0_3l res0_3c, .bool res0_4])) m7
noncomputable def k1A  (R : Ending → Mem → Prop) : ACode := (.code (sR (sR (cT (sR (bB (sR (sL (sR (body))))))))))
def l2E (K : Option Addr → Nat → Nat → Nat → Nat → Nat → Nat → Int → Mem → Prop) : Env → Mem → Prop := fun ρ m => UnP (ρ 0) fun p_0 => UnPA (ρ 3) fun r_3b r_3o => UnPA (ρ 4) fun x4b x4o => UnPA (ρ 6) fun out_6b out_6o => UnI (ρ 7) .i64 fun i_7 => K p_0 r_3b r_3o x4b x4o out_6b out_6o i_7 m
def l2B  (K2 : Option Addr → Nat → Nat → Nat → Nat → Nat → Nat → Int → Mem → Prop) (p_0 : Option Addr) (r_3b : Nat) (r_3o : Nat) (x4b : Nat) (x4o : Nat) (out_6b : Nat) (out_6o : Nat) (i_7 : Int) (R : Ending → Mem → Prop) (m : Mem) : Prop :=
 LdV m r_3b (r_3o + 5) fun v =>
 UnS v fun x51a x51l x51c =>
 Br (decide (i_7 < ((x51l : Nat) : Int))) (
  LdV m r_3b (r_3o + 5) fun v =>
  UnS v fun x58a x58l x58c =>
  IxS x58a x58l i_7 6 fun x60b x60o =>
  LdV m x60b x60o fun v =>
  UnI v .i64 fun x61_0 =>
  LdV m x60b (x60o + 1) fun v =>
  UnI v .u64 fun x61_1 =>
  LdV m x60b (x60o + 2) fun v =>
  UnI v .u64 fun x61_2 =>
  LdV m x60b (x60o + 3) fun v =>
  UnI v .u64 fun x61_3 =>
  LdV m x60b (x60o + 4) fun v =>
  UnI v .u64 fun x61_4 =>
  LdV m x60b (x60o + 5) fun v =>
  UnS v fun x61_5a x61_5l x61_5c =>
  HC P eyotref8_Places_walk.id #[.pointer p_0, .agg #[.int .i64 x61_0, .int .u64 x61_1, .int .u64 x61_2, .int .u64 x61_3, .int .u64 x61_4, .slice x61_5a x61_5l x61_5c]] m (Cont (fun v m1 =>
    UnAgg v fun l =>
    UnCons l fun v l =>
    UnS v fun x62_0a x62_0l x62_0c =>
    UnCons l fun v l =>
    UnS v fun x62_1a x62_1l x62_1c =>
    UnCons l fun v l =>
    UnS v fun x62_2a x62_2l x62_2c =>
    UnCons l fun v l =>
    UnS v fun x62_3a x62_3l x62_3c =>
    UnCons l fun v l =>
    UnB v fun x62_4 =>
    UnNil l (
     NewC m1 #[.slice none 0 0, .slice none 0 0, .slice none 0 0, .slice none 0 0, .bool false] T_eyotref8_Places fun b_x_8 m2 =>
     St1 m2 b_x_8 0 (.slice x62_0a x62_0l x62_0c) fun m3 =>
     St1 m3 b_x_8 1 (.slice x62_1a x62_1l x62_1c) fun m4 =>
     St1 m4 b_x_8 2 (.slice x62_2a x62_2l x62_2c) fun m5 =>
     St1 m5 b_x_8 3 (.slice x62_3a x62_3l x62_3c) fun m6 =>
     St1 m6 b_x_8 4 (.bool x62_4) fun m7 =>
     Sub m7 fun r8 =>
     LdV r8 out_6b (out_6o + 1) fun v =>
     UnS v fun x64a x64l x64c =>
     LdV r8 b_x_8 1 fun v =>
     UnS v fun x66a x66l x66c =>
     LdV r8 out_6b (out_6o + 2) fun v =>
     UnS v fun x69a x69l x69c =>
     LdV r8 b_x_8 2 fun v =>
     UnS v fun x71a x71l x71c =>
     LdV r8 out_6b (out_6o + 4) fun v =>
     UnB v fun x74 =>
     BiN P .append #[T_sl_int, T_sl_int] T_sl_int #[false, false] #[.slice x64a x64l x64c, .slice x66a x66l x66c] m7 (fun w m9 =>
      UnS w fun x67a x67l x67c =>
      Lk r8 m9 fun r10 =>
      BiN P .append #[T_sl_int, T_sl_int] T_sl_int #[false, false] #[.slice x69a x69l x69c, .slice x71a x71l x71c] m9 (fun w m11 =>
       UnS w fun x72a x72l x72c =>
       Lk r10 m11 fun r12 =>
       Br x74 (
        (
        St1 m11 out_6b (out_6o + 1) (.slice x67a x67l x67c) fun m13 =>
        St1 m13 out_6b (out_6o + 2) (.slice x72a x72l x72c) fun m14 =>
        St1 m14 out_6b (out_6o + 4) (.bool true) fun m15 =>
        K2 p_0 r_3b r_3o x4b x4o out_6b out_6o (IntKind.i64.wrap (i_7 + 1)) m15) ∧ (
        St1 m11 out_6b (out_6o + 1) (.slice x67a x67l x67c) fun m13 =>
        (
        St1 m13 out_6b (out_6o + 2) (.slice x72a x72l x72c) fun m14 =>
        St1 m14 out_6b (out_6o + 4) (.bool true) fun m15 =>
        K2 p_0 r_3b r_3o x4b x4o out_6b out_6o (IntKind.i64.wrap (i_7 + 1)) m15) ∧ (
        St1 m13 out_6b (out_6o + 2) (.slice x72a x72l x72c) fun m14 =>
        St1 m14 out_6b (out_6o + 4) (.bool true) fun m15 =>
        K2 p_0 r_3b r_3o x4b x4o out_6b out_6o (IntKind.i64.wrap (i_7 + 1)) m15))) (
        (
        LdV m11 b_x_8 4 fun v =>
        UnB v fun x77 =>
        St1 m11 out_6b (out_6o + 1) (.slice x67a x67l x67c) fun m13 =>
        St1 m13 out_6b (out_6o + 2) (.slice x72a x72l x72c) fun m14 =>
        St1 m14 out_6b (out_6o + 4) (.bool x77) fun m15 =>
        K2 p_0 r_3b r_3o x4b x4o out_6b out_6o (IntKind.i64.wrap (i_7 + 1)) m15) ∧ (
        St1 m11 out_6b (out_6o + 1) (.slice x67a x67l x67c) fun m13 =>
        (
        LdV m13 b_x_8 4 fun v =>
        UnB v fun x77 =>
        St1 m13 out_6b (out_6o + 2) (.slice x72a x72l x72c) fun m14 =>
        St1 m14 out_6b (out_6o + 4) (.bool x77) fun m15 =>
        K2 p_0 r_3b r_3o x4b x4o out_6b out_6o (IntKind.i64.wrap (i_7 + 1)) m15) ∧ (
        St1 m13 out_6b (out_6o + 2) (.slice x72a x72l x72c) fun m14 =>
        LdV m14 b_x_8 4 fun v =>
        UnB v fun x77 =>
        St1 m14 out_6b (out_6o + 4) (.bool x77) fun m15 =>
        K2 p_0 r_3b r_3o x4b x4o out_6b out_6o (IntKind.i64.wrap (i_7 + 1)) m15)))) (panicR R)) (panicR R))) (panicR R))) (
  LdV m out_6b out_6o fun v =>
  UnS v fun x82_0a x82_0l x82_0c =>
  LdV m out_6b (out_6o + 1) fun v =>
  UnS v fun x82_1a x82_1l x82_1c =>
  LdV m out_6b (out_6o + 2) fun v =>
  UnS v fun x82_2a x82_2l x82_2c =>
  LdV m out_6b (out_6o + 3) fun v =>
  UnS v fun x82_3a x82_3l x82_3c =>
  LdV m out_6b (out_6o + 4) fun v =>
  UnB v fun x82_4 =>
  St1 m x4b x4o (.slice x82_0a x82_0l x82_0c) fun m1 =>
  St1 m1 x4b (x4o + 1) (.slice x82_1a x82_1l x82_1c) fun m2 =>
  St1 m2 x4b (x4o + 2) (.slice x82_2a x82_2l x82_2c) fun m3 =>
  St1 m3 x4b (x4o + 3) (.slice x82_3a x82_3l x82_3c) fun m4 =>
  St1 m4 x4b (x4o + 4) (.bool x82_4) fun m5 =>
  LdV m5 x4b x4o fun v =>
  UnS v fun res0_0a res0_0l res0_0c =>
  LdV m5 x4b (x4o + 1) fun v =>
  UnS v fun res0_1a res0_1l res0_1c =>
  LdV m5 x4b (x4o + 2) fun v =>
  UnS v fun res0_2a res0_2l res0_2c =>
  LdV m5 x4b (x4o + 3) fun v =>
  UnS v fun res0_3a res0_3l res0_3c =>
  LdV m5 x4b (x4o + 4) fun v =>
  UnB v fun res0_4 =>
  R (.returned (.agg #[.slice res0_0a res0_0l res0_0c, .slice res0_1a res0_1l res0_1c, .slice res0_2a res0_2l res0_2c, .slice res0_3a res0_3l res0_3c, .bool res0_4])) m5)
def l2  (p_0 : Option Addr) (r_3b : Nat) (r_3o : Nat) (x4b : Nat) (x4o : Nat) (out_6b : Nat) (out_6o : Nat) (i_7 : Int) (R : Ending → Mem → Prop) (m : Mem) : Prop :=
  ∃ (I : Nat → Option Addr → Nat → Nat → Nat → Nat → Nat → Nat → Int → Mem → Prop) (N : Nat), I N p_0 r_3b r_3o x4b x4o out_6b out_6o i_7 m ∧ ∀ N p_0 r_3b r_3o x4b x4o out_6b out_6o i_7 m, I N p_0 r_3b r_3o x4b x4o out_6b out_6o i_7 m → l2B  (fun p_0 r_3b r_3o x4b x4o out_6b out_6o i_7 m => ∃ N1, N1 < N ∧ I N1 p_0 r_3b r_3o x4b x4o out_6b out_6o i_7 m) p_0 r_3b r_3o x4b x4o out_6b out_6o i_7 R m
noncomputable def l2A  (K2 : Option Addr → Nat → Nat → Nat → Nat → Nat → Nat → Int → Mem → Prop) (R : Ending → Mem → Prop) : ACode := (.code (lP (bB (sR (sL (sR (cT (sR (cE (sR (bB (sR (sL (sR (body)))))))))))))))
def k5E (K : Option Addr → Nat → Nat → Nat → Nat → Nat → Nat → Int → Nat → Nat → Mem → Prop) : Env → Mem → Prop := fun ρ m => UnP (ρ 0) fun p_0 => UnPA (ρ 3) fun r_3b r_3o => UnPA (ρ 4) fun x4b x4o => UnPA (ρ 9) fun out_9b out_9o => UnI (ρ 10) .i64 fun i_10 => UnPA (ρ 11) fun x_11b x_11o => K p_0 r_3b r_3o x4b x4o out_9b out_9o i_10 x_11b x_11o m
def k5 (K3 : Option Addr → Nat → Nat → Nat → Nat → Nat → Nat → Int → Mem → Prop) (p_0 : Option Addr) (r_3b : Nat) (r_3o : Nat) (x4b : Nat) (x4o : Nat) (out_9b : Nat) (out_9o : Nat) (i_10 : Int) (x_11b : Nat) (x_11o : Nat) (R : Ending → Mem → Prop) (m : Mem) : Prop :=
 LdV m out_9b (out_9o + 4) fun v =>
 UnB v fun x130 =>
 Br x130 (
  LdV m x_11b (x_11o + 4) fun v =>
  UnB v fun x133 =>
  St1 m out_9b (out_9o + 4) (.bool x133) fun m1 =>
  K3 p_0 r_3b r_3o x4b x4o out_9b out_9o (IntKind.i64.wrap (i_10 + 1)) m1) (
  St1 m out_9b (out_9o + 4) (.bool false) fun m1 =>
  K3 p_0 r_3b r_3o x4b x4o out_9b out_9o (IntKind.i64.wrap (i_10 + 1)) m1)
noncomputable def k5A (K3 : Option Addr → Nat → Nat → Nat → Nat → Nat → Nat → Int → Mem → Prop) (R : Ending → Mem → Prop) : ACode := (.code (sR (sR (sR (sR (bB (sL (sR (lP (bB (sR (sL (sR (cT (sR (cE (sR (cE (sR (bB (sR (sL (sR (body))))))))))))))))))))))))
def k4E (K : Option Addr → Nat → Nat → Nat → Nat → Nat → Nat → Int → Nat → Nat → Mem → Prop) : Env → Mem → Prop := fun ρ m => UnP (ρ 0) fun p_0 => UnPA (ρ 3) fun r_3b r_3o => UnPA (ρ 4) fun x4b x4o => UnPA (ρ 9) fun out_9b out_9o => UnI (ρ 10) .i64 fun i_10 => UnPA (ρ 11) fun x_11b x_11o => K p_0 r_3b r_3o x4b x4o out_9b out_9o i_10 x_11b x_11o m
def k4 (K3 : Option Addr → Nat → Nat → Nat → Nat → Nat → Nat → Int → Mem → Prop) (p_0 : Option Addr) (r_3b : Nat) (r_3o : Nat) (x4b : Nat) (x4o : Nat) (out_9b : Nat) (out_9o : Nat) (i_10 : Int) (x_11b : Nat) (x_11o : Nat) (R : Ending → Mem → Prop) (m : Mem) : Prop :=
 LdV m x_11b (x_11o + 4) fun v =>
 UnB v fun x117 =>
 Br x117 (
  Sub m fun r1 =>
  LdV r1 out_9b (out_9o + 2) fun v =>
  UnS v fun x120a x120l x120c =>
  LdV r1 x_11b (x_11o + 2) fun v =>
  UnS v fun x123a x123l x123c =>
  NewC m #[] T_int fun b118 m2 =>
  Lk r1 m2 fun r3 =>
  BiN P .append #[T_sl_int, T_sl_int] T_sl_int #[false, false] #[.slice (some ⟨b118, 0, none⟩) 0 0, .slice x120a x120l x120c] m2 (fun w m4 =>
   UnS w fun x121a x121l x121c =>
   Lk r3 m4 fun r5 =>
   BiN P .append #[T_sl_int, T_sl_int] T_sl_int #[false, false] #[.slice x121a x121l x121c, .slice x123a x123l x123c] m4 (fun w m6 =>
    UnS w fun x124a x124l x124c =>
    St1 m6 out_9b (out_9o + 2) (.slice x124a x124l x124c) fun m7 =>
    k5 K3 p_0 r_3b r_3o x4b x4o out_9b out_9o i_10 x_11b x_11o R m7) (panicR R)) (panicR R)) (
  LdV m x_11b (x_11o + 2) fun v =>
  UnS v fun x127a x127l x127c =>
  St1 m out_9b (out_9o + 2) (.slice x127a x127l x127c) fun m1 =>
  k5 K3 p_0 r_3b r_3o x4b x4o out_9b out_9o i_10 x_11b x_11o R m1)
noncomputable def k4A (K3 : Option Addr → Nat → Nat → Nat → Nat → Nat → Nat → Int → Mem → Prop) (R : Ending → Mem → Prop) : ACode := (.seq (.code (sL (sR (sR (sR (bB (sL (sR (lP (bB (sR (sL (sR (cT (sR (cE (sR (cE (sR (bB (sR (sL (sR (body)))))))))))))))))))))))) (.cut (k5E fun p_0 r_3b r_3o x4b x4o out_9b out_9o i_10 x_11b x_11o m => k5 K3 p_0 r_3b r_3o x4b x4o out_9b out_9o i_10 x_11b x_11o R m) (sR (sR (sR (sR (bB (sL (sR (lP (bB (sR (sL (sR (cT (sR (cE (sR (cE (sR (bB (sR (sL (sR (body)))))))))))))))))))))))))
def l3E (K : Option Addr → Nat → Nat → Nat → Nat → Nat → Nat → Int → Mem → Prop) : Env → Mem → Prop := fun ρ m => UnP (ρ 0) fun p_0 => UnPA (ρ 3) fun r_3b r_3o => UnPA (ρ 4) fun x4b x4o => UnPA (ρ 9) fun out_9b out_9o => UnI (ρ 10) .i64 fun i_10 => K p_0 r_3b r_3o x4b x4o out_9b out_9o i_10 m
def l3B  (K3 : Option Addr → Nat → Nat → Nat → Nat → Nat → Nat → Int → Mem → Prop) (p_0 : Option Addr) (r_3b : Nat) (r_3o : Nat) (x4b : Nat) (x4o : Nat) (out_9b : Nat) (out_9o : Nat) (i_10 : Int) (R : Ending → Mem → Prop) (m : Mem) : Prop :=
 LdV m r_3b (r_3o + 5) fun v =>
 UnS v fun x88a x88l x88c =>
 Br (decide (i_10 < ((x88l : Nat) : Int))) (
  LdV m r_3b (r_3o + 5) fun v =>
  UnS v fun x95a x95l x95c =>
  IxS x95a x95l i_10 6 fun x97b x97o =>
  LdV m x97b x97o fun v =>
  UnI v .i64 fun x98_0 =>
  LdV m x97b (x97o + 1) fun v =>
  UnI v .u64 fun x98_1 =>
  LdV m x97b (x97o + 2) fun v =>
  UnI v .u64 fun x98_2 =>
  LdV m x97b (x97o + 3) fun v =>
  UnI v .u64 fun x98_3 =>
  LdV m x97b (x97o + 4) fun v =>
  UnI v .u64 fun x98_4 =>
  LdV m x97b (x97o + 5) fun v =>
  UnS v fun x98_5a x98_5l x98_5c =>
  HC P eyotref8_Places_walk.id #[.pointer p_0, .agg #[.int .i64 x98_0, .int .u64 x98_1, .int .u64 x98_2, .int .u64 x98_3, .int .u64 x98_4, .slice x98_5a x98_5l x98_5c]] m (Cont (fun v m1 =>
    UnAgg v fun l =>
    UnCons l fun v l =>
    UnS v fun x99_0a x99_0l x99_0c =>
    UnCons l fun v l =>
    UnS v fun x99_1a x99_1l x99_1c =>
    UnCons l fun v l =>
    UnS v fun x99_2a x99_2l x99_2c =>
    UnCons l fun v l =>
    UnS v fun x99_3a x99_3l x99_3c =>
    UnCons l fun v l =>
    UnB v fun x99_4 =>
    UnNil l (
     NewC m1 #[.slice none 0 0, .slice none 0 0, .slice none 0 0, .slice none 0 0, .bool false] T_eyotref8_Places fun b_x_11 m2 =>
     St1 m2 b_x_11 0 (.slice x99_0a x99_0l x99_0c) fun m3 =>
     St1 m3 b_x_11 1 (.slice x99_1a x99_1l x99_1c) fun m4 =>
     St1 m4 b_x_11 2 (.slice x99_2a x99_2l x99_2c) fun m5 =>
     St1 m5 b_x_11 3 (.slice x99_3a x99_3l x99_3c) fun m6 =>
     St1 m6 b_x_11 4 (.bool x99_4) fun m7 =>
     LdV m7 out_9b (out_9o + 2) fun v =>
     UnS v fun x102a x102l x102c =>
     LdV m7 b_x_11 1 fun v =>
     UnS v fun x104a x104l x104c =>
     HC P eyotref8_Places_goes.id #[.pointer p_0, .slice x102a x102l x102c, .slice x104a x104l x104c] m7 (Cont (fun v m8 =>
       UnTup v fun us0 =>
       UnNil us0 (
        LdV m8 out_9b (out_9o + 4) fun v =>
        UnB v fun x107 =>
        Br x107 (
        Sub m8 fun r9 =>
        LdV r9 out_9b (out_9o + 1) fun v =>
        UnS v fun x110a x110l x110c =>
        LdV r9 b_x_11 1 fun v =>
        UnS v fun x113a x113l x113c =>
        NewC m8 #[] T_int fun b108 m10 =>
        Lk r9 m10 fun r11 =>
        BiN P .append #[T_sl_int, T_sl_int] T_sl_int #[false, false] #[.slice (some ⟨b108, 0, none⟩) 0 0, .slice x110a x110l x110c] m10 (fun w m12 =>
        UnS w fun x111a x111l x111c =>
        Lk r11 m12 fun r13 =>
        BiN P .append #[T_sl_int, T_sl_int] T_sl_int #[false, false] #[.slice x111a x111l x111c, .slice x113a x113l x113c] m12 (fun w m14 =>
        UnS w fun x114a x114l x114c =>
        St1 m14 out_9b (out_9o + 1) (.slice x114a x114l x114c) fun m15 =>
        k4 K3 p_0 r_3b r_3o x4b x4o out_9b out_9o i_10 b_x_11 0 R m15) (panicR R)) (panicR R)) (
        k4 K3 p_0 r_3b r_3o x4b x4o out_9b out_9o i_10 b_x_11 0 R m8))) (panicR R)))) (panicR R))) (
  LdV m out_9b out_9o fun v =>
  UnS v fun x136_0a x136_0l x136_0c =>
  LdV m out_9b (out_9o + 1) fun v =>
  UnS v fun x136_1a x136_1l x136_1c =>
  LdV m out_9b (out_9o + 2) fun v =>
  UnS v fun x136_2a x136_2l x136_2c =>
  LdV m out_9b (out_9o + 3) fun v =>
  UnS v fun x136_3a x136_3l x136_3c =>
  LdV m out_9b (out_9o + 4) fun v =>
  UnB v fun x136_4 =>
  St1 m x4b x4o (.slice x136_0a x136_0l x136_0c) fun m1 =>
  St1 m1 x4b (x4o + 1) (.slice x136_1a x136_1l x136_1c) fun m2 =>
  St1 m2 x4b (x4o + 2) (.slice x136_2a x136_2l x136_2c) fun m3 =>
  St1 m3 x4b (x4o + 3) (.slice x136_3a x136_3l x136_3c) fun m4 =>
  St1 m4 x4b (x4o + 4) (.bool x136_4) fun m5 =>
  LdV m5 x4b x4o fun v =>
  UnS v fun res0_0a res0_0l res0_0c =>
  LdV m5 x4b (x4o + 1) fun v =>
  UnS v fun res0_1a res0_1l res0_1c =>
  LdV m5 x4b (x4o + 2) fun v =>
  UnS v fun res0_2a res0_2l res0_2c =>
  LdV m5 x4b (x4o + 3) fun v =>
  UnS v fun res0_3a res0_3l res0_3c =>
  LdV m5 x4b (x4o + 4) fun v =>
  UnB v fun res0_4 =>
  R (.returned (.agg #[.slice res0_0a res0_0l res0_0c, .slice res0_1a res0_1l res0_1c, .slice res0_2a res0_2l res0_2c, .slice res0_3a res0_3l res0_3c, .bool res0_4])) m5)
def l3  (p_0 : Option Addr) (r_3b : Nat) (r_3o : Nat) (x4b : Nat) (x4o : Nat) (out_9b : Nat) (out_9o : Nat) (i_10 : Int) (R : Ending → Mem → Prop) (m : Mem) : Prop :=
  ∃ (I : Nat → Option Addr → Nat → Nat → Nat → Nat → Nat → Nat → Int → Mem → Prop) (N : Nat), I N p_0 r_3b r_3o x4b x4o out_9b out_9o i_10 m ∧ ∀ N p_0 r_3b r_3o x4b x4o out_9b out_9o i_10 m, I N p_0 r_3b r_3o x4b x4o out_9b out_9o i_10 m → l3B  (fun p_0 r_3b r_3o x4b x4o out_9b out_9o i_10 m => ∃ N1, N1 < N ∧ I N1 p_0 r_3b r_3o x4b x4o out_9b out_9o i_10 m) p_0 r_3b r_3o x4b x4o out_9b out_9o i_10 R m
noncomputable def l3A  (K3 : Option Addr → Nat → Nat → Nat → Nat → Nat → Nat → Int → Mem → Prop) (R : Ending → Mem → Prop) : ACode := (.seq (.code (sL (lP (bB (sR (sL (sR (cT (sR (cE (sR (cE (sR (bB (sR (sL (sR (body)))))))))))))))))) (.seq (.block 4 (.seq (.code (sL (bB (sL (sR (lP (bB (sR (sL (sR (cT (sR (cE (sR (cE (sR (bB (sR (sL (sR (body))))))))))))))))))))) (.seq (.code (sL (sR (bB (sL (sR (lP (bB (sR (sL (sR (cT (sR (cE (sR (cE (sR (bB (sR (sL (sR (body)))))))))))))))))))))) (.seq (.code (sL (sR (sR (bB (sL (sR (lP (bB (sR (sL (sR (cT (sR (cE (sR (cE (sR (bB (sR (sL (sR (body))))))))))))))))))))))) (.cut (k4E fun p_0 r_3b r_3o x4b x4o out_9b out_9o i_10 x_11b x_11o m => k4 K3 p_0 r_3b r_3o x4b x4o out_9b out_9o i_10 x_11b x_11o R m) (sR (sR (sR (bB (sL (sR (lP (bB (sR (sL (sR (cT (sR (cE (sR (cE (sR (bB (sR (sL (sR (body))))))))))))))))))))))))))) (.code (sR (sR (lP (bB (sR (sL (sR (cT (sR (cE (sR (cE (sR (bB (sR (sL (sR (body)))))))))))))))))))))
def k6E (K : Nat → Nat → Nat → Nat → Nat → Nat → Mem → Prop) : Env → Mem → Prop := fun ρ m => UnPA (ρ 3) fun r_3b r_3o => UnPA (ρ 4) fun x4b x4o => UnPA (ρ 12) fun x_12b x_12o => K r_3b r_3o x4b x4o x_12b x_12o m
def k6  (r_3b : Nat) (r_3o : Nat) (x4b : Nat) (x4o : Nat) (x_12b : Nat) (x_12o : Nat) (R : Ending → Mem → Prop) (m : Mem) : Prop :=
 LdV m x_12b (x_12o + 4) fun v =>
 UnB v fun x153 =>
 Br x153 (
  St1 m x_12b (x_12o + 4) (.bool true) fun m1 =>
  LdV m1 x_12b x_12o fun v =>
  UnS v fun x160_0a x160_0l x160_0c =>
  LdV m1 x_12b (x_12o + 1) fun v =>
  UnS v fun x160_1a x160_1l x160_1c =>
  LdV m1 x_12b (x_12o + 2) fun v =>
  UnS v fun x160_2a x160_2l x160_2c =>
  LdV m1 x_12b (x_12o + 3) fun v =>
  UnS v fun x160_3a x160_3l x160_3c =>
  LdV m1 x_12b (x_12o + 4) fun v =>
  UnB v fun x160_4 =>
  St1 m1 x4b x4o (.slice x160_0a x160_0l x160_0c) fun m2 =>
  St1 m2 x4b (x4o + 1) (.slice x160_1a x160_1l x160_1c) fun m3 =>
  St1 m3 x4b (x4o + 2) (.slice x160_2a x160_2l x160_2c) fun m4 =>
  St1 m4 x4b (x4o + 3) (.slice x160_3a x160_3l x160_3c) fun m5 =>
  St1 m5 x4b (x4o + 4) (.bool x160_4) fun m6 =>
  LdV m6 x4b x4o fun v =>
  UnS v fun res0_0a res0_0l res0_0c =>
  LdV m6 x4b (x4o + 1) fun v =>
  UnS v fun res0_1a res0_1l res0_1c =>
  LdV m6 x4b (x4o + 2) fun v =>
  UnS v fun res0_2a res0_2l res0_2c =>
  LdV m6 x4b (x4o + 3) fun v =>
  UnS v fun res0_3a res0_3l res0_3c =>
  LdV m6 x4b (x4o + 4) fun v =>
  UnB v fun res0_4 =>
  R (.returned (.agg #[.slice res0_0a res0_0l res0_0c, .slice res0_1a res0_1l res0_1c, .slice res0_2a res0_2l res0_2c, .slice res0_3a res0_3l res0_3c, .bool res0_4])) m6) (
  LdV m r_3b r_3o fun v =>
  UnI v .i64 fun x156 =>
  St1 m x_12b (x_12o + 4) (.bool (x156 != 5)) fun m1 =>
  LdV m1 x_12b x_12o fun v =>
  UnS v fun x160_0a x160_0l x160_0c =>
  LdV m1 x_12b (x_12o + 1) fun v =>
  UnS v fun x160_1a x160_1l x160_1c =>
  LdV m1 x_12b (x_12o + 2) fun v =>
  UnS v fun x160_2a x160_2l x160_2c =>
  LdV m1 x_12b (x_12o + 3) fun v =>
  UnS v fun x160_3a x160_3l x160_3c =>
  LdV m1 x_12b (x_12o + 4) fun v =>
  UnB v fun x160_4 =>
  St1 m1 x4b x4o (.slice x160_0a x160_0l x160_0c) fun m2 =>
  St1 m2 x4b (x4o + 1) (.slice x160_1a x160_1l x160_1c) fun m3 =>
  St1 m3 x4b (x4o + 2) (.slice x160_2a x160_2l x160_2c) fun m4 =>
  St1 m4 x4b (x4o + 3) (.slice x160_3a x160_3l x160_3c) fun m5 =>
  St1 m5 x4b (x4o + 4) (.bool x160_4) fun m6 =>
  LdV m6 x4b x4o fun v =>
  UnS v fun res0_0a res0_0l res0_0c =>
  LdV m6 x4b (x4o + 1) fun v =>
  UnS v fun res0_1a res0_1l res0_1c =>
  LdV m6 x4b (x4o + 2) fun v =>
  UnS v fun res0_2a res0_2l res0_2c =>
  LdV m6 x4b (x4o + 3) fun v =>
  UnS v fun res0_3a res0_3l res0_3c =>
  LdV m6 x4b (x4o + 4) fun v =>
  UnB v fun res0_4 =>
  R (.returned (.agg #[.slice res0_0a res0_0l res0_0c, .slice res0_1a res0_1l res0_1c, .slice res0_2a res0_2l res0_2c, .slice res0_3a res0_3l res0_3c, .bool res0_4])) m6)
noncomputable def k6A  (R : Ending → Mem → Prop) : ACode := (.code (sR (sR (sR (sR (body))))))
def e0 (p_0 : Option Addr) (r_1_0 : Int) (r_1_1 : Int) (r_1_2 : Int) (r_1_3 : Int) (r_1_4 : Int) (r_1_5a : Option Addr) (r_1_5l : Nat) (r_1_5c : Nat) (R : Ending → Mem → Prop) (m : Mem) : Prop :=
 NewC m #[.int .i64 r_1_0, .int .u64 r_1_1, .int .u64 r_1_2, .int .u64 r_1_3, .int .u64 r_1_4, .slice r_1_5a r_1_5l r_1_5c] T_api_Rx fun b_r_3 m1 =>
 NewC m1 #[.slice none 0 0, .slice none 0 0, .slice none 0 0, .slice none 0 0, .bool false] T_eyotref8_Places fun b4 m2 =>
 LdV m2 b_r_3 0 fun v =>
 UnI v .i64 fun x14 =>
 Br (x14 == 1) (
  NilC p_0 (fun x18b x18o =>
   LdV m2 x18b x18o fun v =>
   UnS v fun x20a x20l x20c =>
   Sub m2 fun r3 =>
   NilC p_0 (fun x25b x25o =>
    LdV r3 x25b x25o fun v =>
    UnS v fun x27a x27l x27c =>
    LdV r3 b_r_3 1 fun v =>
    UnI v .u64 fun x29_0 =>
    LdV r3 b_r_3 2 fun v =>
    UnI v .u64 fun x29_1 =>
    LdV r3 b_r_3 3 fun v =>
    UnI v .u64 fun x29_2 =>
    LdV r3 b_r_3 4 fun v =>
    UnI v .u64 fun x29_3 =>
    NilC p_0 (fun x33b x33o =>
     LdV r3 x33b (x33o + 3) fun v =>
     UnS v fun x35a x35l x35c =>
     (
      NewC m2 #[.int .u64 x29_0, .int .u64 x29_1, .int .u64 x29_2, .int .u64 x29_3] T_api_Set fun b30 m4 =>
      Lk r3 m4 fun r5 =>
      (
       BiN P .append #[T_sl_api_Set, T_sl_api_Set] T_sl_api_Set #[false, false] #[.slice x27a x27l x27c, .slice (some ⟨b30, 0, none⟩) 1 1] m4 (fun w m6 =>
        UnS w fun x31a x31l x31c =>
        Lk r5 m6 fun r7 =>
        NewC m6 #[.slice none 0 0] T_sl_int fun b36 m8 =>
        Lk r7 m8 fun r9 =>
        BiN P .append #[T_sl_sl_int, T_sl_sl_int] T_sl_sl_int #[false, false] #[.slice x35a x35l x35c, .slice (some ⟨b36, 0, none⟩) 1 1] m8 (fun w m10 =>
        UnS w fun x37a x37l x37c =>
        NilC p_0 (fun x38b x38o =>
        St1 m10 x38b x38o (.slice x31a x31l x31c) fun m11 =>
        NilC p_0 (fun x40b x40o =>
        St1 m11 x40b (x40o + 3) (.slice x37a x37l x37c) fun m12 =>
        k1  b4 0 ((x20l : Nat) : Int) R m12) (False)) (False)) (panicR R)) (panicR R)) ∧ (
       NewC m4 #[.slice none 0 0] T_sl_int fun b36 m6 =>
       Lk r5 m6 fun r7 =>
       BiN P .append #[T_sl_api_Set, T_sl_api_Set] T_sl_api_Set #[false, false] #[.slice x27a x27l x27c, .slice (some ⟨b30, 0, none⟩) 1 1] m6 (fun w m8 =>
        UnS w fun x31a x31l x31c =>
        Lk r7 m8 fun r9 =>
        BiN P .append #[T_sl_sl_int, T_sl_sl_int] T_sl_sl_int #[false, false] #[.slice x35a x35l x35c, .slice (some ⟨b36, 0, none⟩) 1 1] m8 (fun w m10 =>
        UnS w fun x37a x37l x37c =>
        NilC p_0 (fun x38b x38o =>
        St1 m10 x38b x38o (.slice x31a x31l x31c) fun m11 =>
        NilC p_0 (fun x40b x40o =>
        St1 m11 x40b (x40o + 3) (.slice x37a x37l x37c) fun m12 =>
        k1  b4 0 ((x20l : Nat) : Int) R m12) (False)) (False)) (panicR R)) (panicR R))) ∧ (
      NewC m2 #[.slice none 0 0] T_sl_int fun b36 m4 =>
      Lk r3 m4 fun r5 =>
      NewC m4 #[.int .u64 x29_0, .int .u64 x29_1, .int .u64 x29_2, .int .u64 x29_3] T_api_Set fun b30 m6 =>
      Lk r5 m6 fun r7 =>
      BiN P .append #[T_sl_api_Set, T_sl_api_Set] T_sl_api_Set #[false, false] #[.slice x27a x27l x27c, .slice (some ⟨b30, 0, none⟩) 1 1] m6 (fun w m8 =>
       UnS w fun x31a x31l x31c =>
       Lk r7 m8 fun r9 =>
       BiN P .append #[T_sl_sl_int, T_sl_sl_int] T_sl_sl_int #[false, false] #[.slice x35a x35l x35c, .slice (some ⟨b36, 0, none⟩) 1 1] m8 (fun w m10 =>
        UnS w fun x37a x37l x37c =>
        NilC p_0 (fun x38b x38o =>
        St1 m10 x38b x38o (.slice x31a x31l x31c) fun m11 =>
        NilC p_0 (fun x40b x40o =>
        St1 m11 x40b (x40o + 3) (.slice x37a x37l x37c) fun m12 =>
        k1  b4 0 ((x20l : Nat) : Int) R m12) (False)) (False)) (panicR R)) (panicR R))) (False)) (False)) (R (.panicked (nilPanic P)) m2)) (
  Br (x14 == 3) (
   NewC m2 #[.slice none 0 0, .slice none 0 0, .slice none 0 0, .slice none 0 0, .bool false] T_eyotref8_Places fun b_out_6 m3 =>
   l2  p_0 b_r_3 0 b4 0 b_out_6 0 0 R m3) (
   Br (x14 == 2) (
    NewC m2 #[.slice none 0 0, .slice none 0 0, .slice none 0 0, .slice none 0 0, .bool false] T_eyotref8_Places fun b_out_9 m3 =>
    St1 m3 b_out_9 0 (.slice none 0 0) fun m4 =>
    St1 m4 b_out_9 1 (.slice none 0 0) fun m5 =>
    St1 m5 b_out_9 2 (.slice none 0 0) fun m6 =>
    St1 m6 b_out_9 3 (.slice none 0 0) fun m7 =>
    St1 m7 b_out_9 4 (.bool true) fun m8 =>
    l3  p_0 b_r_3 0 b4 0 b_out_9 0 0 R m8) (
    LdV m2 b_r_3 5 fun v =>
    UnS v fun x139a x139l x139c =>
    IxS x139a x139l 0 6 fun x140b x140o =>
    LdV m2 x140b x140o fun v =>
    UnI v .i64 fun x141_0 =>
    LdV m2 x140b (x140o + 1) fun v =>
    UnI v .u64 fun x141_1 =>
    LdV m2 x140b (x140o + 2) fun v =>
    UnI v .u64 fun x141_2 =>
    LdV m2 x140b (x140o + 3) fun v =>
    UnI v .u64 fun x141_3 =>
    LdV m2 x140b (x140o + 4) fun v =>
    UnI v .u64 fun x141_4 =>
    LdV m2 x140b (x140o + 5) fun v =>
    UnS v fun x141_5a x141_5l x141_5c =>
    HC P eyotref8_Places_walk.id #[.pointer p_0, .agg #[.int .i64 x141_0, .int .u64 x141_1, .int .u64 x141_2, .int .u64 x141_3, .int .u64 x141_4, .slice x141_5a x141_5l x141_5c]] m2 (Cont (fun v m3 =>
      UnAgg v fun l =>
      UnCons l fun v l =>
      UnS v fun x142_0a x142_0l x142_0c =>
      UnCons l fun v l =>
      UnS v fun x142_1a x142_1l x142_1c =>
      UnCons l fun v l =>
      UnS v fun x142_2a x142_2l x142_2c =>
      UnCons l fun v l =>
      UnS v fun x142_3a x142_3l x142_3c =>
      UnCons l fun v l =>
      UnB v fun x142_4 =>
      UnNil l (
       NewC m3 #[.slice none 0 0, .slice none 0 0, .slice none 0 0, .slice none 0 0, .bool false] T_eyotref8_Places fun b_x_12 m4 =>
       St1 m4 b_x_12 0 (.slice x142_0a x142_0l x142_0c) fun m5 =>
       St1 m5 b_x_12 1 (.slice x142_1a x142_1l x142_1c) fun m6 =>
       St1 m6 b_x_12 2 (.slice x142_2a x142_2l x142_2c) fun m7 =>
       St1 m7 b_x_12 3 (.slice x142_3a x142_3l x142_3c) fun m8 =>
       St1 m8 b_x_12 4 (.bool x142_4) fun m9 =>
       LdV m9 b_r_3 0 fun v =>
       UnI v .i64 fun x144 =>
       Br (x144 != 6) (
        LdV m9 b_x_12 2 fun v =>
        UnS v fun x148a x148l x148c =>
        LdV m9 b_x_12 1 fun v =>
        UnS v fun x150a x150l x150c =>
        HC P eyotref8_Places_goes.id #[.pointer p_0, .slice x148a x148l x148c, .slice x150a x150l x150c] m9 (Cont (fun v m10 =>
        UnTup v fun us0 =>
        UnNil us0 (
        k6  b_r_3 0 b4 0 b_x_12 0 R m10)) (panicR R))) (
        k6  b_r_3 0 b4 0 b_x_12 0 R m9))) (panicR R)))))
noncomputable def e0A (R : Ending → Mem → Prop) : ACode := (.seq (.code (sL (body))) (.seq (.seq (.code (sL (sL (sR (body))))) (.block 0 (.seq (.code (sL (bB (sR (sL (sR (body))))))) (.cond (.tmp 15) (.seq (.code (sL (cT (sR (bB (sR (sL (sR (body))))))))) (.seq (.code (sL (sR (cT (sR (bB (sR (sL (sR (body)))))))))) (.cut (k1E fun x4b x4o k_5 m => k1  x4b x4o k_5 R m) (sR (sR (cT (sR (bB (sR (sL (sR (body)))))))))))) (.seq (.code (sL (cE (sR (bB (sR (sL (sR (body))))))))) (.cond (.tmp 47) (.seq (.code (sL (cT (sR (cE (sR (bB (sR (sL (sR (body))))))))))) (.seq (.seq (.code (sL (sL (sR (cT (sR (cE (sR (bB (sR (sL (sR (body))))))))))))) (.block 1 (.cut (l2E fun p_0 r_3b r_3o x4b x4o out_6b out_6o i_7 m => l2  p_0 r_3b r_3o x4b x4o out_6b out_6o i_7 R m) (.loop (lP (bB (sR (sL (sR (cT (sR (cE (sR (bB (sR (sL (sR (body)))))))))))))))))) (.code (sR (sR (cT (sR (cE (sR (bB (sR (sL (sR (body)))))))))))))) (.seq (.code (sL (cE (sR (cE (sR (bB (sR (sL (sR (body))))))))))) (.cond (.tmp 83) (.seq (.code (sL (cT (sR (cE (sR (cE (sR (bB (sR (sL (sR (body))))))))))))) (.seq (.seq (.code (sL (sL (sR (cT (sR (cE (sR (cE (sR (bB (sR (sL (sR (body))))))))))))))) (.block 3 (.cut (l3E fun p_0 r_3b r_3o x4b x4o out_9b out_9o i_10 m => l3  p_0 r_3b r_3o x4b x4o out_9b out_9o i_10 R m) (.loop (lP (bB (sR (sL (sR (cT (sR (cE (sR (cE (sR (bB (sR (sL (sR (body)))))))))))))))))))) (.code (sR (sR (cT (sR (cE (sR (cE (sR (bB (sR (sL (sR (body)))))))))))))))) (.code (cE (sR (cE (sR (cE (sR (bB (sR (sL (sR (body)))))))))))))))))))) (.seq (.code (sL (sR (sR (body))))) (.seq (.code (sL (sR (sR (sR (body)))))) (.cut (k6E fun r_3b r_3o x4b x4o x_12b x_12o m => k6  r_3b r_3o x4b x4o x_12b x_12o R m) (sR (sR (sR (sR (body))))))))))
abbrev k6Q  (R : Ending → Mem → Prop) : Exit → Env → Mem → Prop := (bodyQ P fn R)
abbrev k1Q  (R : Ending → Mem → Prop) : Exit → Env → Mem → Prop := (blockQ 0 (thenQ (acpt P od (panicR R) (.seq (.code (sL (sR (sR (body))))) (.seq (.code (sL (sR (sR (sR (body)))))) (.cut (k6E fun r_3b r_3o x4b x4o x_12b x_12o m => k6  r_3b r_3o x4b x4o x_12b x_12o R m) (sR (sR (sR (sR (body)))))))) (bodyQ P fn R)) (bodyQ P fn R)))
abbrev l2Q  (R : Ending → Mem → Prop) : Exit → Env → Mem → Prop := (blockQ 1 (thenQ (acpt P od (panicR R) (.code (sR (sR (cT (sR (cE (sR (bB (sR (sL (sR (body)))))))))))) (blockQ 0 (thenQ (acpt P od (panicR R) (.seq (.code (sL (sR (sR (body))))) (.seq (.code (sL (sR (sR (sR (body)))))) (.cut (k6E fun r_3b r_3o x4b x4o x_12b x_12o m => k6  r_3b r_3o x4b x4o x_12b x_12o R m) (sR (sR (sR (sR (body)))))))) (bodyQ P fn R)) (bodyQ P fn R)))) (blockQ 0 (thenQ (acpt P od (panicR R) (.seq (.code (sL (sR (sR (body))))) (.seq (.code (sL (sR (sR (sR (body)))))) (.cut (k6E fun r_3b r_3o x4b x4o x_12b x_12o m => k6  r_3b r_3o x4b x4o x_12b x_12o R m) (sR (sR (sR (sR (body)))))))) (bodyQ P fn R)) (bodyQ P fn R)))))
abbrev l3Q  (R : Ending → Mem → Prop) : Exit → Env → Mem → Prop := (blockQ 3 (thenQ (acpt P od (panicR R) (.code (sR (sR (cT (sR (cE (sR (cE (sR (bB (sR (sL (sR (body)))))))))))))) (blockQ 0 (thenQ (acpt P od (panicR R) (.seq (.code (sL (sR (sR (body))))) (.seq (.code (sL (sR (sR (sR (body)))))) (.cut (k6E fun r_3b r_3o x4b x4o x_12b x_12o m => k6  r_3b r_3o x4b x4o x_12b x_12o R m) (sR (sR (sR (sR (body)))))))) (bodyQ P fn R)) (bodyQ P fn R)))) (blockQ 0 (thenQ (acpt P od (panicR R) (.seq (.code (sL (sR (sR (body))))) (.seq (.code (sL (sR (sR (sR (body)))))) (.cut (k6E fun r_3b r_3o x4b x4o x_12b x_12o m => k6  r_3b r_3o x4b x4o x_12b x_12o R m) (sR (sR (sR (sR (body)))))))) (bodyQ P fn R)) (bodyQ P fn R)))))
abbrev k4Q (K3 : Option Addr → Nat → Nat → Nat → Nat → Nat → Nat → Int → Mem → Prop) (R : Ending → Mem → Prop) : Exit → Env → Mem → Prop := (blockQ 4 (thenQ (acpt P od (panicR R) (.code (sR (sR (lP (bB (sR (sL (sR (cT (sR (cE (sR (cE (sR (bB (sR (sL (sR (body))))))))))))))))))) (thenQ (l3E K3) (l3Q  R))) (thenQ (l3E K3) (l3Q  R))))
abbrev k5Q (K3 : Option Addr → Nat → Nat → Nat → Nat → Nat → Nat → Int → Mem → Prop) (R : Ending → Mem → Prop) : Exit → Env → Mem → Prop := (k4Q K3 R)
theorem k1_eq  (R : Ending → Mem → Prop) (x4b : Nat) (x4o : Nat) (k_5 : Int) (ρ : Env) (m : Mem) : k1  x4b x4o k_5 R m = acpt P od (panicR R) (k1A  R) (k1Q  R) (upd (upd ρ 5 (.int .i64 k_5)) 4 (.pointer (some ⟨x4b, x4o, none⟩))) m := by kernel_rfl
theorem k1_er  (R : Ending → Mem → Prop) : (k1A  R).erase = sR (sR (cT (sR (bB (sR (sL (sR (body)))))))) := by kernel_rfl
theorem k1_ok  (R : Ending → Mem → Prop) (ρ : Env) (m : Mem) (h : (k1E fun x4b x4o k_5 m => k1  x4b x4o k_5 R m) ρ m) : cpt P od (panicR R) (sR (sR (cT (sR (bB (sR (sL (sR (body))))))))) (k1Q  R) ρ m := by
  unfold k1E at h
  obtain ⟨x4b, x4o, e4, h⟩ := h.ex
  obtain ⟨k_5, e5, h⟩ := h.ex
  rw [← upd_self e4, ← upd_self e5]
  rw [← k1_er  R]
  refine acpt_sound (P := P) (k1A  R) _ _ _ True.intro ?_
  exact Eq.mp (k1_eq  R x4b x4o k_5 ρ m) h
theorem l2_eq  (K2 : Option Addr → Nat → Nat → Nat → Nat → Nat → Nat → Int → Mem → Prop) (R : Ending → Mem → Prop) (p_0 : Option Addr) (r_3b : Nat) (r_3o : Nat) (x4b : Nat) (x4o : Nat) (out_6b : Nat) (out_6o : Nat) (i_7 : Int) (ρ : Env) (m : Mem) : l2B  K2 p_0 r_3b r_3o x4b x4o out_6b out_6o i_7 R m = acpt P od (panicR R) (l2A  K2 R) (thenQ (l2E K2) (l2Q  R)) (upd (upd (upd (upd (upd ρ 7 (.int .i64 i_7)) 6 (.pointer (some ⟨out_6b, out_6o, none⟩))) 4 (.pointer (some ⟨x4b, x4o, none⟩))) 3 (.pointer (some ⟨r_3b, r_3o, none⟩))) 0 (.pointer p_0)) m := by kernel_rfl
theorem l2_er  (K2 : Option Addr → Nat → Nat → Nat → Nat → Nat → Nat → Int → Mem → Prop) (R : Ending → Mem → Prop) : (l2A  K2 R).erase = lP (bB (sR (sL (sR (cT (sR (cE (sR (bB (sR (sL (sR (body))))))))))))) := by kernel_rfl
theorem l2_ok  (R : Ending → Mem → Prop) (ρ : Env) (m : Mem) (h : (l2E fun p_0 r_3b r_3o x4b x4o out_6b out_6o i_7 m => l2  p_0 r_3b r_3o x4b x4o out_6b out_6o i_7 R m) ρ m) : cpt P od (panicR R) (.loop (lP (bB (sR (sL (sR (cT (sR (cE (sR (bB (sR (sL (sR (body))))))))))))))) (l2Q  R) ρ m := by
  unfold l2E at h
  obtain ⟨p_0, e0, h⟩ := h.ex
  obtain ⟨r_3b, r_3o, e3, h⟩ := h.ex
  obtain ⟨x4b, x4o, e4, h⟩ := h.ex
  obtain ⟨out_6b, out_6o, e6, h⟩ := h.ex
  obtain ⟨i_7, e7, h⟩ := h.ex
  obtain ⟨I, N, h0, hs⟩ := h
  refine ⟨fun N => l2E (I N), N, (by show l2E (I N) ρ m; unfold l2E; rw [e0, e3, e4, e6, e7]; exact h0), ?_⟩
  clear h0 e0 e3 e4 e6 e7
  intro N ρ m h
  unfold l2E at h
  obtain ⟨p_0, e0, h⟩ := h.ex
  obtain ⟨r_3b, r_3o, e3, h⟩ := h.ex
  obtain ⟨x4b, x4o, e4, h⟩ := h.ex
  obtain ⟨out_6b, out_6o, e6, h⟩ := h.ex
  obtain ⟨i_7, e7, h⟩ := h.ex
  refine cpt_mono (P := P) (lP (bB (sR (sL (sR (cT (sR (cE (sR (bB (sR (sL (sR (body)))))))))))))) (Q := thenQ (l2E fun p_0 r_3b r_3o x4b x4o out_6b out_6o i_7 m => ∃ N1, N1 < N ∧ I N1 p_0 r_3b r_3o x4b x4o out_6b out_6o i_7 m) (l2Q  R)) (fun e ρ m h => ?_) ρ m ?_
  · cases e with
    | normal =>
      have h : l2E (fun p_0 r_3b r_3o x4b x4o out_6b out_6o i_7 m => ∃ N1, N1 < N ∧ I N1 p_0 r_3b r_3o x4b x4o out_6b out_6o i_7 m) ρ m := h
      unfold l2E at h
      obtain ⟨p_0, e0, h⟩ := h.ex
      obtain ⟨r_3b, r_3o, e3, h⟩ := h.ex
      obtain ⟨x4b, x4o, e4, h⟩ := h.ex
      obtain ⟨out_6b, out_6o, e6, h⟩ := h.ex
      obtain ⟨i_7, e7, h⟩ := h.ex
      obtain ⟨N1, hlt, h⟩ := h
      exact ⟨N1, hlt, (by show l2E (I N1) ρ m; unfold l2E; rw [e0, e3, e4, e6, e7]; exact h)⟩
    | _ => exact h
  have hh := hs N p_0 r_3b r_3o x4b x4o out_6b out_6o i_7 m h
  generalize (fun p_0 r_3b r_3o x4b x4o out_6b out_6o i_7 m => ∃ N1, N1 < N ∧ I N1 p_0 r_3b r_3o x4b x4o out_6b out_6o i_7 m : Option Addr → Nat → Nat → Nat → Nat → Nat → Nat → Int → Mem → Prop) = K2 at hh ⊢
  rw [← upd_self e0, ← upd_self e3, ← upd_self e4, ← upd_self e6, ← upd_self e7]
  rw [← l2_er  K2 R]
  refine acpt_sound (P := P) (l2A  K2 R) _ _ _ True.intro ?_
  exact Eq.mp (l2_eq  K2 R p_0 r_3b r_3o x4b x4o out_6b out_6o i_7 ρ m) hh
theorem k5_eq (K3 : Option Addr → Nat → Nat → Nat → Nat → Nat → Nat → Int → Mem → Prop) (R : Ending → Mem → Prop) (p_0 : Option Addr) (r_3b : Nat) (r_3o : Nat) (x4b : Nat) (x4o : Nat) (out_9b : Nat) (out_9o : Nat) (i_10 : Int) (x_11b : Nat) (x_11o : Nat) (ρ : Env) (m : Mem) : k5 K3 p_0 r_3b r_3o x4b x4o out_9b out_9o i_10 x_11b x_11o R m = acpt P od (panicR R) (k5A K3 R) (k5Q K3 R) (upd (upd (upd (upd (upd (upd ρ 11 (.pointer (some ⟨x_11b, x_11o, none⟩))) 10 (.int .i64 i_10)) 9 (.pointer (some ⟨out_9b, out_9o, none⟩))) 4 (.pointer (some ⟨x4b, x4o, none⟩))) 3 (.pointer (some ⟨r_3b, r_3o, none⟩))) 0 (.pointer p_0)) m := by kernel_rfl
theorem k5_er (K3 : Option Addr → Nat → Nat → Nat → Nat → Nat → Nat → Int → Mem → Prop) (R : Ending → Mem → Prop) : (k5A K3 R).erase = sR (sR (sR (sR (bB (sL (sR (lP (bB (sR (sL (sR (cT (sR (cE (sR (cE (sR (bB (sR (sL (sR (body)))))))))))))))))))))) := by kernel_rfl
theorem k5_ok (K3 : Option Addr → Nat → Nat → Nat → Nat → Nat → Nat → Int → Mem → Prop) (R : Ending → Mem → Prop) (ρ : Env) (m : Mem) (h : (k5E fun p_0 r_3b r_3o x4b x4o out_9b out_9o i_10 x_11b x_11o m => k5 K3 p_0 r_3b r_3o x4b x4o out_9b out_9o i_10 x_11b x_11o R m) ρ m) : cpt P od (panicR R) (sR (sR (sR (sR (bB (sL (sR (lP (bB (sR (sL (sR (cT (sR (cE (sR (cE (sR (bB (sR (sL (sR (body))))))))))))))))))))))) (k5Q K3 R) ρ m := by
  unfold k5E at h
  obtain ⟨p_0, e0, h⟩ := h.ex
  obtain ⟨r_3b, r_3o, e3, h⟩ := h.ex
  obtain ⟨x4b, x4o, e4, h⟩ := h.ex
  obtain ⟨out_9b, out_9o, e9, h⟩ := h.ex
  obtain ⟨i_10, e10, h⟩ := h.ex
  obtain ⟨x_11b, x_11o, e11, h⟩ := h.ex
  rw [← upd_self e0, ← upd_self e3, ← upd_self e4, ← upd_self e9, ← upd_self e10, ← upd_self e11]
  rw [← k5_er K3 R]
  refine acpt_sound (P := P) (k5A K3 R) _ _ _ True.intro ?_
  exact Eq.mp (k5_eq K3 R p_0 r_3b r_3o x4b x4o out_9b out_9o i_10 x_11b x_11o ρ m) h
theorem k4_eq (K3 : Option Addr → Nat → Nat → Nat → Nat → Nat → Nat → Int → Mem → Prop) (R : Ending → Mem → Prop) (p_0 : Option Addr) (r_3b : Nat) (r_3o : Nat) (x4b : Nat) (x4o : Nat) (out_9b : Nat) (out_9o : Nat) (i_10 : Int) (x_11b : Nat) (x_11o : Nat) (ρ : Env) (m : Mem) : k4 K3 p_0 r_3b r_3o x4b x4o out_9b out_9o i_10 x_11b x_11o R m = acpt P od (panicR R) (k4A K3 R) (k4Q K3 R) (upd (upd (upd (upd (upd (upd ρ 11 (.pointer (some ⟨x_11b, x_11o, none⟩))) 10 (.int .i64 i_10)) 9 (.pointer (some ⟨out_9b, out_9o, none⟩))) 4 (.pointer (some ⟨x4b, x4o, none⟩))) 3 (.pointer (some ⟨r_3b, r_3o, none⟩))) 0 (.pointer p_0)) m := by kernel_rfl
theorem k4_er (K3 : Option Addr → Nat → Nat → Nat → Nat → Nat → Nat → Int → Mem → Prop) (R : Ending → Mem → Prop) : (k4A K3 R).erase = sR (sR (sR (bB (sL (sR (lP (bB (sR (sL (sR (cT (sR (cE (sR (cE (sR (bB (sR (sL (sR (body))))))))))))))))))))) := by kernel_rfl
theorem k4_ok (K3 : Option Addr → Nat → Nat → Nat → Nat → Nat → Nat → Int → Mem → Prop) (R : Ending → Mem → Prop) (ρ : Env) (m : Mem) (h : (k4E fun p_0 r_3b r_3o x4b x4o out_9b out_9o i_10 x_11b x_11o m => k4 K3 p_0 r_3b r_3o x4b x4o out_9b out_9o i_10 x_11b x_11o R m) ρ m) : cpt P od (panicR R) (sR (sR (sR (bB (sL (sR (lP (bB (sR (sL (sR (cT (sR (cE (sR (cE (sR (bB (sR (sL (sR (body)))))))))))))))))))))) (k4Q K3 R) ρ m := by
  unfold k4E at h
  obtain ⟨p_0, e0, h⟩ := h.ex
  obtain ⟨r_3b, r_3o, e3, h⟩ := h.ex
  obtain ⟨x4b, x4o, e4, h⟩ := h.ex
  obtain ⟨out_9b, out_9o, e9, h⟩ := h.ex
  obtain ⟨i_10, e10, h⟩ := h.ex
  obtain ⟨x_11b, x_11o, e11, h⟩ := h.ex
  rw [← upd_self e0, ← upd_self e3, ← upd_self e4, ← upd_self e9, ← upd_self e10, ← upd_self e11]
  rw [← k4_er K3 R]
  refine acpt_sound (P := P) (k4A K3 R) _ _ _ ⟨(fun ρ m h => k5_ok K3 R ρ m h), True.intro⟩ ?_
  exact Eq.mp (k4_eq K3 R p_0 r_3b r_3o x4b x4o out_9b out_9o i_10 x_11b x_11o ρ m) h
theorem l3_eq  (K3 : Option Addr → Nat → Nat → Nat → Nat → Nat → Nat → Int → Mem → Prop) (R : Ending → Mem → Prop) (p_0 : Option Addr) (r_3b : Nat) (r_3o : Nat) (x4b : Nat) (x4o : Nat) (out_9b : Nat) (out_9o : Nat) (i_10 : Int) (ρ : Env) (m : Mem) : l3B  K3 p_0 r_3b r_3o x4b x4o out_9b out_9o i_10 R m = acpt P od (panicR R) (l3A  K3 R) (thenQ (l3E K3) (l3Q  R)) (upd (upd (upd (upd (upd ρ 10 (.int .i64 i_10)) 9 (.pointer (some ⟨out_9b, out_9o, none⟩))) 4 (.pointer (some ⟨x4b, x4o, none⟩))) 3 (.pointer (some ⟨r_3b, r_3o, none⟩))) 0 (.pointer p_0)) m := by kernel_rfl
theorem l3_er  (K3 : Option Addr → Nat → Nat → Nat → Nat → Nat → Nat → Int → Mem → Prop) (R : Ending → Mem → Prop) : (l3A  K3 R).erase = lP (bB (sR (sL (sR (cT (sR (cE (sR (cE (sR (bB (sR (sL (sR (body))))))))))))))) := by kernel_rfl
theorem l3_ok  (R : Ending → Mem → Prop) (ρ : Env) (m : Mem) (h : (l3E fun p_0 r_3b r_3o x4b x4o out_9b out_9o i_10 m => l3  p_0 r_3b r_3o x4b x4o out_9b out_9o i_10 R m) ρ m) : cpt P od (panicR R) (.loop (lP (bB (sR (sL (sR (cT (sR (cE (sR (cE (sR (bB (sR (sL (sR (body))))))))))))))))) (l3Q  R) ρ m := by
  unfold l3E at h
  obtain ⟨p_0, e0, h⟩ := h.ex
  obtain ⟨r_3b, r_3o, e3, h⟩ := h.ex
  obtain ⟨x4b, x4o, e4, h⟩ := h.ex
  obtain ⟨out_9b, out_9o, e9, h⟩ := h.ex
  obtain ⟨i_10, e10, h⟩ := h.ex
  obtain ⟨I, N, h0, hs⟩ := h
  refine ⟨fun N => l3E (I N), N, (by show l3E (I N) ρ m; unfold l3E; rw [e0, e3, e4, e9, e10]; exact h0), ?_⟩
  clear h0 e0 e3 e4 e9 e10
  intro N ρ m h
  unfold l3E at h
  obtain ⟨p_0, e0, h⟩ := h.ex
  obtain ⟨r_3b, r_3o, e3, h⟩ := h.ex
  obtain ⟨x4b, x4o, e4, h⟩ := h.ex
  obtain ⟨out_9b, out_9o, e9, h⟩ := h.ex
  obtain ⟨i_10, e10, h⟩ := h.ex
  refine cpt_mono (P := P) (lP (bB (sR (sL (sR (cT (sR (cE (sR (cE (sR (bB (sR (sL (sR (body)))))))))))))))) (Q := thenQ (l3E fun p_0 r_3b r_3o x4b x4o out_9b out_9o i_10 m => ∃ N1, N1 < N ∧ I N1 p_0 r_3b r_3o x4b x4o out_9b out_9o i_10 m) (l3Q  R)) (fun e ρ m h => ?_) ρ m ?_
  · cases e with
    | normal =>
      have h : l3E (fun p_0 r_3b r_3o x4b x4o out_9b out_9o i_10 m => ∃ N1, N1 < N ∧ I N1 p_0 r_3b r_3o x4b x4o out_9b out_9o i_10 m) ρ m := h
      unfold l3E at h
      obtain ⟨p_0, e0, h⟩ := h.ex
      obtain ⟨r_3b, r_3o, e3, h⟩ := h.ex
      obtain ⟨x4b, x4o, e4, h⟩ := h.ex
      obtain ⟨out_9b, out_9o, e9, h⟩ := h.ex
      obtain ⟨i_10, e10, h⟩ := h.ex
      obtain ⟨N1, hlt, h⟩ := h
      exact ⟨N1, hlt, (by show l3E (I N1) ρ m; unfold l3E; rw [e0, e3, e4, e9, e10]; exact h)⟩
    | _ => exact h
  have hh := hs N p_0 r_3b r_3o x4b x4o out_9b out_9o i_10 m h
  generalize (fun p_0 r_3b r_3o x4b x4o out_9b out_9o i_10 m => ∃ N1, N1 < N ∧ I N1 p_0 r_3b r_3o x4b x4o out_9b out_9o i_10 m : Option Addr → Nat → Nat → Nat → Nat → Nat → Nat → Int → Mem → Prop) = K3 at hh ⊢
  rw [← upd_self e0, ← upd_self e3, ← upd_self e4, ← upd_self e9, ← upd_self e10]
  rw [← l3_er  K3 R]
  refine acpt_sound (P := P) (l3A  K3 R) _ _ _ ⟨⟨True.intro, ⟨⟨⟨(fun ρ m h => k4_ok K3 R ρ m h), True.intro⟩, True.intro⟩, True.intro⟩⟩, True.intro⟩ ?_
  exact Eq.mp (l3_eq  K3 R p_0 r_3b r_3o x4b x4o out_9b out_9o i_10 ρ m) hh
theorem k6_eq  (R : Ending → Mem → Prop) (r_3b : Nat) (r_3o : Nat) (x4b : Nat) (x4o : Nat) (x_12b : Nat) (x_12o : Nat) (ρ : Env) (m : Mem) : k6  r_3b r_3o x4b x4o x_12b x_12o R m = acpt P od (panicR R) (k6A  R) (k6Q  R) (upd (upd (upd ρ 12 (.pointer (some ⟨x_12b, x_12o, none⟩))) 4 (.pointer (some ⟨x4b, x4o, none⟩))) 3 (.pointer (some ⟨r_3b, r_3o, none⟩))) m := by kernel_rfl
theorem k6_er  (R : Ending → Mem → Prop) : (k6A  R).erase = sR (sR (sR (sR (body)))) := by kernel_rfl
theorem k6_ok  (R : Ending → Mem → Prop) (ρ : Env) (m : Mem) (h : (k6E fun r_3b r_3o x4b x4o x_12b x_12o m => k6  r_3b r_3o x4b x4o x_12b x_12o R m) ρ m) : cpt P od (panicR R) (sR (sR (sR (sR (body))))) (k6Q  R) ρ m := by
  unfold k6E at h
  obtain ⟨r_3b, r_3o, e3, h⟩ := h.ex
  obtain ⟨x4b, x4o, e4, h⟩ := h.ex
  obtain ⟨x_12b, x_12o, e12, h⟩ := h.ex
  rw [← upd_self e3, ← upd_self e4, ← upd_self e12]
  rw [← k6_er  R]
  refine acpt_sound (P := P) (k6A  R) _ _ _ True.intro ?_
  exact Eq.mp (k6_eq  R r_3b r_3o x4b x4o x_12b x_12o ρ m) h
theorem e0_eq (p_0 : Option Addr) (r_1_0 : Int) (r_1_1 : Int) (r_1_2 : Int) (r_1_3 : Int) (r_1_4 : Int) (r_1_5a : Option Addr) (r_1_5l : Nat) (r_1_5c : Nat) (R : Ending → Mem → Prop) (m : Mem) : e0 p_0 r_1_0 r_1_1 r_1_2 r_1_3 r_1_4 r_1_5a r_1_5l r_1_5c R m = acpt P od (panicR R) (e0A R) (bodyQ P fn R) (argE (#[.pointer p_0, .agg #[.int .i64 r_1_0, .int .u64 r_1_1, .int .u64 r_1_2, .int .u64 r_1_3, .int .u64 r_1_4, .slice r_1_5a r_1_5l r_1_5c]] : Array Value).toList) m := by kernel_rfl
theorem ok (p_0 : Option Addr) (r_1_0 : Int) (r_1_1 : Int) (r_1_2 : Int) (r_1_3 : Int) (r_1_4 : Int) (r_1_5a : Option Addr) (r_1_5l : Nat) (r_1_5c : Nat) (R : Ending → Mem → Prop) (m : Mem) (h : e0 p_0 r_1_0 r_1_1 r_1_2 r_1_3 r_1_4 r_1_5a r_1_5l r_1_5c R m) : HC P id #[.pointer p_0, .agg #[.int .i64 r_1_0, .int .u64 r_1_1, .int .u64 r_1_2, .int .u64 r_1_3, .int .u64 r_1_4, .slice r_1_5a r_1_5l r_1_5c]] m R := by
  refine HC_of (fn := fn) (c := body) (od := od) (tb := tb) Go.Proofs.Try.func24 (by kernel_rfl) (by kernel_rfl) follows (by kernel_rfl) (of_decide_eq_true (by kernel_rfl)) ?_
  have he : (e0A R).erase = body := by kernel_rfl
  rw [← he]
  refine acpt_sound (P := P) (e0A R) _ _ _ ⟨⟨⟨⟨(fun ρ m h => k6_ok  R ρ m h), True.intro⟩, True.intro⟩, ⟨⟨⟨⟨⟨(fun ρ m h => k1_ok  R ρ m h), True.intro⟩, True.intro⟩, ⟨⟨⟨⟨True.intro, ⟨(fun ρ m h => l2_ok  R ρ m h), True.intro⟩⟩, True.intro⟩, ⟨⟨⟨⟨True.intro, ⟨(fun ρ m h => l3_ok  R ρ m h), True.intro⟩⟩, True.intro⟩, True.intro⟩, True.intro⟩⟩, True.intro⟩⟩, True.intro⟩, True.intro⟩⟩, True.intro⟩ ?_
  exact Eq.mp (e0_eq p_0 r_1_0 r_1_1 r_1_2 r_1_3 r_1_4 r_1_5a r_1_5l r_1_5c R m) h
end eyotref8_Places_walk
end
end Go.E
set_option linter.unusedVariables false
set_option maxRecDepth 100000
namespace Go.E
open Go.H
noncomputable section
/-! ### eyot/eyotref8.rise -/
namespace eyotref8_rise
noncomputable def fn : Func := Go.Proofs.Try.f25
noncomputable def body : Code := fn.body.getD .skip
def od : Nat → Ord := fun | 6 => ordL [(0, 3), (1, 3), (2, 3), (3, 3), (4, 3), (5, 3), (6, 3), (7, 3), (8, 1), (9, 3), (10, 3), (11, 3), (12, 0), (13, 3), (14, 3)] .done | 8 => ordL [(0, 3), (1, 3), (2, 3), (3, 3), (4, 3), (5, 3), (6, 3), (7, 3), (8, 1), (9, 3), (10, 3), (11, 3), (12, 0), (13, 3), (14, 3)] .done | 9 => ordL [(1, 3), (2, 3), (3, 3), (5, 3), (6, 3), (7, 3), (8, 1), (11, 3), (12, 3), (13, 3)] (.alt 0 0 (ordL [] (.alt 4 0 (ordL [(9, 2), (10, 2), (14, 2), (15, 3)] .done) 9 2 (ordL [(4, 2), (10, 2), (14, 2), (15, 3)] .done))) 9 2 (ordL [(0, 2), (4, 2), (10, 2), (14, 2), (15, 3)] .done)) | _ => .done
def tb : Nat → Tab := fun | 6 => (0, [0, 0, 2, 7, 15, 31, 31, 127, 255, 31, 31, 1567, 3615, 8191, 16383], [(0, 32, 13), (0, 8, 14), (2, 8192, 15), (5, 20480, 16), (8, 32768, 17), (16, 65544, 18), (16, 65568, 19), (112, 458752, 20), (144, 589824, 21), (16, 65537, 22), (16, 65552, 23), (1552, 6356992, 24), (2064, 8454144, 25), (4368, 17891328, 26), (8208, 33619968, 27)]) | 8 => (0, [0, 0, 2, 7, 15, 31, 31, 127, 255, 31, 31, 1567, 3615, 8191, 16383], [(0, 32, 30), (0, 8, 31), (2, 1073741824, 32), (5, 2684354560, 33), (8, 4294967296, 34), (16, 8589934600, 35), (16, 8589934624, 36), (112, 60129542144, 37), (144, 77309411328, 38), (16, 8589934593, 39), (16, 8589934608, 40), (1552, 833223655424, 41), (2064, 1108101562368, 42), (4368, 2345052143616, 43), (8208, 4406636445696, 44)]) | 9 => (17920, [0, 0, 0, 6, 15, 0, 0, 96, 224, 480, 1023, 0, 0, 6144, 16383, 32767], [(0, 0, 45), (0, 8, 46), (0, 32, 47), (6, 105553116266496, 48), (9, 158329674399744, 49), (0, 1, 50), (0, 16, 51), (96, 1688849860263936, 52), (128, 2251799813685248, 53), (256, 4503599627370496, 54), (528, 9288674231451648, 55), (0, 8, 56), (0, 32, 57), (6144, 108086391056891904, 58), (9216, 162129586585337856, 59), (32767, 288230376151711744, 4)]) | _ => (0, [], [])
def k4E (K : Option Addr → Nat → Nat → Option Addr → Nat → Nat → Int → Int → Bool → Mem → Prop) : Env → Mem → Prop := fun ρ m => UnS (ρ 0) fun l_0a l_0l l_0c => UnS (ρ 3) fun out_3a out_3l out_3c => UnI (ρ 4) .i64 fun i_4 => UnI (ρ 5) .i64 fun k_5 => UnB (ρ 43) fun x43 => K l_0a l_0l l_0c out_3a out_3l out_3c i_4 k_5 x43 m
def k4 (K1 : Option Addr → Nat → Nat → Option Addr → Nat → Nat → Int → Mem → Prop) (l_0a : Option Addr) (l_0l : Nat) (l_0c : Nat) (out_3a : Option Addr) (out_3l : Nat) (out_3c : Nat) (i_4 : Int) (k_5 : Int) (x43 : Bool) (R : Ending → Mem → Prop) (m : Mem) : Prop :=
 Br x43 (
  Sub m fun r1 =>
  SlS out_3a out_3c 0 k_5 1 fun x47a x47l x47c =>
  IxS l_0a l_0l i_4 1 fun x51b x51o =>
  LdV r1 x51b x51o fun v =>
  UnI v .i64 fun x52 =>
  SlS out_3a out_3c k_5 out_3l 1 fun x57a x57l x57c =>
  (
   NewC m #[] T_int fun b44 m2 =>
   Lk r1 m2 fun r3 =>
   (
    BiN P .append #[T_sl_int, T_sl_int] T_sl_int #[false, false] #[.slice (some ⟨b44, 0, none⟩) 0 0, .slice x47a x47l x47c] m2 (fun w m4 =>
     UnS w fun x48a x48l x48c =>
     Lk r3 m4 fun r5 =>
     NewC m4 #[.int .i64 x52] T_int fun b53 m6 =>
     BiN P .append #[T_sl_int, T_sl_int] T_sl_int #[false, false] #[.slice x48a x48l x48c, .slice (some ⟨b53, 0, none⟩) 1 1] m6 (fun w m7 =>
      UnS w fun x54a x54l x54c =>
      BiN P .append #[T_sl_int, T_sl_int] T_sl_int #[false, false] #[.slice x54a x54l x54c, .slice x57a x57l x57c] m7 (fun w m8 =>
       UnS w fun x58a x58l x58c =>
       K1 l_0a l_0l l_0c x58a x58l x58c (IntKind.i64.wrap (i_4 + 1)) m8) (panicR R)) (panicR R)) (panicR R)) ∧ (
    NewC m2 #[.int .i64 x52] T_int fun b53 m4 =>
    BiN P .append #[T_sl_int, T_sl_int] T_sl_int #[false, false] #[.slice (some ⟨b44, 0, none⟩) 0 0, .slice x47a x47l x47c] m4 (fun w m5 =>
     UnS w fun x48a x48l x48c =>
     BiN P .append #[T_sl_int, T_sl_int] T_sl_int #[false, false] #[.slice x48a x48l x48c, .slice (some ⟨b53, 0, none⟩) 1 1] m5 (fun w m6 =>
      UnS w fun x54a x54l x54c =>
      BiN P .append #[T_sl_int, T_sl_int] T_sl_int #[false, false] #[.slice x54a x54l x54c, .slice x57a x57l x57c] m6 (fun w m7 =>
       UnS w fun x58a x58l x58c =>
       K1 l_0a l_0l l_0c x58a x58l x58c (IntKind.i64.wrap (i_4 + 1)) m7) (panicR R)) (panicR R)) (panicR R))) ∧ (
   NewC m #[.int .i64 x52] T_int fun b53 m2 =>
   NewC m2 #[] T_int fun b44 m3 =>
   BiN P .append #[T_sl_int, T_sl_int] T_sl_int #[false, false] #[.slice (some ⟨b44, 0, none⟩) 0 0, .slice x47a x47l x47c] m3 (fun w m4 =>
    UnS w fun x48a x48l x48c =>
    BiN P .append #[T_sl_int, T_sl_int] T_sl_int #[false, false] #[.slice x48a x48l x48c, .slice (some ⟨b53, 0, none⟩) 1 1] m4 (fun w m5 =>
     UnS w fun x54a x54l x54c =>
     BiN P .append #[T_sl_int, T_sl_int] T_sl_int #[false, false] #[.slice x54a x54l x54c, .slice x57a x57l x57c] m5 (fun w m6 =>
      UnS w fun x58a x58l x58c =>
      K1 l_0a l_0l l_0c x58a x58l x58c (IntKind.i64.wrap (i_4 + 1)) m6) (panicR R)) (panicR R)) (panicR R))) (
  K1 l_0a l_0l l_0c out_3a out_3l out_3c (IntKind.i64.wrap (i_4 + 1)) m)
noncomputable def k4A (K1 : Option Addr → Nat → Nat → Option Addr → Nat → Nat → Int → Mem → Prop) (R : Ending → Mem → Prop) : ACode := (.code (sR (sR (sR (bB (sL (sR (lP (bB (sR (sL (sR (sR (body))))))))))))))
def k3E (K : Option Addr → Nat → Nat → Option Addr → Nat → Nat → Int → Int → Mem → Prop) : Env → Mem → Prop := fun ρ m => UnS (ρ 0) fun l_0a l_0l l_0c => UnS (ρ 3) fun out_3a out_3l out_3c => UnI (ρ 4) .i64 fun i_4 => UnI (ρ 5) .i64 fun k_5 => K l_0a l_0l l_0c out_3a out_3l out_3c i_4 k_5 m
def k3 (K1 : Option Addr → Nat → Nat → Option Addr → Nat → Nat → Int → Mem → Prop) (l_0a : Option Addr) (l_0l : Nat) (l_0c : Nat) (out_3a : Option Addr) (out_3l : Nat) (out_3c : Nat) (i_4 : Int) (k_5 : Int) (R : Ending → Mem → Prop) (m : Mem) : Prop :=
 Sub m fun r1 =>
 Br (k_5 == ((out_3l : Nat) : Int)) (
  k4 K1 l_0a l_0l l_0c out_3a out_3l out_3c i_4 k_5 true R m) (
  IxS out_3a out_3l k_5 1 fun x36b x36o =>
  LdV r1 x36b x36o fun v =>
  UnI v .i64 fun x37 =>
  IxS l_0a l_0l i_4 1 fun x40b x40o =>
  LdV m x40b x40o fun v =>
  UnI v .i64 fun x41 =>
  k4 K1 l_0a l_0l l_0c out_3a out_3l out_3c i_4 k_5 (x37 != x41) R m)
noncomputable def k3A (K1 : Option Addr → Nat → Nat → Option Addr → Nat → Nat → Int → Mem → Prop) (R : Ending → Mem → Prop) : ACode := (.seq (.code (sL (sR (sR (bB (sL (sR (lP (bB (sR (sL (sR (sR (body)))))))))))))) (.cut (k4E fun l_0a l_0l l_0c out_3a out_3l out_3c i_4 k_5 x43 m => k4 K1 l_0a l_0l l_0c out_3a out_3l out_3c i_4 k_5 x43 R m) (sR (sR (sR (bB (sL (sR (lP (bB (sR (sL (sR (sR (body)))))))))))))))
def l2E (K : Option Addr → Nat → Nat → Option Addr → Nat → Nat → Int → Int → Mem → Prop) : Env → Mem → Prop := fun ρ m => UnS (ρ 0) fun l_0a l_0l l_0c => UnS (ρ 3) fun out_3a out_3l out_3c => UnI (ρ 4) .i64 fun i_4 => UnI (ρ 5) .i64 fun k_5 => K l_0a l_0l l_0c out_3a out_3l out_3c i_4 k_5 m
def l2B (K1 : Option Addr → Nat → Nat → Option Addr → Nat → Nat → Int → Mem → Prop) (K2 : Option Addr → Nat → Nat → Option Addr → Nat → Nat → Int → Int → Mem → Prop) (l_0a : Option Addr) (l_0l : Nat) (l_0c : Nat) (out_3a : Option Addr) (out_3l : Nat) (out_3c : Nat) (i_4 : Int) (k_5 : Int) (R : Ending → Mem → Prop) (m : Mem) : Prop :=
 Sub m fun r1 =>
 Br (decide (k_5 < ((out_3l : Nat) : Int))) (
  IxS out_3a out_3l k_5 1 fun x19b x19o =>
  LdV r1 x19b x19o fun v =>
  UnI v .i64 fun x20 =>
  IxS l_0a l_0l i_4 1 fun x23b x23o =>
  LdV m x23b x23o fun v =>
  UnI v .i64 fun x24 =>
  Br (decide (x20 < x24)) (
   K2 l_0a l_0l l_0c out_3a out_3l out_3c i_4 (IntKind.i64.wrap (k_5 + 1)) m) (
   k3 K1 l_0a l_0l l_0c out_3a out_3l out_3c i_4 k_5 R m)) (
  k3 K1 l_0a l_0l l_0c out_3a out_3l out_3c i_4 k_5 R m)
def l2 (K1 : Option Addr → Nat → Nat → Option Addr → Nat → Nat → Int → Mem → Prop) (l_0a : Option Addr) (l_0l : Nat) (l_0c : Nat) (out_3a : Option Addr) (out_3l : Nat) (out_3c : Nat) (i_4 : Int) (k_5 : Int) (R : Ending → Mem → Prop) (m : Mem) : Prop :=
  ∃ (I : Nat → Option Addr → Nat → Nat → Option Addr → Nat → Nat → Int → Int → Mem → Prop) (N : Nat), I N l_0a l_0l l_0c out_3a out_3l out_3c i_4 k_5 m ∧ ∀ N l_0a l_0l l_0c out_3a out_3l out_3c i_4 k_5 m, I N l_0a l_0l l_0c out_3a out_3l out_3c i_4 k_5 m → l2B K1 (fun l_0a l_0l l_0c out_3a out_3l out_3c i_4 k_5 m => ∃ N1, N1 < N ∧ I N1 l_0a l_0l l_0c out_3a out_3l out_3c i_4 k_5 m) l_0a l_0l l_0c out_3a out_3l out_3c i_4 k_5 R m
noncomputable def l2A (K1 : Option Addr → Nat → Nat → Option Addr → Nat → Nat → Int → Mem → Prop) (K2 : Option Addr → Nat → Nat → Option Addr → Nat → Nat → Int → Int → Mem → Prop) (R : Ending → Mem → Prop) : ACode := (.code (lP (bB (sL (sR (bB (sL (sR (lP (bB (sR (sL (sR (sR (body)))))))))))))))
def l1E (K : Option Addr → Nat → Nat → Option Addr → Nat → Nat → Int → Mem → Prop) : Env → Mem → Prop := fun ρ m => UnS (ρ 0) fun l_0a l_0l l_0c => UnS (ρ 3) fun out_3a out_3l out_3c => UnI (ρ 4) .i64 fun i_4 => K l_0a l_0l l_0c out_3a out_3l out_3c i_4 m
def l1B  (K1 : Option Addr → Nat → Nat → Option Addr → Nat → Nat → Int → Mem → Prop) (l_0a : Option Addr) (l_0l : Nat) (l_0c : Nat) (out_3a : Option Addr) (out_3l : Nat) (out_3c : Nat) (i_4 : Int) (R : Ending → Mem → Prop) (m : Mem) : Prop :=
 Br (decide (i_4 < ((l_0l : Nat) : Int))) (
  l2 K1 l_0a l_0l l_0c out_3a out_3l out_3c i_4 0 R m) (
  R (.returned (.slice out_3a out_3l out_3c)) m)
def l1  (l_0a : Option Addr) (l_0l : Nat) (l_0c : Nat) (out_3a : Option Addr) (out_3l : Nat) (out_3c : Nat) (i_4 : Int) (R : Ending → Mem → Prop) (m : Mem) : Prop :=
  ∃ (I : Nat → Option Addr → Nat → Nat → Option Addr → Nat → Nat → Int → Mem → Prop) (N : Nat), I N l_0a l_0l l_0c out_3a out_3l out_3c i_4 m ∧ ∀ N l_0a l_0l l_0c out_3a out_3l out_3c i_4 m, I N l_0a l_0l l_0c out_3a out_3l out_3c i_4 m → l1B  (fun l_0a l_0l l_0c out_3a out_3l out_3c i_4 m => ∃ N1, N1 < N ∧ I N1 l_0a l_0l l_0c out_3a out_3l out_3c i_4 m) l_0a l_0l l_0c out_3a out_3l out_3c i_4 R m
noncomputable def l1A  (K1 : Option Addr → Nat → Nat → Option Addr → Nat → Nat → Int → Mem → Prop) (R : Ending → Mem → Prop) : ACode := (.seq (.code (sL (lP (bB (sR (sL (sR (sR (body))))))))) (.seq (.block 1 (.seq (.code (sL (bB (sL (sR (lP (bB (sR (sL (sR (sR (body)))))))))))) (.seq (.block 2 (.cut (l2E fun l_0a l_0l l_0c out_3a out_3l out_3c i_4 k_5 m => l2 K1 l_0a l_0l l_0c out_3a out_3l out_3c i_4 k_5 R m) (.loop (lP (bB (sL (sR (bB (sL (sR (lP (bB (sR (sL (sR (sR (body))))))))))))))))) (.cut (k3E fun l_0a l_0l l_0c out_3a out_3l out_3c i_4 k_5 m => k3 K1 l_0a l_0l l_0c out_3a out_3l out_3c i_4 k_5 R m) (sR (sR (bB (sL (sR (lP (bB (sR (sL (sR (sR (body)))))))))))))))) (.code (sR (sR (lP (bB (sR (sL (sR (sR (body))))))))))))
def e0 (l_0a : Option Addr) (l_0l : Nat) (l_0c : Nat) (R : Ending → Mem → Prop) (m : Mem) : Prop :=
 l1  l_0a l_0l l_0c none 0 0 0 R m
noncomputable def e0A (R : Ending → Mem → Prop) : ACode := (.seq (.code (sL (body))) (.seq (.code (sL (sR (body)))) (.seq (.seq (.code (sL (sL (sR (sR (body)))))) (.block 0 (.cut (l1E fun l_0a l_0l l_0c out_3a out_3l out_3c i_4 m => l1  l_0a l_0l l_0c out_3a out_3l out_3c i_4 R m) (.loop (lP (bB (sR (sL (sR (sR (body))))))))))) (.code (sR (sR (sR (body))))))))
abbrev l1Q  (R : Ending → Mem → Prop) : Exit → Env → Mem → Prop := (blockQ 0 (thenQ (acpt P od (panicR R) (.code (sR (sR (sR (body))))) (bodyQ P fn R)) (bodyQ P fn R)))
abbrev k3Q (K1 : Option Addr → Nat → Nat → Option Addr → Nat → Nat → Int → Mem → Prop) (R : Ending → Mem → Prop) : Exit → Env → Mem → Prop := (blockQ 1 (thenQ (acpt P od (panicR R) (.code (sR (sR (lP (bB (sR (sL (sR (sR (body)))))))))) (thenQ (l1E K1) (l1Q  R))) (thenQ (l1E K1) (l1Q  R))))
abbrev k4Q (K1 : Option Addr → Nat → Nat → Option Addr → Nat → Nat → Int → Mem → Prop) (R : Ending → Mem → Prop) : Exit → Env → Mem → Prop := (k3Q K1 R)
abbrev l2Q (K1 : Option Addr → Nat → Nat → Option Addr → Nat → Nat → Int → Mem → Prop) (R : Ending → Mem → Prop) : Exit → Env → Mem → Prop := (blockQ 2 (thenQ (acpt P od (panicR R) (.cut (k3E fun l_0a l_0l l_0c out_3a out_3l out_3c i_4 k_5 m => k3 K1 l_0a l_0l l_0c out_3a out_3l out_3c i_4 k_5 R m) (sR (sR (bB (sL (sR (lP (bB (sR (sL (sR (sR (body))))))))))))) (blockQ 1 (thenQ (acpt P od (panicR R) (.code (sR (sR (lP (bB (sR (sL (sR (sR (body)))))))))) (thenQ (l1E K1) (l1Q  R))) (thenQ (l1E K1) (l1Q  R))))) (blockQ 1 (thenQ (acpt P od (panicR R) (.code (sR (sR (lP (bB (sR (sL (sR (sR (body)))))))))) (thenQ (l1E K1) (l1Q  R))) (thenQ (l1E K1) (l1Q  R))))))
theorem k4_eq (K1 : Option Addr → Nat → Nat → Option Addr → Nat → Nat → Int → Mem → Prop) (R : Ending → Mem → Prop) (l_0a : Option Addr) (l_0l : Nat) (l_0c : Nat) (out_3a : Option Addr) (out_3l : Nat) (out_3c : Nat) (i_4 : Int) (k_5 : Int) (x43 : Bool) (ρ : Env) (m : Mem) : k4 K1 l_0a l_0l l_0c out_3a out_3l out_3c i_4 k_5 x43 R m = acpt P od (panicR R) (k4A K1 R) (k4Q K1 R) (upd (upd (upd (upd (upd ρ 43 (.bool x43)) 5 (.int .i64 k_5)) 4 (.int .i64 i_4)) 3 (.slice out_3a out_3l out_3c)) 0 (.slice l_0a l_0l l_0c)) m := by kernel_rfl
theorem k4_er (K1 : Option Addr → Nat → Nat → Option Addr → Nat → Nat → Int → Mem → Prop) (R : Ending → Mem → Prop) : (k4A K1 R).erase = sR (sR (sR (bB (sL (sR (lP (bB (sR (sL (sR (sR (body)))))))))))) := by kernel_rfl
theorem k4_ok (K1 : Option Addr → Nat → Nat → Option Addr → Nat → Nat → Int → Mem → Prop) (R : Ending → Mem → Prop) (ρ : Env) (m : Mem) (h : (k4E fun l_0a l_0l l_0c out_3a out_3l out_3c i_4 k_5 x43 m => k4 K1 l_0a l_0l l_0c out_3a out_3l out_3c i_4 k_5 x43 R m) ρ m) : cpt P od (panicR R) (sR (sR (sR (bB (sL (sR (lP (bB (sR (sL (sR (sR (body))))))))))))) (k4Q K1 R) ρ m := by
  unfold k4E at h
  obtain ⟨l_0a, l_0l, l_0c, e0, h⟩ := h.ex
  obtain ⟨out_3a, out_3l, out_3c, e3, h⟩ := h.ex
  obtain ⟨i_4, e4, h⟩ := h.ex
  obtain ⟨k_5, e5, h⟩ := h.ex
  obtain ⟨x43, e43, h⟩ := h.ex
  rw [← upd_self e0, ← upd_self e3, ← upd_self e4, ← upd_self e5, ← upd_self e43]
  rw [← k4_er K1 R]
  refine acpt_sound (P := P) (k4A K1 R) _ _ _ True.intro ?_
  exact Eq.mp (k4_eq K1 R l_0a l_0l l_0c out_3a out_3l out_3c i_4 k_5 x43 ρ m) h
theorem k3_eq (K1 : Option Addr → Nat → Nat → Option Addr → Nat → Nat → Int → Mem → Prop) (R : Ending → Mem → Prop) (l_0a : Option Addr) (l_0l : Nat) (l_0c : Nat) (out_3a : Option Addr) (out_3l : Nat) (out_3c : Nat) (i_4 : Int) (k_5 : Int) (ρ : Env) (m : Mem) : k3 K1 l_0a l_0l l_0c out_3a out_3l out_3c i_4 k_5 R m = acpt P od (panicR R) (k3A K1 R) (k3Q K1 R) (upd (upd (upd (upd ρ 5 (.int .i64 k_5)) 4 (.int .i64 i_4)) 3 (.slice out_3a out_3l out_3c)) 0 (.slice l_0a l_0l l_0c)) m := by kernel_rfl
theorem k3_er (K1 : Option Addr → Nat → Nat → Option Addr → Nat → Nat → Int → Mem → Prop) (R : Ending → Mem → Prop) : (k3A K1 R).erase = sR (sR (bB (sL (sR (lP (bB (sR (sL (sR (sR (body))))))))))) := by kernel_rfl
theorem k3_ok (K1 : Option Addr → Nat → Nat → Option Addr → Nat → Nat → Int → Mem → Prop) (R : Ending → Mem → Prop) (ρ : Env) (m : Mem) (h : (k3E fun l_0a l_0l l_0c out_3a out_3l out_3c i_4 k_5 m => k3 K1 l_0a l_0l l_0c out_3a out_3l out_3c i_4 k_5 R m) ρ m) : cpt P od (panicR R) (sR (sR (bB (sL (sR (lP (bB (sR (sL (sR (sR (body)))))))))))) (k3Q K1 R) ρ m := by
  unfold k3E at h
  obtain ⟨l_0a, l_0l, l_0c, e0, h⟩ := h.ex
  obtain ⟨out_3a, out_3l, out_3c, e3, h⟩ := h.ex
  obtain ⟨i_4, e4, h⟩ := h.ex
  obtain ⟨k_5, e5, h⟩ := h.ex
  rw [← upd_self e0, ← upd_self e3, ← upd_self e4, ← upd_self e5]
  rw [← k3_er K1 R]
  refine acpt_sound (P := P) (k3A K1 R) _ _ _ ⟨(fun ρ m h => k4_ok K1 R ρ m h), True.intro⟩ ?_
  exact Eq.mp (k3_eq K1 R l_0a l_0l l_0c out_3a out_3l out_3c i_4 k_5 ρ m) h
theorem l2_eq (K1 : Option Addr → Nat → Nat → Option Addr → Nat → Nat → Int → Mem → Prop) (K2 : Option Addr → Nat → Nat → Option Addr → Nat → Nat → Int → Int → Mem → Prop) (R : Ending → Mem → Prop) (l_0a : Option Addr) (l_0l : Nat) (l_0c : Nat) (out_3a : Option Addr) (out_3l : Nat) (out_3c : Nat) (i_4 : Int) (k_5 : Int) (ρ : Env) (m : Mem) : l2B K1 K2 l_0a l_0l l_0c out_3a out_3l out_3c i_4 k_5 R m = acpt P od (panicR R) (l2A K1 K2 R) (thenQ (l2E K2) (l2Q K1 R)) (upd (upd (upd (upd ρ 5 (.int .i64 k_5)) 4 (.int .i64 i_4)) 3 (.slice out_3a out_3l out_3c)) 0 (.slice l_0a l_0l l_0c)) m := by kernel_rfl
theorem l2_er (K1 : Option Addr → Nat → Nat → Option Addr → Nat → Nat → Int → Mem → Prop) (K2 : Option Addr → Nat → Nat → Option Addr → Nat → Nat → Int → Int → Mem → Prop) (R : Ending → Mem → Prop) : (l2A K1 K2 R).erase = lP (bB (sL (sR (bB (sL (sR (lP (bB (sR (sL (sR (sR (body))))))))))))) := by kernel_rfl
theorem l2_ok (K1 : Option Addr → Nat → Nat → Option Addr → Nat → Nat → Int → Mem → Prop) (R : Ending → Mem → Prop) (ρ : Env) (m : Mem) (h : (l2E fun l_0a l_0l l_0c out_3a out_3l out_3c i_4 k_5 m => l2 K1 l_0a l_0l l_0c out_3a out_3l out_3c i_4 k_5 R m) ρ m) : cpt P od (panicR R) (.loop (lP (bB (sL (sR (bB (sL (sR (lP (bB (sR (sL (sR (sR (body))))))))))))))) (l2Q K1 R) ρ m := by
  unfold l2E at h
  obtain ⟨l_0a, l_0l, l_0c, e0, h⟩ := h.ex
  obtain ⟨out_3a, out_3l, out_3c, e3, h⟩ := h.ex
  obtain ⟨i_4, e4, h⟩ := h.ex
  obtain ⟨k_5, e5, h⟩ := h.ex
  obtain ⟨I, N, h0, hs⟩ := h
  refine ⟨fun N => l2E (I N), N, (by show l2E (I N) ρ m; unfold l2E; rw [e0, e3, e4, e5]; exact h0), ?_⟩
  clear h0 e0 e3 e4 e5
  intro N ρ m h
  unfold l2E at h
  obtain ⟨l_0a, l_0l, l_0c, e0, h⟩ := h.ex
  obtain ⟨out_3a, out_3l, out_3c, e3, h⟩ := h.ex
  obtain ⟨i_4, e4, h⟩ := h.ex
  obtain ⟨k_5, e5, h⟩ := h.ex
  refine cpt_mono (P := P) (lP (bB (sL (sR (bB (sL (sR (lP (bB (sR (sL (sR (sR (body)))))))))))))) (Q := thenQ (l2E fun l_0a l_0l l_0c out_3a out_3l out_3c i_4 k_5 m => ∃ N1, N1 < N ∧ I N1 l_0a l_0l l_0c out_3a out_3l out_3c i_4 k_5 m) (l2Q K1 R)) (fun e ρ m h => ?_) ρ m ?_
  · cases e with
    | normal =>
      have h : l2E (fun l_0a l_0l l_0c out_3a out_3l out_3c i_4 k_5 m => ∃ N1, N1 < N ∧ I N1 l_0a l_0l l_0c out_3a out_3l out_3c i_4 k_5 m) ρ m := h
      unfold l2E at h
      obtain ⟨l_0a, l_0l, l_0c, e0, h⟩ := h.ex
      obtain ⟨out_3a, out_3l, out_3c, e3, h⟩ := h.ex
      obtain ⟨i_4, e4, h⟩ := h.ex
      obtain ⟨k_5, e5, h⟩ := h.ex
      obtain ⟨N1, hlt, h⟩ := h
      exact ⟨N1, hlt, (by show l2E (I N1) ρ m; unfold l2E; rw [e0, e3, e4, e5]; exact h)⟩
    | _ => exact h
  have hh := hs N l_0a l_0l l_0c out_3a out_3l out_3c i_4 k_5 m h
  generalize (fun l_0a l_0l l_0c out_3a out_3l out_3c i_4 k_5 m => ∃ N1, N1 < N ∧ I N1 l_0a l_0l l_0c out_3a out_3l out_3c i_4 k_5 m : Option Addr → Nat → Nat → Option Addr → Nat → Nat → Int → Int → Mem → Prop) = K2 at hh ⊢
  rw [← upd_self e0, ← upd_self e3, ← upd_self e4, ← upd_self e5]
  rw [← l2_er K1 K2 R]
  refine acpt_sound (P := P) (l2A K1 K2 R) _ _ _ True.intro ?_
  exact Eq.mp (l2_eq K1 K2 R l_0a l_0l l_0c out_3a out_3l out_3c i_4 k_5 ρ m) hh
theorem l1_eq  (K1 : Option Addr → Nat → Nat → Option Addr → Nat → Nat → Int → Mem → Prop) (R : Ending → Mem → Prop) (l_0a : Option Addr) (l_0l : Nat) (l_0c : Nat) (out_3a : Option Addr) (out_3l : Nat) (out_3c : Nat) (i_4 : Int) (ρ : Env) (m : Mem) : l1B  K1 l_0a l_0l l_0c out_3a out_3l out_3c i_4 R m = acpt P od (panicR R) (l1A  K1 R) (thenQ (l1E K1) (l1Q  R)) (upd (upd (upd ρ 4 (.int .i64 i_4)) 3 (.slice out_3a out_3l out_3c)) 0 (.slice l_0a l_0l l_0c)) m := by kernel_rfl
theorem l1_er  (K1 : Option Addr → Nat → Nat → Option Addr → Nat → Nat → Int → Mem → Prop) (R : Ending → Mem → Prop) : (l1A  K1 R).erase = lP (bB (sR (sL (sR (sR (body)))))) := by kernel_rfl
theorem l1_ok  (R : Ending → Mem → Prop) (ρ : Env) (m : Mem) (h : (l1E fun l_0a l_0l l_0c out_3a out_3l out_3c i_4 m => l1  l_0a l_0l l_0c out_3a out_3l out_3c i_4 R m) ρ m) : cpt P od (panicR R) (.loop (lP (bB (sR (sL (sR (sR (body)))))))) (l1Q  R) ρ m := by
  unfold l1E at h
  obtain ⟨l_0a, l_0l, l_0c, e0, h⟩ := h.ex
  obtain ⟨out_3a, out_3l, out_3c, e3, h⟩ := h.ex
  obtain ⟨i_4, e4, h⟩ := h.ex
  obtain ⟨I, N, h0, hs⟩ := h
  refine ⟨fun N => l1E (I N), N, (by show l1E (I N) ρ m; unfold l1E; rw [e0, e3, e4]; exact h0), ?_⟩
  clear h0 e0 e3 e4
  intro N ρ m h
  unfold l1E at h
  obtain ⟨l_0a, l_0l, l_0c, e0, h⟩ := h.ex
  obtain ⟨out_3a, out_3l, out_3c, e3, h⟩ := h.ex
  obtain ⟨i_4, e4, h⟩ := h.ex
  refine cpt_mono (P := P) (lP (bB (sR (sL (sR (sR (body))))))) (Q := thenQ (l1E fun l_0a l_0l l_0c out_3a out_3l out_3c i_4 m => ∃ N1, N1 < N ∧ I N1 l_0a l_0l l_0c out_3a out_3l out_3c i_4 m) (l1Q  R)) (fun e ρ m h => ?_) ρ m ?_
  · cases e with
    | normal =>
      have h : l1E (fun l_0a l_0l l_0c out_3a out_3l out_3c i_4 m => ∃ N1, N1 < N ∧ I N1 l_0a l_0l l_0c out_3a out_3l out_3c i_4 m) ρ m := h
      unfold l1E at h
      obtain ⟨l_0a, l_0l, l_0c, e0, h⟩ := h.ex
      obtain ⟨out_3a, out_3l, out_3c, e3, h⟩ := h.ex
      obtain ⟨i_4, e4, h⟩ := h.ex
      obtain ⟨N1, hlt, h⟩ := h
      exact ⟨N1, hlt, (by show l1E (I N1) ρ m; unfold l1E; rw [e0, e3, e4]; exact h)⟩
    | _ => exact h
  have hh := hs N l_0a l_0l l_0c out_3a out_3l out_3c i_4 m h
  generalize (fun l_0a l_0l l_0c out_3a out_3l out_3c i_4 m => ∃ N1, N1 < N ∧ I N1 l_0a l_0l l_0c out_3a out_3l out_3c i_4 m : Option Addr → Nat → Nat → Option Addr → Nat → Nat → Int → Mem → Prop) = K1 at hh ⊢
  rw [← upd_self e0, ← upd_self e3, ← upd_self e4]
  rw [← l1_er  K1 R]
  refine acpt_sound (P := P) (l1A  K1 R) _ _ _ ⟨⟨True.intro, ⟨⟨(fun ρ m h => k3_ok K1 R ρ m h), (fun ρ m h => l2_ok K1 R ρ m h)⟩, True.intro⟩⟩, True.intro⟩ ?_
  exact Eq.mp (l1_eq  K1 R l_0a l_0l l_0c out_3a out_3l out_3c i_4 ρ m) hh
theorem e0_eq (l_0a : Option Addr) (l_0l : Nat) (l_0c : Nat) (R : Ending → Mem → Prop) (m : Mem) : e0 l_0a l_0l l_0c R m = acpt P od (panicR R) (e0A R) (bodyQ P fn R) (argE (#[.slice l_0a l_0l l_0c] : Array Value).toList) m := by kernel_rfl
theorem ok (l_0a : Option Addr) (l_0l : Nat) (l_0c : Nat) (R : Ending → Mem → Prop) (m : Mem) (h : e0 l_0a l_0l l_0c R m) : HC P id #[.slice l_0a l_0l l_0c] m R := by
  refine HC_of (fn := fn) (c := body) (od := od) (tb := tb) Go.Proofs.Try.func25 (by kernel_rfl) (by kernel_rfl) follows (by kernel_rfl) (of_decide_eq_true (by kernel_rfl)) ?_
  have he : (e0A R).erase = body := by kernel_rfl
  rw [← he]
  refine acpt_sound (P := P) (e0A R) _ _ _ ⟨⟨⟨True.intro, ⟨(fun ρ m h => l1_ok  R ρ m h), True.intro⟩⟩, True.intro⟩, True.intro⟩ ?_
  exact Eq.mp (e0_eq l_0a l_0l l_0c R m) h
end eyotref8_rise
end
end Go.E
set_option linter.unusedVariables false
set_option maxRecDepth 100000
namespace Go.E
open Go.H
noncomputable section
/-! ### eyot/eyotref8.Of -/
namespace eyotref8_Of
noncomputable def fn : Func := Go.Proofs.Try.f27
noncomputable def body : Code := fn.body.getD .skip
def od : Nat → Ord := fun | 5 => ordL [(0, 3), (1, 3), (2, 3), (3, 1), (4, 3), (5, 3), (6, 1), (7, 3), (8, 3), (9, 3), (10, 0), (11, 3), (12, 3), (13, 3), (14, 3), (15, 2)] .done | _ => .done
def tb : Nat → Tab := fun | 5 => (32768, [0, 0, 3, 7, 15, 31, 63, 0, 0, 384, 896, 1920, 3968, 8191, 16383, 32767], [(0, 1, 12), (0, 16, 13), (3, 6144, 14), (4, 8192, 15), (8, 16384, 16), (16, 32776, 17), (32, 65536, 18), (0, 1, 19), (0, 16, 20), (384, 786432, 21), (512, 1048576, 22), (1024, 2097152, 23), (2048, 4194304, 24), (4160, 8519680, 25), (16383, 32776, 26), (32767, 50331648, 0)]) | _ => (0, [], [])
def l1E (K : Option Addr → Nat → Nat → Nat → Nat → Nat → Nat → Int → Mem → Prop) : Env → Mem → Prop := fun ρ m => UnS (ρ 0) fun l_0a l_0l l_0c => UnPA (ρ 2) fun x2b x2o => UnPA (ρ 3) fun s_3b s_3o => UnI (ρ 4) .i64 fun i_4 => K l_0a l_0l l_0c x2b x2o s_3b s_3o i_4 m
def l1B  (K1 : Option Addr → Nat → Nat → Nat → Nat → Nat → Nat → Int → Mem → Prop) (l_0a : Option Addr) (l_0l : Nat) (l_0c : Nat) (x2b : Nat) (x2o : Nat) (s_3b : Nat) (s_3o : Nat) (i_4 : Int) (R : Ending → Mem → Prop) (m : Mem) : Prop :=
 Br (decide (i_4 < ((l_0l : Nat) : Int))) (
  Sub m fun r1 =>
  IxS l_0a l_0l i_4 1 fun x13b x13o =>
  LdV r1 x13b x13o fun v =>
  UnI v .u8 fun x14 =>
  0 ≤ (IntKind.u8.wrap (Int.tdiv x14 64) : Int) ∧ (IntKind.u8.wrap (Int.tdiv x14 64) : Int) < (4 : Nat) ∧ (
   LdV r1 s_3b (s_3o + (IntKind.u8.wrap (Int.tdiv x14 64) : Int).toNat * 1) fun v =>
   UnI v .u64 fun x17 =>
   IxS l_0a l_0l i_4 1 fun x20b x20o =>
   LdV m x20b x20o fun v =>
   UnI v .u8 fun x21 =>
   NnI (Int.tmod x21 64) (
    0 ≤ (IntKind.u8.wrap (Int.tdiv x14 64) : Int) ∧ (IntKind.u8.wrap (Int.tdiv x14 64) : Int) < (4 : Nat) ∧ (
     St1 m s_3b (s_3o + (IntKind.u8.wrap (Int.tdiv x14 64) : Int).toNat * 1) (.int .u64 (bitsV .or .u64 x17 (shlV .u64 1 (Int.tmod x21 64)))) fun m2 =>
     K1 l_0a l_0l l_0c x2b x2o s_3b s_3o (IntKind.i64.wrap (i_4 + 1)) m2)))) (
  LdV m s_3b s_3o fun v =>
  UnI v .u64 fun x26_0 =>
  LdV m s_3b (s_3o + 1) fun v =>
  UnI v .u64 fun x26_1 =>
  LdV m s_3b (s_3o + 2) fun v =>
  UnI v .u64 fun x26_2 =>
  LdV m s_3b (s_3o + 3) fun v =>
  UnI v .u64 fun x26_3 =>
  St1 m x2b x2o (.int .u64 x26_0) fun m1 =>
  St1 m1 x2b (x2o + 1) (.int .u64 x26_1) fun m2 =>
  St1 m2 x2b (x2o + 2) (.int .u64 x26_2) fun m3 =>
  St1 m3 x2b (x2o + 3) (.int .u64 x26_3) fun m4 =>
  LdV m4 x2b x2o fun v =>
  UnI v .u64 fun res0_0 =>
  LdV m4 x2b (x2o + 1) fun v =>
  UnI v .u64 fun res0_1 =>
  LdV m4 x2b (x2o + 2) fun v =>
  UnI v .u64 fun res0_2 =>
  LdV m4 x2b (x2o + 3) fun v =>
  UnI v .u64 fun res0_3 =>
  R (.returned (.agg #[.int .u64 res0_0, .int .u64 res0_1, .int .u64 res0_2, .int .u64 res0_3])) m4)
def l1  (l_0a : Option Addr) (l_0l : Nat) (l_0c : Nat) (x2b : Nat) (x2o : Nat) (s_3b : Nat) (s_3o : Nat) (i_4 : Int) (R : Ending → Mem → Prop) (m : Mem) : Prop :=
  ∃ (I : Nat → Option Addr → Nat → Nat → Nat → Nat → Nat → Nat → Int → Mem → Prop) (N : Nat), I N l_0a l_0l l_0c x2b x2o s_3b s_3o i_4 m ∧ ∀ N l_0a l_0l l_0c x2b x2o s_3b s_3o i_4 m, I N l_0a l_0l l_0c x2b x2o s_3b s_3o i_4 m → l1B  (fun l_0a l_0l l_0c x2b x2o s_3b s_3o i_4 m => ∃ N1, N1 < N ∧ I N1 l_0a l_0l l_0c x2b x2o s_3b s_3o i_4 m) l_0a l_0l l_0c x2b x2o s_3b s_3o i_4 R m
noncomputable def l1A  (K1 : Option Addr → Nat → Nat → Nat → Nat → Nat → Nat → Int → Mem → Prop) (R : Ending → Mem → Prop) : ACode := (.code (lP (bB (sR (sL (sR (sR (body))))))))
def e0 (l_0a : Option Addr) (l_0l : Nat) (l_0c : Nat) (R : Ending → Mem → Prop) (m : Mem) : Prop :=
 NewC m #[.int .u64 0, .int .u64 0, .int .u64 0, .int .u64 0] T_api_Set fun b2 m1 =>
 NewC m1 #[.int .u64 0, .int .u64 0, .int .u64 0, .int .u64 0] T_api_Set fun b_s_3 m2 =>
 l1  l_0a l_0l l_0c b2 0 b_s_3 0 0 R m2
noncomputable def e0A (R : Ending → Mem → Prop) : ACode := (.seq (.code (sL (body))) (.seq (.code (sL (sR (body)))) (.seq (.seq (.code (sL (sL (sR (sR (body)))))) (.block 0 (.cut (l1E fun l_0a l_0l l_0c x2b x2o s_3b s_3o i_4 m => l1  l_0a l_0l l_0c x2b x2o s_3b s_3o i_4 R m) (.loop (lP (bB (sR (sL (sR (sR (body))))))))))) (.code (sR (sR (sR (body))))))))
abbrev l1Q  (R : Ending → Mem → Prop) : Exit → Env → Mem → Prop := (blockQ 0 (thenQ (acpt P od (panicR R) (.code (sR (sR (sR (body))))) (bodyQ P fn R)) (bodyQ P fn R)))
theorem l1_eq  (K1 : Option Addr → Nat → Nat → Nat → Nat → Nat → Nat → Int → Mem → Prop) (R : Ending → Mem → Prop) (l_0a : Option Addr) (l_0l : Nat) (l_0c : Nat) (x2b : Nat) (x2o : Nat) (s_3b : Nat) (s_3o : Nat) (i_4 : Int) (ρ : Env) (m : Mem) : l1B  K1 l_0a l_0l l_0c x2b x2o s_3b s_3o i_4 R m = acpt P od (panicR R) (l1A  K1 R) (thenQ (l1E K1) (l1Q  R)) (upd (upd (upd (upd ρ 4 (.int .i64 i_4)) 3 (.pointer (some ⟨s_3b, s_3o, none⟩))) 2 (.pointer (some ⟨x2b, x2o, none⟩))) 0 (.slice l_0a l_0l l_0c)) m := by kernel_rfl
theorem l1_er  (K1 : Option Addr → Nat → Nat → Nat → Nat → Nat → Nat → Int → Mem → Prop) (R : Ending → Mem → Prop) : (l1A  K1 R).erase = lP (bB (sR (sL (sR (sR (body)))))) := by kernel_rfl
theorem l1_ok  (R : Ending → Mem → Prop) (ρ : Env) (m : Mem) (h : (l1E fun l_0a l_0l l_0c x2b x2o s_3b s_3o i_4 m => l1  l_0a l_0l l_0c x2b x2o s_3b s_3o i_4 R m) ρ m) : cpt P od (panicR R) (.loop (lP (bB (sR (sL (sR (sR (body)))))))) (l1Q  R) ρ m := by
  unfold l1E at h
  obtain ⟨l_0a, l_0l, l_0c, e0, h⟩ := h.ex
  obtain ⟨x2b, x2o, e2, h⟩ := h.ex
  obtain ⟨s_3b, s_3o, e3, h⟩ := h.ex
  obtain ⟨i_4, e4, h⟩ := h.ex
  obtain ⟨I, N, h0, hs⟩ := h
  refine ⟨fun N => l1E (I N), N, (by show l1E (I N) ρ m; unfold l1E; rw [e0, e2, e3, e4]; exact h0), ?_⟩
  clear h0 e0 e2 e3 e4
  intro N ρ m h
  unfold l1E at h
  obtain ⟨l_0a, l_0l, l_0c, e0, h⟩ := h.ex
  obtain ⟨x2b, x2o, e2, h⟩ := h.ex
  obtain ⟨s_3b, s_3o, e3, h⟩ := h.ex
  obtain ⟨i_4, e4, h⟩ := h.ex
  refine cpt_mono (P := P) (lP (bB (sR (sL (sR (sR (body))))))) (Q := thenQ (l1E fun l_0a l_0l l_0c x2b x2o s_3b s_3o i_4 m => ∃ N1, N1 < N ∧ I N1 l_0a l_0l l_0c x2b x2o s_3b s_3o i_4 m) (l1Q  R)) (fun e ρ m h => ?_) ρ m ?_
  · cases e with
    | normal =>
      have h : l1E (fun l_0a l_0l l_0c x2b x2o s_3b s_3o i_4 m => ∃ N1, N1 < N ∧ I N1 l_0a l_0l l_0c x2b x2o s_3b s_3o i_4 m) ρ m := h
      unfold l1E at h
      obtain ⟨l_0a, l_0l, l_0c, e0, h⟩ := h.ex
      obtain ⟨x2b, x2o, e2, h⟩ := h.ex
      obtain ⟨s_3b, s_3o, e3, h⟩ := h.ex
      obtain ⟨i_4, e4, h⟩ := h.ex
      obtain ⟨N1, hlt, h⟩ := h
      exact ⟨N1, hlt, (by show l1E (I N1) ρ m; unfold l1E; rw [e0, e2, e3, e4]; exact h)⟩
    | _ => exact h
  have hh := hs N l_0a l_0l l_0c x2b x2o s_3b s_3o i_4 m h
  generalize (fun l_0a l_0l l_0c x2b x2o s_3b s_3o i_4 m => ∃ N1, N1 < N ∧ I N1 l_0a l_0l l_0c x2b x2o s_3b s_3o i_4 m : Option Addr → Nat → Nat → Nat → Nat → Nat → Nat → Int → Mem → Prop) = K1 at hh ⊢
  rw [← upd_self e0, ← upd_self e2, ← upd_self e3, ← upd_self e4]
  rw [← l1_er  K1 R]
  refine acpt_sound (P := P) (l1A  K1 R) _ _ _ True.intro ?_
  exact Eq.mp (l1_eq  K1 R l_0a l_0l l_0c x2b x2o s_3b s_3o i_4 ρ m) hh
theorem e0_eq (l_0a : Option Addr) (l_0l : Nat) (l_0c : Nat) (R : Ending → Mem → Prop) (m : Mem) : e0 l_0a l_0l l_0c R m = acpt P od (panicR R) (e0A R) (bodyQ P fn R) (argE (#[.slice l_0a l_0l l_0c] : Array Value).toList) m := by kernel_rfl
theorem ok (l_0a : Option Addr) (l_0l : Nat) (l_0c : Nat) (R : Ending → Mem → Prop) (m : Mem) (h : e0 l_0a l_0l l_0c R m) : HC P id #[.slice l_0a l_0l l_0c] m R := by
  refine HC_of (fn := fn) (c := body) (od := od) (tb := tb) Go.Proofs.Try.func27 (by kernel_rfl) (by kernel_rfl) follows (by kernel_rfl) (of_decide_eq_true (by kernel_rfl)) ?_
  have he : (e0A R).erase = body := by kernel_rfl
  rw [← he]
  refine acpt_sound (P := P) (e0A R) _ _ _ ⟨⟨⟨True.intro, ⟨(fun ρ m h => l1_ok  R ρ m h), True.intro⟩⟩, True.intro⟩, True.intro⟩ ?_
  exact Eq.mp (e0_eq l_0a l_0l l_0c R m) h
end eyotref8_Of
/-! ### eyot/eyotref8.Not -/
namespace eyotref8_Not
noncomputable def fn : Func := Go.Proofs.Try.f28
noncomputable def body : Code := fn.body.getD .skip
def od : Nat → Ord := fun _ => .done
def tb : Nat → Tab := fun _ => (0, [], [])
def l1E (K : Nat → Nat → Nat → Nat → Option Addr → Nat → Nat → Int → Mem → Prop) : Env → Mem → Prop := fun ρ m => UnPA (ρ 1) fun a_1b a_1o => UnPA (ρ 2) fun x2b x2o => UnS (ρ 3) fun l_3a l_3l l_3c => UnI (ρ 4) .i64 fun i_4 => K a_1b a_1o x2b x2o l_3a l_3l l_3c i_4 m
def l1B  (K1 : Nat → Nat → Nat → Nat → Option Addr → Nat → Nat → Int → Mem → Prop) (a_1b : Nat) (a_1o : Nat) (x2b : Nat) (x2o : Nat) (l_3a : Option Addr) (l_3l : Nat) (l_3c : Nat) (i_4 : Int) (R : Ending → Mem → Prop) (m : Mem) : Prop :=
 Br (decide (i_4 < 256)) (
  LdV m a_1b a_1o fun v =>
  UnI v .u64 fun x9_0 =>
  LdV m a_1b (a_1o + 1) fun v =>
  UnI v .u64 fun x9_1 =>
  LdV m a_1b (a_1o + 2) fun v =>
  UnI v .u64 fun x9_2 =>
  LdV m a_1b (a_1o + 3) fun v =>
  UnI v .u64 fun x9_3 =>
  HC P eyotref8_Has.id #[.agg #[.int .u64 x9_0, .int .u64 x9_1, .int .u64 x9_2, .int .u64 x9_3], .int .u8 (IntKind.u8.wrap i_4)] m (Cont (fun v m1 =>
    UnB v fun x12 =>
    Br (!x12) (
     NewC m1 #[.int .u8 (IntKind.u8.wrap i_4)] T_uint8 fun b17 m2 =>
     BiN P .append #[T_sl_uint8, T_sl_uint8] T_sl_uint8 #[false, false] #[.slice l_3a l_3l l_3c, .slice (some ⟨b17, 0, none⟩) 1 1] m2 (fun w m3 =>
      UnS w fun x18a x18l x18c =>
      K1 a_1b a_1o x2b x2o x18a x18l x18c (IntKind.i64.wrap (i_4 + 1)) m3) (panicR R)) (
     K1 a_1b a_1o x2b x2o l_3a l_3l l_3c (IntKind.i64.wrap (i_4 + 1)) m1)) (panicR R))) (
  HC P eyotref8_Of.id #[.slice l_3a l_3l l_3c] m (Cont (fun v m1 =>
    UnAgg v fun l =>
    UnCons l fun v l =>
    UnI v .u64 fun x20_0 =>
    UnCons l fun v l =>
    UnI v .u64 fun x20_1 =>
    UnCons l fun v l =>
    UnI v .u64 fun x20_2 =>
    UnCons l fun v l =>
    UnI v .u64 fun x20_3 =>
    UnNil l (
     St1 m1 x2b x2o (.int .u64 x20_0) fun m2 =>
     St1 m2 x2b (x2o + 1) (.int .u64 x20_1) fun m3 =>
     St1 m3 x2b (x2o + 2) (.int .u64 x20_2) fun m4 =>
     St1 m4 x2b (x2o + 3) (.int .u64 x20_3) fun m5 =>
     LdV m5 x2b x2o fun v =>
     UnI v .u64 fun res0_0 =>
     LdV m5 x2b (x2o + 1) fun v =>
     UnI v .u64 fun res0_1 =>
     LdV m5 x2b (x2o + 2) fun v =>
     UnI v .u64 fun res0_2 =>
     LdV m5 x2b (x2o + 3) fun v =>
     UnI v .u64 fun res0_3 =>
     R (.returned (.agg #[.int .u64 res0_0, .int .u64 res0_1, .int .u64 res0_2, .int .u64 res0_3])) m5)) (panicR R)))
def l1  (a_1b : Nat) (a_1o : Nat) (x2b : Nat) (x2o : Nat) (l_3a : Option Addr) (l_3l : Nat) (l_3c : Nat) (i_4 : Int) (R : Ending → Mem → Prop) (m : Mem) : Prop :=
  ∃ (I : Nat → Nat → Nat → Nat → Nat → Option Addr → Nat → Nat → Int → Mem → Prop) (N : Nat), I N a_1b a_1o x2b x2o l_3a l_3l l_3c i_4 m ∧ ∀ N a_1b a_1o x2b x2o l_3a l_3l l_3c i_4 m, I N a_1b a_1o x2b x2o l_3a l_3l l_3c i_4 m → l1B  (fun a_1b a_1o x2b x2o l_3a l_3l l_3c i_4 m => ∃ N1, N1 < N ∧ I N1 a_1b a_1o x2b x2o l_3a l_3l l_3c i_4 m) a_1b a_1o x2b x2o l_3a l_3l l_3c i_4 R m
noncomputable def l1A  (K1 : Nat → Nat → Nat → Nat → Option Addr → Nat → Nat → Int → Mem → Prop) (R : Ending → Mem → Prop) : ACode := (.code (lP (bB (sR (sL (sR (sR (body))))))))
def e0 (a_0_0 : Int) (a_0_1 : Int) (a_0_2 : Int) (a_0_3 : Int) (R : Ending → Mem → Prop) (m : Mem) : Prop :=
 NewC m #[.int .u64 a_0_0, .int .u64 a_0_1, .int .u64 a_0_2, .int .u64 a_0_3] T_api_Set fun b_a_1 m1 =>
 NewC m1 #[.int .u64 0, .int .u64 0, .int .u64 0, .int .u64 0] T_api_Set fun b2 m2 =>
 l1  b_a_1 0 b2 0 none 0 0 0 R m2
noncomputable def e0A (R : Ending → Mem → Prop) : ACode := (.seq (.code (sL (body))) (.seq (.code (sL (sR (body)))) (.seq (.seq (.code (sL (sL (sR (sR (body)))))) (.block 0 (.cut (l1E fun a_1b a_1o x2b x2o l_3a l_3l l_3c i_4 m => l1  a_1b a_1o x2b x2o l_3a l_3l l_3c i_4 R m) (.loop (lP (bB (sR (sL (sR (sR (body))))))))))) (.code (sR (sR (sR (body))))))))
abbrev l1Q  (R : Ending → Mem → Prop) : Exit → Env → Mem → Prop := (blockQ 0 (thenQ (acpt P od (panicR R) (.code (sR (sR (sR (body))))) (bodyQ P fn R)) (bodyQ P fn R)))
theorem l1_eq  (K1 : Nat → Nat → Nat → Nat → Option Addr → Nat → Nat → Int → Mem → Prop) (R : Ending → Mem → Prop) (a_1b : Nat) (a_1o : Nat) (x2b : Nat) (x2o : Nat) (l_3a : Option Addr) (l_3l : Nat) (l_3c : Nat) (i_4 : Int) (ρ : Env) (m : Mem) : l1B  K1 a_1b a_1o x2b x2o l_3a l_3l l_3c i_4 R m = acpt P od (panicR R) (l1A  K1 R) (thenQ (l1E K1) (l1Q  R)) (upd (upd (upd (upd ρ 4 (.int .i64 i_4)) 3 (.slice l_3a l_3l l_3c)) 2 (.pointer (some ⟨x2b, x2o, none⟩))) 1 (.pointer (some ⟨a_1b, a_1o, none⟩))) m := by kernel_rfl
theorem l1_er  (K1 : Nat → Nat → Nat → Nat → Option Addr → Nat → Nat → Int → Mem → Prop) (R : Ending → Mem → Prop) : (l1A  K1 R).erase = lP (bB (sR (sL (sR (sR (body)))))) := by kernel_rfl
theorem l1_ok  (R : Ending → Mem → Prop) (ρ : Env) (m : Mem) (h : (l1E fun a_1b a_1o x2b x2o l_3a l_3l l_3c i_4 m => l1  a_1b a_1o x2b x2o l_3a l_3l l_3c i_4 R m) ρ m) : cpt P od (panicR R) (.loop (lP (bB (sR (sL (sR (sR (body)))))))) (l1Q  R) ρ m := by
  unfold l1E at h
  obtain ⟨a_1b, a_1o, e1, h⟩ := h.ex
  obtain ⟨x2b, x2o, e2, h⟩ := h.ex
  obtain ⟨l_3a, l_3l, l_3c, e3, h⟩ := h.ex
  obtain ⟨i_4, e4, h⟩ := h.ex
  obtain ⟨I, N, h0, hs⟩ := h
  refine ⟨fun N => l1E (I N), N, (by show l1E (I N) ρ m; unfold l1E; rw [e1, e2, e3, e4]; exact h0), ?_⟩
  clear h0 e1 e2 e3 e4
  intro N ρ m h
  unfold l1E at h
  obtain ⟨a_1b, a_1o, e1, h⟩ := h.ex
  obtain ⟨x2b, x2o, e2, h⟩ := h.ex
  obtain ⟨l_3a, l_3l, l_3c, e3, h⟩ := h.ex
  obtain ⟨i_4, e4, h⟩ := h.ex
  refine cpt_mono (P := P) (lP (bB (sR (sL (sR (sR (body))))))) (Q := thenQ (l1E fun a_1b a_1o x2b x2o l_3a l_3l l_3c i_4 m => ∃ N1, N1 < N ∧ I N1 a_1b a_1o x2b x2o l_3a l_3l l_3c i_4 m) (l1Q  R)) (fun e ρ m h => ?_) ρ m ?_
  · cases e with
    | normal =>
      have h : l1E (fun a_1b a_1o x2b x2o l_3a l_3l l_3c i_4 m => ∃ N1, N1 < N ∧ I N1 a_1b a_1o x2b x2o l_3a l_3l l_3c i_4 m) ρ m := h
      unfold l1E at h
      obtain ⟨a_1b, a_1o, e1, h⟩ := h.ex
      obtain ⟨x2b, x2o, e2, h⟩ := h.ex
      obtain ⟨l_3a, l_3l, l_3c, e3, h⟩ := h.ex
      obtain ⟨i_4, e4, h⟩ := h.ex
      obtain ⟨N1, hlt, h⟩ := h
      exact ⟨N1, hlt, (by show l1E (I N1) ρ m; unfold l1E; rw [e1, e2, e3, e4]; exact h)⟩
    | _ => exact h
  have hh := hs N a_1b a_1o x2b x2o l_3a l_3l l_3c i_4 m h
  generalize (fun a_1b a_1o x2b x2o l_3a l_3l l_3c i_4 m => ∃ N1, N1 < N ∧ I N1 a_1b a_1o x2b x2o l_3a l_3l l_3c i_4 m : Nat → Nat → Nat → Nat → Option Addr → Nat → Nat → Int → Mem → Prop) = K1 at hh ⊢
  rw [← upd_self e1, ← upd_self e2, ← upd_self e3, ← upd_self e4]
  rw [← l1_er  K1 R]
  refine acpt_sound (P := P) (l1A  K1 R) _ _ _ True.intro ?_
  exact Eq.mp (l1_eq  K1 R a_1b a_1o x2b x2o l_3a l_3l l_3c i_4 ρ m) hh
theorem e0_eq (a_0_0 : Int) (a_0_1 : Int) (a_0_2 : Int) (a_0_3 : Int) (R : Ending → Mem → Prop) (m : Mem) : e0 a_0_0 a_0_1 a_0_2 a_0_3 R m = acpt P od (panicR R) (e0A R) (bodyQ P fn R) (argE (#[.agg #[.int .u64 a_0_0, .int .u64 a_0_1, .int .u64 a_0_2, .int .u64 a_0_3]] : Array Value).toList) m := by kernel_rfl
theorem ok (a_0_0 : Int) (a_0_1 : Int) (a_0_2 : Int) (a_0_3 : Int) (R : Ending → Mem → Prop) (m : Mem) (h : e0 a_0_0 a_0_1 a_0_2 a_0_3 R m) : HC P id #[.agg #[.int .u64 a_0_0, .int .u64 a_0_1, .int .u64 a_0_2, .int .u64 a_0_3]] m R := by
  refine HC_of (fn := fn) (c := body) (od := od) (tb := tb) Go.Proofs.Try.func28 (by kernel_rfl) (by kernel_rfl) follows (by kernel_rfl) (of_decide_eq_true (by kernel_rfl)) ?_
  have he : (e0A R).erase = body := by kernel_rfl
  rw [← he]
  refine acpt_sound (P := P) (e0A R) _ _ _ ⟨⟨⟨True.intro, ⟨(fun ρ m h => l1_ok  R ρ m h), True.intro⟩⟩, True.intro⟩, True.intro⟩ ?_
  exact Eq.mp (e0_eq a_0_0 a_0_1 a_0_2 a_0_3 R m) h
end eyotref8_Not
/-! ### eyot/regex.formed -/
namespace regex_formed
noncomputable def fn : Func := Go.Proofs.Try.f29
noncomputable def body : Code := fn.body.getD .skip
def od : Nat → Ord := fun _ => .done
def tb : Nat → Tab := fun _ => (0, [], [])
def l3E (K : Nat → Nat → Option Addr → Nat → Nat → Int → Int → Mem → Prop) : Env → Mem → Prop := fun ρ m => UnPA (ρ 1) fun r_1b r_1o => UnS (ρ 52) fun x52a x52l x52c => UnI (ρ 53) .i64 fun x53 => UnI (ρ 54) .i64 fun x54 => K r_1b r_1o x52a x52l x52c x53 x54 m
def l3B  (K3 : Nat → Nat → Option Addr → Nat → Nat → Int → Int → Mem → Prop) (r_1b : Nat) (r_1o : Nat) (x52a : Option Addr) (x52l : Nat) (x52c : Nat) (x53 : Int) (x54 : Int) (R : Ending → Mem → Prop) (m : Mem) : Prop :=
 Br (decide (x54 < x53)) (
  IxS x52a x52l x54 6 fun x56b x56o =>
  LdV m x56b x56o fun v =>
  UnI v .i64 fun x57_0 =>
  LdV m x56b (x56o + 1) fun v =>
  UnI v .u64 fun x57_1 =>
  LdV m x56b (x56o + 2) fun v =>
  UnI v .u64 fun x57_2 =>
  LdV m x56b (x56o + 3) fun v =>
  UnI v .u64 fun x57_3 =>
  LdV m x56b (x56o + 4) fun v =>
  UnI v .u64 fun x57_4 =>
  LdV m x56b (x56o + 5) fun v =>
  UnS v fun x57_5a x57_5l x57_5c =>
  NewC m #[.int .i64 0, .int .u64 0, .int .u64 0, .int .u64 0, .int .u64 0, .slice none 0 0] T_api_Rx fun b_x_4 m1 =>
  St1 m1 b_x_4 0 (.int .i64 x57_0) fun m2 =>
  St1 m2 b_x_4 1 (.int .u64 x57_1) fun m3 =>
  St1 m3 b_x_4 2 (.int .u64 x57_2) fun m4 =>
  St1 m4 b_x_4 3 (.int .u64 x57_3) fun m5 =>
  St1 m5 b_x_4 4 (.int .u64 x57_4) fun m6 =>
  St1 m6 b_x_4 5 (.slice x57_5a x57_5l x57_5c) fun m7 =>
  LdV m7 b_x_4 0 fun v =>
  UnI v .i64 fun x59 =>
  LdV m7 r_1b r_1o fun v =>
  UnI v .i64 fun x61 =>
  Br (x59 == x61) (
   R (.returned (.bool false)) m7) (
   LdV m7 b_x_4 0 fun v =>
   UnI v .i64 fun x64_0 =>
   LdV m7 b_x_4 1 fun v =>
   UnI v .u64 fun x64_1 =>
   LdV m7 b_x_4 2 fun v =>
   UnI v .u64 fun x64_2 =>
   LdV m7 b_x_4 3 fun v =>
   UnI v .u64 fun x64_3 =>
   LdV m7 b_x_4 4 fun v =>
   UnI v .u64 fun x64_4 =>
   LdV m7 b_x_4 5 fun v =>
   UnS v fun x64_5a x64_5l x64_5c =>
   HC P regex_formed.id #[.agg #[.int .i64 x64_0, .int .u64 x64_1, .int .u64 x64_2, .int .u64 x64_3, .int .u64 x64_4, .slice x64_5a x64_5l x64_5c]] m7 (Cont (fun v m8 =>
     UnB v fun x65 =>
     Br (!x65) (
      R (.returned (.bool false)) m8) (
      K3 r_1b r_1o x52a x52l x52c x53 (IntKind.i64.wrap (x54 + 1)) m8)) (panicR R)))) (
  R (.returned (.bool true)) m)
def l3  (r_1b : Nat) (r_1o : Nat) (x52a : Option Addr) (x52l : Nat) (x52c : Nat) (x53 : Int) (x54 : Int) (R : Ending → Mem → Prop) (m : Mem) : Prop :=
  ∃ (I : Nat → Nat → Nat → Option Addr → Nat → Nat → Int → Int → Mem → Prop) (N : Nat), I N r_1b r_1o x52a x52l x52c x53 x54 m ∧ ∀ N r_1b r_1o x52a x52l x52c x53 x54 m, I N r_1b r_1o x52a x52l x52c x53 x54 m → l3B  (fun r_1b r_1o x52a x52l x52c x53 x54 m => ∃ N1, N1 < N ∧ I N1 r_1b r_1o x52a x52l x52c x53 x54 m) r_1b r_1o x52a x52l x52c x53 x54 R m
noncomputable def l3A  (K3 : Nat → Nat → Option Addr → Nat → Nat → Int → Int → Mem → Prop) (R : Ending → Mem → Prop) : ACode := (.code (lP (bB (sR (sL (sR (sR (body))))))))
def k2E (K : Nat → Nat → Mem → Prop) : Env → Mem → Prop := fun ρ m => UnPA (ρ 1) fun r_1b r_1o => K r_1b r_1o m
def k2  (r_1b : Nat) (r_1o : Nat) (R : Ending → Mem → Prop) (m : Mem) : Prop :=
 LdV m r_1b (r_1o + 5) fun v =>
 UnS v fun x52a x52l x52c =>
 l3  r_1b r_1o x52a x52l x52c ((x52l : Nat) : Int) 0 R m
noncomputable def k2A  (R : Ending → Mem → Prop) : ACode := (.seq (.seq (.code (sL (sL (sR (sR (body)))))) (.block 1 (.cut (l3E fun r_1b r_1o x52a x52l x52c x53 x54 m => l3  r_1b r_1o x52a x52l x52c x53 x54 R m) (.loop (lP (bB (sR (sL (sR (sR (body))))))))))) (.code (sR (sR (sR (body))))))
def k1E (K : Nat → Nat → Bool → Mem → Prop) : Env → Mem → Prop := fun ρ m => UnPA (ρ 1) fun r_1b r_1o => UnB (ρ 24) fun x24 => K r_1b r_1o x24 m
def k1  (r_1b : Nat) (r_1o : Nat) (x24 : Bool) (R : Ending → Mem → Prop) (m : Mem) : Prop :=
 Br x24 (
  LdV m r_1b (r_1o + 5) fun v =>
  UnS v fun x32a x32l x32c =>
  Br (decide (((x32l : Nat) : Int) < 2)) (
   R (.returned (.bool false)) m) (
   k2  r_1b r_1o R m)) (
  LdV m r_1b r_1o fun v =>
  UnI v .i64 fun x37 =>
  HC P regex_sign.id #[.int .i64 x37] m (Cont (fun v m1 =>
    UnB v fun x38 =>
    Br x38 (
     LdV m1 r_1b (r_1o + 5) fun v =>
     UnS v fun x40a x40l x40c =>
     Br (((x40l : Nat) : Int) != 1) (
      R (.returned (.bool false)) m1) (
      LdV m1 r_1b (r_1o + 5) fun v =>
      UnS v fun x45a x45l x45c =>
      IxS x45a x45l 0 6 fun x46b x46o =>
      LdV m1 x46b x46o fun v =>
      UnI v .i64 fun x48 =>
      HC P regex_sign.id #[.int .i64 x48] m1 (Cont (fun v m2 =>
        UnB v fun x49 =>
        Br x49 (
        R (.returned (.bool false)) m2) (
        k2  r_1b r_1o R m2)) (panicR R)))) (
     R (.returned (.bool false)) m1)) (panicR R)))
noncomputable def k1A  (R : Ending → Mem → Prop) : ACode := (.code (sR (cE (sR (cE (sR (bB (sL (sR (body))))))))))
def e0 (r_0_0 : Int) (r_0_1 : Int) (r_0_2 : Int) (r_0_3 : Int) (r_0_4 : Int) (r_0_5a : Option Addr) (r_0_5l : Nat) (r_0_5c : Nat) (R : Ending → Mem → Prop) (m : Mem) : Prop :=
 NewC m #[.int .i64 r_0_0, .int .u64 r_0_1, .int .u64 r_0_2, .int .u64 r_0_3, .int .u64 r_0_4, .slice r_0_5a r_0_5l r_0_5c] T_api_Rx fun b_r_1 m1 =>
 LdV m1 b_r_1 0 fun v =>
 UnI v .i64 fun x7 =>
 Br (x7 == 1) (
  LdV m1 b_r_1 5 fun v =>
  UnS v fun x10a x10l x10c =>
  Br (((x10l : Nat) : Int) == 0) (
   LdV m1 b_r_1 1 fun v =>
   UnI v .u64 fun x15_0 =>
   LdV m1 b_r_1 2 fun v =>
   UnI v .u64 fun x15_1 =>
   LdV m1 b_r_1 3 fun v =>
   UnI v .u64 fun x15_2 =>
   LdV m1 b_r_1 4 fun v =>
   UnI v .u64 fun x15_3 =>
   R (.returned (.bool (!(eqL [.int .u64 x15_0, .int .u64 x15_1, .int .u64 x15_2, .int .u64 x15_3] [.int .u64 0, .int .u64 0, .int .u64 0, .int .u64 0])))) m1) (
   R (.returned (.bool false)) m1)) (
  LdV m1 b_r_1 1 fun v =>
  UnI v .u64 fun x21_0 =>
  LdV m1 b_r_1 2 fun v =>
  UnI v .u64 fun x21_1 =>
  LdV m1 b_r_1 3 fun v =>
  UnI v .u64 fun x21_2 =>
  LdV m1 b_r_1 4 fun v =>
  UnI v .u64 fun x21_3 =>
  Br (!(eqL [.int .u64 x21_0, .int .u64 x21_1, .int .u64 x21_2, .int .u64 x21_3] [.int .u64 0, .int .u64 0, .int .u64 0, .int .u64 0])) (
   R (.returned (.bool false)) m1) (
   LdV m1 b_r_1 0 fun v =>
   UnI v .i64 fun x26 =>
   Br (x26 == 2) (
    k1  b_r_1 0 true R m1) (
    LdV m1 b_r_1 0 fun v =>
    UnI v .i64 fun x29 =>
    k1  b_r_1 0 (x29 == 3) R m1)))
noncomputable def e0A (R : Ending → Mem → Prop) : ACode := (.seq (.code (sL (body))) (.seq (.block 0 (.seq (.code (sL (bB (sL (sR (body)))))) (.cond (.tmp 5) (.code (cT (sR (bB (sL (sR (body))))))) (.seq (.code (sL (cE (sR (bB (sL (sR (body)))))))) (.cond (.tmp 19) (.code (cT (sR (cE (sR (bB (sL (sR (body))))))))) (.seq (.code (sL (cE (sR (cE (sR (bB (sL (sR (body)))))))))) (.cut (k1E fun r_1b r_1o x24 m => k1  r_1b r_1o x24 R m) (sR (cE (sR (cE (sR (bB (sL (sR (body)))))))))))))))) (.cut (k2E fun r_1b r_1o m => k2  r_1b r_1o R m) (sR (sR (body))))))
abbrev k2Q  (R : Ending → Mem → Prop) : Exit → Env → Mem → Prop := (bodyQ P fn R)
abbrev l3Q  (R : Ending → Mem → Prop) : Exit → Env → Mem → Prop := (blockQ 1 (thenQ (acpt P od (panicR R) (.code (sR (sR (sR (body))))) (k2Q  R)) (k2Q  R)))
abbrev k1Q  (R : Ending → Mem → Prop) : Exit → Env → Mem → Prop := (blockQ 0 (thenQ (acpt P od (panicR R) (.cut (k2E fun r_1b r_1o m => k2  r_1b r_1o R m) (sR (sR (body)))) (bodyQ P fn R)) (bodyQ P fn R)))
theorem l3_eq  (K3 : Nat → Nat → Option Addr → Nat → Nat → Int → Int → Mem → Prop) (R : Ending → Mem → Prop) (r_1b : Nat) (r_1o : Nat) (x52a : Option Addr) (x52l : Nat) (x52c : Nat) (x53 : Int) (x54 : Int) (ρ : Env) (m : Mem) : l3B  K3 r_1b r_1o x52a x52l x52c x53 x54 R m = acpt P od (panicR R) (l3A  K3 R) (thenQ (l3E K3) (l3Q  R)) (upd (upd (upd (upd ρ 54 (.int .i64 x54)) 53 (.int .i64 x53)) 52 (.slice x52a x52l x52c)) 1 (.pointer (some ⟨r_1b, r_1o, none⟩))) m := by kernel_rfl
theorem l3_er  (K3 : Nat → Nat → Option Addr → Nat → Nat → Int → Int → Mem → Prop) (R : Ending → Mem → Prop) : (l3A  K3 R).erase = lP (bB (sR (sL (sR (sR (body)))))) := by kernel_rfl
theorem l3_ok  (R : Ending → Mem → Prop) (ρ : Env) (m : Mem) (h : (l3E fun r_1b r_1o x52a x52l x52c x53 x54 m => l3  r_1b r_1o x52a x52l x52c x53 x54 R m) ρ m) : cpt P od (panicR R) (.loop (lP (bB (sR (sL (sR (sR (body)))))))) (l3Q  R) ρ m := by
  unfold l3E at h
  obtain ⟨r_1b, r_1o, e1, h⟩ := h.ex
  obtain ⟨x52a, x52l, x52c, e52, h⟩ := h.ex
  obtain ⟨x53, e53, h⟩ := h.ex
  obtain ⟨x54, e54, h⟩ := h.ex
  obtain ⟨I, N, h0, hs⟩ := h
  refine ⟨fun N => l3E (I N), N, (by show l3E (I N) ρ m; unfold l3E; rw [e1, e52, e53, e54]; exact h0), ?_⟩
  clear h0 e1 e52 e53 e54
  intro N ρ m h
  unfold l3E at h
  obtain ⟨r_1b, r_1o, e1, h⟩ := h.ex
  obtain ⟨x52a, x52l, x52c, e52, h⟩ := h.ex
  obtain ⟨x53, e53, h⟩ := h.ex
  obtain ⟨x54, e54, h⟩ := h.ex
  refine cpt_mono (P := P) (lP (bB (sR (sL (sR (sR (body))))))) (Q := thenQ (l3E fun r_1b r_1o x52a x52l x52c x53 x54 m => ∃ N1, N1 < N ∧ I N1 r_1b r_1o x52a x52l x52c x53 x54 m) (l3Q  R)) (fun e ρ m h => ?_) ρ m ?_
  · cases e with
    | normal =>
      have h : l3E (fun r_1b r_1o x52a x52l x52c x53 x54 m => ∃ N1, N1 < N ∧ I N1 r_1b r_1o x52a x52l x52c x53 x54 m) ρ m := h
      unfold l3E at h
      obtain ⟨r_1b, r_1o, e1, h⟩ := h.ex
      obtain ⟨x52a, x52l, x52c, e52, h⟩ := h.ex
      obtain ⟨x53, e53, h⟩ := h.ex
      obtain ⟨x54, e54, h⟩ := h.ex
      obtain ⟨N1, hlt, h⟩ := h
      exact ⟨N1, hlt, (by show l3E (I N1) ρ m; unfold l3E; rw [e1, e52, e53, e54]; exact h)⟩
    | _ => exact h
  have hh := hs N r_1b r_1o x52a x52l x52c x53 x54 m h
  generalize (fun r_1b r_1o x52a x52l x52c x53 x54 m => ∃ N1, N1 < N ∧ I N1 r_1b r_1o x52a x52l x52c x53 x54 m : Nat → Nat → Option Addr → Nat → Nat → Int → Int → Mem → Prop) = K3 at hh ⊢
  rw [← upd_self e1, ← upd_self e52, ← upd_self e53, ← upd_self e54]
  rw [← l3_er  K3 R]
  refine acpt_sound (P := P) (l3A  K3 R) _ _ _ True.intro ?_
  exact Eq.mp (l3_eq  K3 R r_1b r_1o x52a x52l x52c x53 x54 ρ m) hh
theorem k2_eq  (R : Ending → Mem → Prop) (r_1b : Nat) (r_1o : Nat) (ρ : Env) (m : Mem) : k2  r_1b r_1o R m = acpt P od (panicR R) (k2A  R) (k2Q  R) (upd ρ 1 (.pointer (some ⟨r_1b, r_1o, none⟩))) m := by kernel_rfl
theorem k2_er  (R : Ending → Mem → Prop) : (k2A  R).erase = sR (sR (body)) := by kernel_rfl
theorem k2_ok  (R : Ending → Mem → Prop) (ρ : Env) (m : Mem) (h : (k2E fun r_1b r_1o m => k2  r_1b r_1o R m) ρ m) : cpt P od (panicR R) (sR (sR (body))) (k2Q  R) ρ m := by
  unfold k2E at h
  obtain ⟨r_1b, r_1o, e1, h⟩ := h.ex
  rw [← upd_self e1]
  rw [← k2_er  R]
  refine acpt_sound (P := P) (k2A  R) _ _ _ ⟨True.intro, ⟨(fun ρ m h => l3_ok  R ρ m h), True.intro⟩⟩ ?_
  exact Eq.mp (k2_eq  R r_1b r_1o ρ m) h
theorem k1_eq  (R : Ending → Mem → Prop) (r_1b : Nat) (r_1o : Nat) (x24 : Bool) (ρ : Env) (m : Mem) : k1  r_1b r_1o x24 R m = acpt P od (panicR R) (k1A  R) (k1Q  R) (upd (upd ρ 24 (.bool x24)) 1 (.pointer (some ⟨r_1b, r_1o, none⟩))) m := by kernel_rfl
theorem k1_er  (R : Ending → Mem → Prop) : (k1A  R).erase = sR (cE (sR (cE (sR (bB (sL (sR (body)))))))) := by kernel_rfl
theorem k1_ok  (R : Ending → Mem → Prop) (ρ : Env) (m : Mem) (h : (k1E fun r_1b r_1o x24 m => k1  r_1b r_1o x24 R m) ρ m) : cpt P od (panicR R) (sR (cE (sR (cE (sR (bB (sL (sR (body))))))))) (k1Q  R) ρ m := by
  unfold k1E at h
  obtain ⟨r_1b, r_1o, e1, h⟩ := h.ex
  obtain ⟨x24, e24, h⟩ := h.ex
  rw [← upd_self e1, ← upd_self e24]
  rw [← k1_er  R]
  refine acpt_sound (P := P) (k1A  R) _ _ _ True.intro ?_
  exact Eq.mp (k1_eq  R r_1b r_1o x24 ρ m) h
theorem e0_eq (r_0_0 : Int) (r_0_1 : Int) (r_0_2 : Int) (r_0_3 : Int) (r_0_4 : Int) (r_0_5a : Option Addr) (r_0_5l : Nat) (r_0_5c : Nat) (R : Ending → Mem → Prop) (m : Mem) : e0 r_0_0 r_0_1 r_0_2 r_0_3 r_0_4 r_0_5a r_0_5l r_0_5c R m = acpt P od (panicR R) (e0A R) (bodyQ P fn R) (argE (#[.agg #[.int .i64 r_0_0, .int .u64 r_0_1, .int .u64 r_0_2, .int .u64 r_0_3, .int .u64 r_0_4, .slice r_0_5a r_0_5l r_0_5c]] : Array Value).toList) m := by kernel_rfl
theorem ok (r_0_0 : Int) (r_0_1 : Int) (r_0_2 : Int) (r_0_3 : Int) (r_0_4 : Int) (r_0_5a : Option Addr) (r_0_5l : Nat) (r_0_5c : Nat) (R : Ending → Mem → Prop) (m : Mem) (h : e0 r_0_0 r_0_1 r_0_2 r_0_3 r_0_4 r_0_5a r_0_5l r_0_5c R m) : HC P id #[.agg #[.int .i64 r_0_0, .int .u64 r_0_1, .int .u64 r_0_2, .int .u64 r_0_3, .int .u64 r_0_4, .slice r_0_5a r_0_5l r_0_5c]] m R := by
  refine HC_of (fn := fn) (c := body) (od := od) (tb := tb) Go.Proofs.Try.func29 (by kernel_rfl) (by kernel_rfl) follows (by kernel_rfl) (of_decide_eq_true (by kernel_rfl)) ?_
  have he : (e0A R).erase = body := by kernel_rfl
  rw [← he]
  refine acpt_sound (P := P) (e0A R) _ _ _ ⟨⟨(fun ρ m h => k2_ok  R ρ m h), ⟨⟨True.intro, ⟨⟨True.intro, ⟨(fun ρ m h => k1_ok  R ρ m h), True.intro⟩⟩, True.intro⟩⟩, True.intro⟩⟩, True.intro⟩ ?_
  exact Eq.mp (e0_eq r_0_0 r_0_1 r_0_2 r_0_3 r_0_4 r_0_5a r_0_5l r_0_5c R m) h
end regex_formed
/-! ### eyot/regex.size -/
namespace regex_size
noncomputable def fn : Func := Go.Proofs.Try.f30
noncomputable def body : Code := fn.body.getD .skip
def od : Nat → Ord := fun _ => .done
def tb : Nat → Tab := fun _ => (0, [], [])
def k2E (K : Int → Int → Mem → Prop) : Env → Mem → Prop := fun ρ m => UnI (ρ 2) .i64 fun nodes_2 => UnI (ρ 3) .i64 fun deep_3 => K nodes_2 deep_3 m
def k2  (nodes_2 : Int) (deep_3 : Int) (R : Ending → Mem → Prop) (m : Mem) : Prop :=
 R (.returned (.tuple #[.int .i64 (IntKind.i64.wrap (nodes_2 + 1)), .int .i64 (IntKind.i64.wrap (deep_3 + 1))])) m
noncomputable def k2A  (R : Ending → Mem → Prop) : ACode := (.code (sR (sR (body))))
def l1E (K : Int → Int → Option Addr → Nat → Nat → Int → Int → Mem → Prop) : Env → Mem → Prop := fun ρ m => UnI (ρ 2) .i64 fun nodes_2 => UnI (ρ 3) .i64 fun deep_3 => UnS (ρ 9) fun x9a x9l x9c => UnI (ρ 10) .i64 fun x10 => UnI (ρ 11) .i64 fun x11 => K nodes_2 deep_3 x9a x9l x9c x10 x11 m
def l1B  (K1 : Int → Int → Option Addr → Nat → Nat → Int → Int → Mem → Prop) (nodes_2 : Int) (deep_3 : Int) (x9a : Option Addr) (x9l : Nat) (x9c : Nat) (x10 : Int) (x11 : Int) (R : Ending → Mem → Prop) (m : Mem) : Prop :=
 Br (decide (x11 < x10)) (
  IxS x9a x9l x11 6 fun x13b x13o =>
  LdV m x13b x13o fun v =>
  UnI v .i64 fun x14_0 =>
  LdV m x13b (x13o + 1) fun v =>
  UnI v .u64 fun x14_1 =>
  LdV m x13b (x13o + 2) fun v =>
  UnI v .u64 fun x14_2 =>
  LdV m x13b (x13o + 3) fun v =>
  UnI v .u64 fun x14_3 =>
  LdV m x13b (x13o + 4) fun v =>
  UnI v .u64 fun x14_4 =>
  LdV m x13b (x13o + 5) fun v =>
  UnS v fun x14_5a x14_5l x14_5c =>
  NewC m #[.int .i64 0, .int .u64 0, .int .u64 0, .int .u64 0, .int .u64 0, .slice none 0 0] T_api_Rx fun b_x_5 m1 =>
  St1 m1 b_x_5 0 (.int .i64 x14_0) fun m2 =>
  St1 m2 b_x_5 1 (.int .u64 x14_1) fun m3 =>
  St1 m3 b_x_5 2 (.int .u64 x14_2) fun m4 =>
  St1 m4 b_x_5 3 (.int .u64 x14_3) fun m5 =>
  St1 m5 b_x_5 4 (.int .u64 x14_4) fun m6 =>
  St1 m6 b_x_5 5 (.slice x14_5a x14_5l x14_5c) fun m7 =>
  LdV m7 b_x_5 0 fun v =>
  UnI v .i64 fun x16_0 =>
  LdV m7 b_x_5 1 fun v =>
  UnI v .u64 fun x16_1 =>
  LdV m7 b_x_5 2 fun v =>
  UnI v .u64 fun x16_2 =>
  LdV m7 b_x_5 3 fun v =>
  UnI v .u64 fun x16_3 =>
  LdV m7 b_x_5 4 fun v =>
  UnI v .u64 fun x16_4 =>
  LdV m7 b_x_5 5 fun v =>
  UnS v fun x16_5a x16_5l x16_5c =>
  HC P regex_size.id #[.agg #[.int .i64 x16_0, .int .u64 x16_1, .int .u64 x16_2, .int .u64 x16_3, .int .u64 x16_4, .slice x16_5a x16_5l x16_5c]] m7 (Cont (fun v m8 =>
    UnTup v fun us0 =>
    UnCons us0 fun w us1 =>
    UnI w .i64 fun x17_0 =>
    UnCons us1 fun w us2 =>
    UnI w .i64 fun x17_1 =>
    UnNil us2 (
     K1 (IntKind.i64.wrap (nodes_2 + x17_0)) (if x17_1 > deep_3 then x17_1 else deep_3) x9a x9l x9c x10 (IntKind.i64.wrap (x11 + 1)) m8)) (panicR R))) (
  k2  nodes_2 deep_3 R m)
def l1  (nodes_2 : Int) (deep_3 : Int) (x9a : Option Addr) (x9l : Nat) (x9c : Nat) (x10 : Int) (x11 : Int) (R : Ending → Mem → Prop) (m : Mem) : Prop :=
  ∃ (I : Nat → Int → Int → Option Addr → Nat → Nat → Int → Int → Mem → Prop) (N : Nat), I N nodes_2 deep_3 x9a x9l x9c x10 x11 m ∧ ∀ N nodes_2 deep_3 x9a x9l x9c x10 x11 m, I N nodes_2 deep_3 x9a x9l x9c x10 x11 m → l1B  (fun nodes_2 deep_3 x9a x9l x9c x10 x11 m => ∃ N1, N1 < N ∧ I N1 nodes_2 deep_3 x9a x9l x9c x10 x11 m) nodes_2 deep_3 x9a x9l x9c x10 x11 R m
noncomputable def l1A  (K1 : Int → Int → Option Addr → Nat → Nat → Int → Int → Mem → Prop) (R : Ending → Mem → Prop) : ACode := (.code (lP (bB (sR (sL (sR (body)))))))
def e0 (r_0_0 : Int) (r_0_1 : Int) (r_0_2 : Int) (r_0_3 : Int) (r_0_4 : Int) (r_0_5a : Option Addr) (r_0_5l : Nat) (r_0_5c : Nat) (R : Ending → Mem → Prop) (m : Mem) : Prop :=
 NewC m #[.int .i64 r_0_0, .int .u64 r_0_1, .int .u64 r_0_2, .int .u64 r_0_3, .int .u64 r_0_4, .slice r_0_5a r_0_5l r_0_5c] T_api_Rx fun b_r_1 m1 =>
 LdV m1 b_r_1 5 fun v =>
 UnS v fun x9a x9l x9c =>
 l1  0 0 x9a x9l x9c ((x9l : Nat) : Int) 0 R m1
noncomputable def e0A (R : Ending → Mem → Prop) : ACode := (.seq (.code (sL (body))) (.seq (.seq (.code (sL (sL (sR (body))))) (.block 0 (.cut (l1E fun nodes_2 deep_3 x9a x9l x9c x10 x11 m => l1  nodes_2 deep_3 x9a x9l x9c x10 x11 R m) (.loop (lP (bB (sR (sL (sR (body)))))))))) (.cut (k2E fun nodes_2 deep_3 m => k2  nodes_2 deep_3 R m) (sR (sR (body))))))
abbrev k2Q  (R : Ending → Mem → Prop) : Exit → Env → Mem → Prop := (bodyQ P fn R)
abbrev l1Q  (R : Ending → Mem → Prop) : Exit → Env → Mem → Prop := (blockQ 0 (thenQ (acpt P od (panicR R) (.cut (k2E fun nodes_2 deep_3 m => k2  nodes_2 deep_3 R m) (sR (sR (body)))) (bodyQ P fn R)) (bodyQ P fn R)))
theorem k2_eq  (R : Ending → Mem → Prop) (nodes_2 : Int) (deep_3 : Int) (ρ : Env) (m : Mem) : k2  nodes_2 deep_3 R m = acpt P od (panicR R) (k2A  R) (k2Q  R) (upd (upd ρ 3 (.int .i64 deep_3)) 2 (.int .i64 nodes_2)) m := by kernel_rfl
theorem k2_er  (R : Ending → Mem → Prop) : (k2A  R).erase = sR (sR (body)) := by kernel_rfl
theorem k2_ok  (R : Ending → Mem → Prop) (ρ : Env) (m : Mem) (h : (k2E fun nodes_2 deep_3 m => k2  nodes_2 deep_3 R m) ρ m) : cpt P od (panicR R) (sR (sR (body))) (k2Q  R) ρ m := by
  unfold k2E at h
  obtain ⟨nodes_2, e2, h⟩ := h.ex
  obtain ⟨deep_3, e3, h⟩ := h.ex
  rw [← upd_self e2, ← upd_self e3]
  rw [← k2_er  R]
  refine acpt_sound (P := P) (k2A  R) _ _ _ True.intro ?_
  exact Eq.mp (k2_eq  R nodes_2 deep_3 ρ m) h
theorem l1_eq  (K1 : Int → Int → Option Addr → Nat → Nat → Int → Int → Mem → Prop) (R : Ending → Mem → Prop) (nodes_2 : Int) (deep_3 : Int) (x9a : Option Addr) (x9l : Nat) (x9c : Nat) (x10 : Int) (x11 : Int) (ρ : Env) (m : Mem) : l1B  K1 nodes_2 deep_3 x9a x9l x9c x10 x11 R m = acpt P od (panicR R) (l1A  K1 R) (thenQ (l1E K1) (l1Q  R)) (upd (upd (upd (upd (upd ρ 11 (.int .i64 x11)) 10 (.int .i64 x10)) 9 (.slice x9a x9l x9c)) 3 (.int .i64 deep_3)) 2 (.int .i64 nodes_2)) m := by kernel_rfl
theorem l1_er  (K1 : Int → Int → Option Addr → Nat → Nat → Int → Int → Mem → Prop) (R : Ending → Mem → Prop) : (l1A  K1 R).erase = lP (bB (sR (sL (sR (body))))) := by kernel_rfl
theorem l1_ok  (R : Ending → Mem → Prop) (ρ : Env) (m : Mem) (h : (l1E fun nodes_2 deep_3 x9a x9l x9c x10 x11 m => l1  nodes_2 deep_3 x9a x9l x9c x10 x11 R m) ρ m) : cpt P od (panicR R) (.loop (lP (bB (sR (sL (sR (body))))))) (l1Q  R) ρ m := by
  unfold l1E at h
  obtain ⟨nodes_2, e2, h⟩ := h.ex
  obtain ⟨deep_3, e3, h⟩ := h.ex
  obtain ⟨x9a, x9l, x9c, e9, h⟩ := h.ex
  obtain ⟨x10, e10, h⟩ := h.ex
  obtain ⟨x11, e11, h⟩ := h.ex
  obtain ⟨I, N, h0, hs⟩ := h
  refine ⟨fun N => l1E (I N), N, (by show l1E (I N) ρ m; unfold l1E; rw [e2, e3, e9, e10, e11]; exact h0), ?_⟩
  clear h0 e2 e3 e9 e10 e11
  intro N ρ m h
  unfold l1E at h
  obtain ⟨nodes_2, e2, h⟩ := h.ex
  obtain ⟨deep_3, e3, h⟩ := h.ex
  obtain ⟨x9a, x9l, x9c, e9, h⟩ := h.ex
  obtain ⟨x10, e10, h⟩ := h.ex
  obtain ⟨x11, e11, h⟩ := h.ex
  refine cpt_mono (P := P) (lP (bB (sR (sL (sR (body)))))) (Q := thenQ (l1E fun nodes_2 deep_3 x9a x9l x9c x10 x11 m => ∃ N1, N1 < N ∧ I N1 nodes_2 deep_3 x9a x9l x9c x10 x11 m) (l1Q  R)) (fun e ρ m h => ?_) ρ m ?_
  · cases e with
    | normal =>
      have h : l1E (fun nodes_2 deep_3 x9a x9l x9c x10 x11 m => ∃ N1, N1 < N ∧ I N1 nodes_2 deep_3 x9a x9l x9c x10 x11 m) ρ m := h
      unfold l1E at h
      obtain ⟨nodes_2, e2, h⟩ := h.ex
      obtain ⟨deep_3, e3, h⟩ := h.ex
      obtain ⟨x9a, x9l, x9c, e9, h⟩ := h.ex
      obtain ⟨x10, e10, h⟩ := h.ex
      obtain ⟨x11, e11, h⟩ := h.ex
      obtain ⟨N1, hlt, h⟩ := h
      exact ⟨N1, hlt, (by show l1E (I N1) ρ m; unfold l1E; rw [e2, e3, e9, e10, e11]; exact h)⟩
    | _ => exact h
  have hh := hs N nodes_2 deep_3 x9a x9l x9c x10 x11 m h
  generalize (fun nodes_2 deep_3 x9a x9l x9c x10 x11 m => ∃ N1, N1 < N ∧ I N1 nodes_2 deep_3 x9a x9l x9c x10 x11 m : Int → Int → Option Addr → Nat → Nat → Int → Int → Mem → Prop) = K1 at hh ⊢
  rw [← upd_self e2, ← upd_self e3, ← upd_self e9, ← upd_self e10, ← upd_self e11]
  rw [← l1_er  K1 R]
  refine acpt_sound (P := P) (l1A  K1 R) _ _ _ True.intro ?_
  exact Eq.mp (l1_eq  K1 R nodes_2 deep_3 x9a x9l x9c x10 x11 ρ m) hh
theorem e0_eq (r_0_0 : Int) (r_0_1 : Int) (r_0_2 : Int) (r_0_3 : Int) (r_0_4 : Int) (r_0_5a : Option Addr) (r_0_5l : Nat) (r_0_5c : Nat) (R : Ending → Mem → Prop) (m : Mem) : e0 r_0_0 r_0_1 r_0_2 r_0_3 r_0_4 r_0_5a r_0_5l r_0_5c R m = acpt P od (panicR R) (e0A R) (bodyQ P fn R) (argE (#[.agg #[.int .i64 r_0_0, .int .u64 r_0_1, .int .u64 r_0_2, .int .u64 r_0_3, .int .u64 r_0_4, .slice r_0_5a r_0_5l r_0_5c]] : Array Value).toList) m := by kernel_rfl
theorem ok (r_0_0 : Int) (r_0_1 : Int) (r_0_2 : Int) (r_0_3 : Int) (r_0_4 : Int) (r_0_5a : Option Addr) (r_0_5l : Nat) (r_0_5c : Nat) (R : Ending → Mem → Prop) (m : Mem) (h : e0 r_0_0 r_0_1 r_0_2 r_0_3 r_0_4 r_0_5a r_0_5l r_0_5c R m) : HC P id #[.agg #[.int .i64 r_0_0, .int .u64 r_0_1, .int .u64 r_0_2, .int .u64 r_0_3, .int .u64 r_0_4, .slice r_0_5a r_0_5l r_0_5c]] m R := by
  refine HC_of (fn := fn) (c := body) (od := od) (tb := tb) Go.Proofs.Try.func30 (by kernel_rfl) (by kernel_rfl) follows (by kernel_rfl) (of_decide_eq_true (by kernel_rfl)) ?_
  have he : (e0A R).erase = body := by kernel_rfl
  rw [← he]
  refine acpt_sound (P := P) (e0A R) _ _ _ ⟨⟨(fun ρ m h => k2_ok  R ρ m h), ⟨(fun ρ m h => l1_ok  R ρ m h), True.intro⟩⟩, True.intro⟩ ?_
  exact Eq.mp (e0_eq r_0_0 r_0_1 r_0_2 r_0_3 r_0_4 r_0_5a r_0_5l r_0_5c R m) h
end regex_size
/-! ### (*eyot/place.Places).links -/
namespace place_Places_links
noncomputable def fn : Func := Go.Proofs.Try.f31
noncomputable def body : Code := fn.body.getD .skip
def od : Nat → Ord := fun | 3 => ordL [(0, 3), (1, 3), (2, 3), (3, 1), (4, 3), (5, 3), (6, 3), (7, 3), (8, 1), (9, 3), (10, 3), (11, 1), (12, 3), (13, 0), (14, 3), (15, 2)] .done | _ => .done
def tb : Nat → Tab := fun | 3 => (32768, [0, 1, 3, 7, 0, 0, 32, 96, 224, 0, 992, 2016, 0, 8160, 16383, 32767], [(0, 1, 15), (1, 16384, 16), (2, 32768, 17), (4, 65536, 18), (0, 128, 19), (0, 1, 20), (32, 524288, 21), (64, 1048576, 22), (128, 2097152, 23), (0, 128, 24), (768, 12582912, 25), (1024, 16777216, 26), (0, 4, 27), (6144, 100663296, 28), (16383, 393216, 29), (32767, 402653184, 0)]) | _ => (0, [], [])
def l1E (K : Option Addr → Option Addr → Nat → Nat → Option Addr → Nat → Nat → Int → Int → Mem → Prop) : Env → Mem → Prop := fun ρ m => UnP (ρ 0) fun p_0 => UnS (ρ 2) fun first_2a first_2l first_2c => UnS (ρ 8) fun x8a x8l x8c => UnI (ρ 9) .i64 fun x9 => UnI (ρ 10) .i64 fun x10 => K p_0 first_2a first_2l first_2c x8a x8l x8c x9 x10 m
def l1B  (K1 : Option Addr → Option Addr → Nat → Nat → Option Addr → Nat → Nat → Int → Int → Mem → Prop) (p_0 : Option Addr) (first_2a : Option Addr) (first_2l : Nat) (first_2c : Nat) (x8a : Option Addr) (x8l : Nat) (x8c : Nat) (x9 : Int) (x10 : Int) (R : Ending → Mem → Prop) (m : Mem) : Prop :=
 Br (decide (x10 < x9)) (
  IxS x8a x8l x10 1 fun x12b x12o =>
  LdV m x12b x12o fun v =>
  UnI v .i64 fun x13 =>
  Sub m fun r1 =>
  NilC p_0 (fun x15b x15o =>
   LdV r1 x15b (x15o + 3) fun v =>
   UnS v fun x17a x17l x17c =>
   NilC p_0 (fun x20b x20o =>
    LdV r1 x20b (x20o + 3) fun v =>
    UnS v fun x22a x22l x22c =>
    IxS x22a x22l x13 1 fun x24b x24o =>
    LdV r1 x24b x24o fun v =>
    UnS v fun x25a x25l x25c =>
    HC P place_also.id #[.slice x25a x25l x25c, .slice first_2a first_2l first_2c] m (Cont (fun v m2 =>
      UnS v fun x27a x27l x27c =>
      Lk r1 m2 fun r3 =>
      IxS x17a x17l x13 1 fun x28b x28o =>
      St1 m2 x28b x28o (.slice x27a x27l x27c) fun m4 =>
      K1 p_0 first_2a first_2l first_2c x8a x8l x8c x9 (IntKind.i64.wrap (x10 + 1)) m4) (panicR R))) (False)) (False)) (
  R (.returned (.tuple #[])) m)
def l1  (p_0 : Option Addr) (first_2a : Option Addr) (first_2l : Nat) (first_2c : Nat) (x8a : Option Addr) (x8l : Nat) (x8c : Nat) (x9 : Int) (x10 : Int) (R : Ending → Mem → Prop) (m : Mem) : Prop :=
  ∃ (I : Nat → Option Addr → Option Addr → Nat → Nat → Option Addr → Nat → Nat → Int → Int → Mem → Prop) (N : Nat), I N p_0 first_2a first_2l first_2c x8a x8l x8c x9 x10 m ∧ ∀ N p_0 first_2a first_2l first_2c x8a x8l x8c x9 x10 m, I N p_0 first_2a first_2l first_2c x8a x8l x8c x9 x10 m → l1B  (fun p_0 first_2a first_2l first_2c x8a x8l x8c x9 x10 m => ∃ N1, N1 < N ∧ I N1 p_0 first_2a first_2l first_2c x8a x8l x8c x9 x10 m) p_0 first_2a first_2l first_2c x8a x8l x8c x9 x10 R m
noncomputable def l1A  (K1 : Option Addr → Option Addr → Nat → Nat → Option Addr → Nat → Nat → Int → Int → Mem → Prop) (R : Ending → Mem → Prop) : ACode := (.code (lP (bB (sR (body)))))
def e0 (p_0 : Option Addr) (last_1a : Option Addr) (last_1l : Nat) (last_1c : Nat) (first_2a : Option Addr) (first_2l : Nat) (first_2c : Nat) (R : Ending → Mem → Prop) (m : Mem) : Prop :=
 l1  p_0 first_2a first_2l first_2c last_1a last_1l last_1c ((last_1l : Nat) : Int) 0 R m
noncomputable def e0A (R : Ending → Mem → Prop) : ACode := (.seq (.code (sL (body))) (.block 0 (.cut (l1E fun p_0 first_2a first_2l first_2c x8a x8l x8c x9 x10 m => l1  p_0 first_2a first_2l first_2c x8a x8l x8c x9 x10 R m) (.loop (lP (bB (sR (body))))))))
abbrev l1Q  (R : Ending → Mem → Prop) : Exit → Env → Mem → Prop := (blockQ 0 (bodyQ P fn R))
theorem l1_eq  (K1 : Option Addr → Option Addr → Nat → Nat → Option Addr → Nat → Nat → Int → Int → Mem → Prop) (R : Ending → Mem → Prop) (p_0 : Option Addr) (first_2a : Option Addr) (first_2l : Nat) (first_2c : Nat) (x8a : Option Addr) (x8l : Nat) (x8c : Nat) (x9 : Int) (x10 : Int) (ρ : Env) (m : Mem) : l1B  K1 p_0 first_2a first_2l first_2c x8a x8l x8c x9 x10 R m = acpt P od (panicR R) (l1A  K1 R) (thenQ (l1E K1) (l1Q  R)) (upd (upd (upd (upd (upd ρ 10 (.int .i64 x10)) 9 (.int .i64 x9)) 8 (.slice x8a x8l x8c)) 2 (.slice first_2a first_2l first_2c)) 0 (.pointer p_0)) m := by kernel_rfl
theorem l1_er  (K1 : Option Addr → Option Addr → Nat → Nat → Option Addr → Nat → Nat → Int → Int → Mem → Prop) (R : Ending → Mem → Prop) : (l1A  K1 R).erase = lP (bB (sR (body))) := by kernel_rfl
theorem l1_ok  (R : Ending → Mem → Prop) (ρ : Env) (m : Mem) (h : (l1E fun p_0 first_2a first_2l first_2c x8a x8l x8c x9 x10 m => l1  p_0 first_2a first_2l first_2c x8a x8l x8c x9 x10 R m) ρ m) : cpt P od (panicR R) (.loop (lP (bB (sR (body))))) (l1Q  R) ρ m := by
  unfold l1E at h
  obtain ⟨p_0, e0, h⟩ := h.ex
  obtain ⟨first_2a, first_2l, first_2c, e2, h⟩ := h.ex
  obtain ⟨x8a, x8l, x8c, e8, h⟩ := h.ex
  obtain ⟨x9, e9, h⟩ := h.ex
  obtain ⟨x10, e10, h⟩ := h.ex
  obtain ⟨I, N, h0, hs⟩ := h
  refine ⟨fun N => l1E (I N), N, (by show l1E (I N) ρ m; unfold l1E; rw [e0, e2, e8, e9, e10]; exact h0), ?_⟩
  clear h0 e0 e2 e8 e9 e10
  intro N ρ m h
  unfold l1E at h
  obtain ⟨p_0, e0, h⟩ := h.ex
  obtain ⟨first_2a, first_2l, first_2c, e2, h⟩ := h.ex
  obtain ⟨x8a, x8l, x8c, e8, h⟩ := h.ex
  obtain ⟨x9, e9, h⟩ := h.ex
  obtain ⟨x10, e10, h⟩ := h.ex
  refine cpt_mono (P := P) (lP (bB (sR (body)))) (Q := thenQ (l1E fun p_0 first_2a first_2l first_2c x8a x8l x8c x9 x10 m => ∃ N1, N1 < N ∧ I N1 p_0 first_2a first_2l first_2c x8a x8l x8c x9 x10 m) (l1Q  R)) (fun e ρ m h => ?_) ρ m ?_
  · cases e with
    | normal =>
      have h : l1E (fun p_0 first_2a first_2l first_2c x8a x8l x8c x9 x10 m => ∃ N1, N1 < N ∧ I N1 p_0 first_2a first_2l first_2c x8a x8l x8c x9 x10 m) ρ m := h
      unfold l1E at h
      obtain ⟨p_0, e0, h⟩ := h.ex
      obtain ⟨first_2a, first_2l, first_2c, e2, h⟩ := h.ex
      obtain ⟨x8a, x8l, x8c, e8, h⟩ := h.ex
      obtain ⟨x9, e9, h⟩ := h.ex
      obtain ⟨x10, e10, h⟩ := h.ex
      obtain ⟨N1, hlt, h⟩ := h
      exact ⟨N1, hlt, (by show l1E (I N1) ρ m; unfold l1E; rw [e0, e2, e8, e9, e10]; exact h)⟩
    | _ => exact h
  have hh := hs N p_0 first_2a first_2l first_2c x8a x8l x8c x9 x10 m h
  generalize (fun p_0 first_2a first_2l first_2c x8a x8l x8c x9 x10 m => ∃ N1, N1 < N ∧ I N1 p_0 first_2a first_2l first_2c x8a x8l x8c x9 x10 m : Option Addr → Option Addr → Nat → Nat → Option Addr → Nat → Nat → Int → Int → Mem → Prop) = K1 at hh ⊢
  rw [← upd_self e0, ← upd_self e2, ← upd_self e8, ← upd_self e9, ← upd_self e10]
  rw [← l1_er  K1 R]
  refine acpt_sound (P := P) (l1A  K1 R) _ _ _ True.intro ?_
  exact Eq.mp (l1_eq  K1 R p_0 first_2a first_2l first_2c x8a x8l x8c x9 x10 ρ m) hh
theorem e0_eq (p_0 : Option Addr) (last_1a : Option Addr) (last_1l : Nat) (last_1c : Nat) (first_2a : Option Addr) (first_2l : Nat) (first_2c : Nat) (R : Ending → Mem → Prop) (m : Mem) : e0 p_0 last_1a last_1l last_1c first_2a first_2l first_2c R m = acpt P od (panicR R) (e0A R) (bodyQ P fn R) (argE (#[.pointer p_0, .slice last_1a last_1l last_1c, .slice first_2a first_2l first_2c] : Array Value).toList) m := by kernel_rfl
theorem ok (p_0 : Option Addr) (last_1a : Option Addr) (last_1l : Nat) (last_1c : Nat) (first_2a : Option Addr) (first_2l : Nat) (first_2c : Nat) (R : Ending → Mem → Prop) (m : Mem) (h : e0 p_0 last_1a last_1l last_1c first_2a first_2l first_2c R m) : HC P id #[.pointer p_0, .slice last_1a last_1l last_1c, .slice first_2a first_2l first_2c] m R := by
  refine HC_of (fn := fn) (c := body) (od := od) (tb := tb) Go.Proofs.Try.func31 (by kernel_rfl) (by kernel_rfl) follows (by kernel_rfl) (of_decide_eq_true (by kernel_rfl)) ?_
  have he : (e0A R).erase = body := by kernel_rfl
  rw [← he]
  refine acpt_sound (P := P) (e0A R) _ _ _ ⟨(fun ρ m h => l1_ok  R ρ m h), True.intro⟩ ?_
  exact Eq.mp (e0_eq p_0 last_1a last_1l last_1c first_2a first_2l first_2c R m) h
end place_Places_links
/-! ### eyot/place.also -/
namespace place_also
noncomputable def fn : Func := Go.Proofs.Try.f32
noncomputable def body : Code := fn.body.getD .skip
def od : Nat → Ord := fun _ => .done
def tb : Nat → Tab := fun _ => (0, [], [])
def e0 (a_0a : Option Addr) (a_0l : Nat) (a_0c : Nat) (b_1a : Option Addr) (b_1l : Nat) (b_1c : Nat) (R : Ending → Mem → Prop) (m : Mem) : Prop :=
 NewC m #[.slice a_0a a_0l a_0c, .slice b_1a b_1l b_1c] T_sl_int fun b8 m1 =>
 HC P slices_Concat_s_int_int.id #[.slice (some ⟨b8, 0, none⟩) 2 2] m1 (Cont (fun v m2 =>
   UnS v fun x9a x9l x9c =>
   HC P slices_Sort_s_int_int.id #[.slice x9a x9l x9c] m2 (Cont (fun v m3 =>
     UnTup v fun us0 =>
     UnNil us0 (
      HC P slices_Compact_s_int_int.id #[.slice x9a x9l x9c] m3 (Cont (fun v m4 =>
        UnS v fun x13a x13l x13c =>
        R (.returned (.slice x13a x13l x13c)) m4) (panicR R)))) (panicR R))) (panicR R))
noncomputable def e0A (R : Ending → Mem → Prop) : ACode := (.code (body))
theorem e0_eq (a_0a : Option Addr) (a_0l : Nat) (a_0c : Nat) (b_1a : Option Addr) (b_1l : Nat) (b_1c : Nat) (R : Ending → Mem → Prop) (m : Mem) : e0 a_0a a_0l a_0c b_1a b_1l b_1c R m = acpt P od (panicR R) (e0A R) (bodyQ P fn R) (argE (#[.slice a_0a a_0l a_0c, .slice b_1a b_1l b_1c] : Array Value).toList) m := by kernel_rfl
theorem ok (a_0a : Option Addr) (a_0l : Nat) (a_0c : Nat) (b_1a : Option Addr) (b_1l : Nat) (b_1c : Nat) (R : Ending → Mem → Prop) (m : Mem) (h : e0 a_0a a_0l a_0c b_1a b_1l b_1c R m) : HC P id #[.slice a_0a a_0l a_0c, .slice b_1a b_1l b_1c] m R := by
  refine HC_of (fn := fn) (c := body) (od := od) (tb := tb) Go.Proofs.Try.func32 (by kernel_rfl) (by kernel_rfl) follows (by kernel_rfl) (of_decide_eq_true (by kernel_rfl)) ?_
  have he : (e0A R).erase = body := by kernel_rfl
  rw [← he]
  refine acpt_sound (P := P) (e0A R) _ _ _ True.intro ?_
  exact Eq.mp (e0_eq a_0a a_0l a_0c b_1a b_1l b_1c R m) h
end place_also
end
end Go.E
set_option linter.unusedVariables false
set_option maxRecDepth 100000
namespace Go.E
open Go.H
noncomputable section
/-! ### eyot/eyotref8.form -/
namespace eyotref8_form
noncomputable def fn : Func := Go.Proofs.Try.f33
noncomputable def body : Code := fn.body.getD .skip
def od : Nat → Ord := fun | 17 => ordL [(0, 3), (1, 1), (2, 3), (3, 3), (4, 0), (5, 0), (6, 3), (7, 3), (8, 3), (9, 1), (10, 3), (11, 3), (12, 3), (13, 1), (14, 3), (15, 0), (16, 3), (17, 3)] .done | _ => .done
def tb : Nat → Tab := fun | 17 => (0, [0, 1, 0, 7, 15, 31, 63, 127, 255, 511, 255, 2047, 4095, 8191, 255, 16639, 65535, 131071], [(0, 2, 49), (1, 281474976710656, 50), (0, 8, 51), (6, 1688849860263936, 52), (8, 2251799813685248, 53), (16, 4503599627370496, 54), (32, 9007199254740992, 55), (96, 18014398509481984, 56), (128, 36028797018963970, 57), (384, 108086391056891904, 58), (128, 36028797018963976, 59), (1664, 468374361246531584, 60), (2176, 612489549322387456, 61), (4224, 1188950301625810944, 62), (128, 36028797018963970, 63), (16512, 4647714815446351872, 64), (41088, 11565243843087433728, 65), (65664, 18482772870728515584, 66)]) | _ => (0, [], [])
def k4E (K : Nat → Nat → Mem → Prop) : Env → Mem → Prop := fun ρ m => UnPA (ρ 1) fun r_1b r_1o => K r_1b r_1o m
def k4  (r_1b : Nat) (r_1o : Nat) (R : Ending → Mem → Prop) (m : Mem) : Prop :=
 LdV m r_1b (r_1o + 1) fun v =>
 UnI v .u64 fun x67_0 =>
 LdV m r_1b ((r_1o + 1) + 1) fun v =>
 UnI v .u64 fun x67_1 =>
 LdV m r_1b ((r_1o + 1) + 2) fun v =>
 UnI v .u64 fun x67_2 =>
 LdV m r_1b ((r_1o + 1) + 3) fun v =>
 UnI v .u64 fun x67_3 =>
 HC P eyotref8_Empty.id #[.agg #[.int .u64 x67_0, .int .u64 x67_1, .int .u64 x67_2, .int .u64 x67_3]] m (Cont (fun v m1 =>
   UnB v fun x68 =>
   R (.returned (.bool x68)) m1) (panicR R))
noncomputable def k4A  (R : Ending → Mem → Prop) : ACode := (.code (sR (sR (sR (body)))))
def l3E (K : Nat → Nat → Int → Mem → Prop) : Env → Mem → Prop := fun ρ m => UnPA (ρ 1) fun r_1b r_1o => UnI (ρ 3) .i64 fun i_3 => K r_1b r_1o i_3 m
def l3B  (K3 : Nat → Nat → Int → Mem → Prop) (r_1b : Nat) (r_1o : Nat) (i_3 : Int) (R : Ending → Mem → Prop) (m : Mem) : Prop :=
 LdV m r_1b (r_1o + 5) fun v =>
 UnS v fun x43a x43l x43c =>
 Br (decide (i_3 < ((x43l : Nat) : Int))) (
  Sub m fun r1 =>
  LdV r1 r_1b (r_1o + 5) fun v =>
  UnS v fun x49a x49l x49c =>
  IxS x49a x49l i_3 6 fun x51b x51o =>
  LdV m x51b x51o fun v =>
  UnI v .i64 fun x52_0 =>
  LdV m x51b (x51o + 1) fun v =>
  UnI v .u64 fun x52_1 =>
  LdV m x51b (x51o + 2) fun v =>
  UnI v .u64 fun x52_2 =>
  LdV m x51b (x51o + 3) fun v =>
  UnI v .u64 fun x52_3 =>
  LdV m x51b (x51o + 4) fun v =>
  UnI v .u64 fun x52_4 =>
  LdV m x51b (x51o + 5) fun v =>
  UnS v fun x52_5a x52_5l x52_5c =>
  HC P eyotref8_form.id #[.agg #[.int .i64 x52_0, .int .u64 x52_1, .int .u64 x52_2, .int .u64 x52_3, .int .u64 x52_4, .slice x52_5a x52_5l x52_5c]] m (Cont (fun v m2 =>
    UnB v fun x53 =>
    Lk r1 m2 fun r3 =>
    Br (!x53) (
     R (.returned (.bool false)) m2) (
     LdV r3 r_1b (r_1o + 5) fun v =>
     UnS v fun x57a x57l x57c =>
     IxS x57a x57l i_3 6 fun x59b x59o =>
     LdV r3 x59b x59o fun v =>
     UnI v .i64 fun x61 =>
     LdV m2 r_1b r_1o fun v =>
     UnI v .i64 fun x63 =>
     Br (x61 == x63) (
      R (.returned (.bool false)) m2) (
      K3 r_1b r_1o (IntKind.i64.wrap (i_3 + 1)) m2))) (panicR R))) (
  k4  r_1b r_1o R m)
def l3  (r_1b : Nat) (r_1o : Nat) (i_3 : Int) (R : Ending → Mem → Prop) (m : Mem) : Prop :=
  ∃ (I : Nat → Nat → Nat → Int → Mem → Prop) (N : Nat), I N r_1b r_1o i_3 m ∧ ∀ N r_1b r_1o i_3 m, I N r_1b r_1o i_3 m → l3B  (fun r_1b r_1o i_3 m => ∃ N1, N1 < N ∧ I N1 r_1b r_1o i_3 m) r_1b r_1o i_3 R m
noncomputable def l3A  (K3 : Nat → Nat → Int → Mem → Prop) (R : Ending → Mem → Prop) : ACode := (.code (lP (bB (sR (sL (sR (sR (body))))))))
def k2E (K : Nat → Nat → Mem → Prop) : Env → Mem → Prop := fun ρ m => UnPA (ρ 1) fun r_1b r_1o => K r_1b r_1o m
def k2  (r_1b : Nat) (r_1o : Nat) (R : Ending → Mem → Prop) (m : Mem) : Prop :=
 l3  r_1b r_1o 0 R m
noncomputable def k2A  (R : Ending → Mem → Prop) : ACode := (.seq (.seq (.code (sL (sL (sR (sR (body)))))) (.block 1 (.cut (l3E fun r_1b r_1o i_3 m => l3  r_1b r_1o i_3 R m) (.loop (lP (bB (sR (sL (sR (sR (body))))))))))) (.cut (k4E fun r_1b r_1o m => k4  r_1b r_1o R m) (sR (sR (sR (body))))))
def k5E (K : Nat → Nat → Bool → Mem → Prop) : Env → Mem → Prop := fun ρ m => UnPA (ρ 1) fun r_1b r_1o => UnB (ρ 25) fun x25 => K r_1b r_1o x25 m
def k5  (r_1b : Nat) (r_1o : Nat) (x25 : Bool) (R : Ending → Mem → Prop) (m : Mem) : Prop :=
 Br x25 (
  LdV m r_1b (r_1o + 5) fun v =>
  UnS v fun x30a x30l x30c =>
  Br (((x30l : Nat) : Int) != 1) (
   R (.returned (.bool false)) m) (
   LdV m r_1b (r_1o + 5) fun v =>
   UnS v fun x35a x35l x35c =>
   IxS x35a x35l 0 6 fun x36b x36o =>
   LdV m x36b x36o fun v =>
   UnI v .i64 fun x38 =>
   Br (decide (x38 ≥ 4)) (
    R (.returned (.bool false)) m) (
    k2  r_1b r_1o R m))) (
  R (.returned (.bool false)) m)
noncomputable def k5A  (R : Ending → Mem → Prop) : ACode := (.code (sR (cE (sR (cE (sR (bB (sR (sL (sR (body)))))))))))
def k1E (K : Nat → Nat → Int → Bool → Mem → Prop) : Env → Mem → Prop := fun ρ m => UnPA (ρ 1) fun r_1b r_1o => UnI (ρ 5) .i64 fun x5 => UnB (ρ 18) fun x18 => K r_1b r_1o x5 x18 m
def k1  (r_1b : Nat) (r_1o : Nat) (x5 : Int) (x18 : Bool) (R : Ending → Mem → Prop) (m : Mem) : Prop :=
 Br x18 (
  LdV m r_1b (r_1o + 5) fun v =>
  UnS v fun x22a x22l x22c =>
  Br (decide (((x22l : Nat) : Int) < 2)) (
   R (.returned (.bool false)) m) (
   k2  r_1b r_1o R m)) (
  Br (x5 == 4) (
   k5  r_1b r_1o true R m) (
   Br (x5 == 5) (
    k5  r_1b r_1o true R m) (
    k5  r_1b r_1o (x5 == 6) R m)))
noncomputable def k1A  (R : Ending → Mem → Prop) : ACode := (.cond (.tmp 18) (.code (cT (sR (cE (sR (bB (sR (sL (sR (body)))))))))) (.seq (.code (sL (cE (sR (cE (sR (bB (sR (sL (sR (body))))))))))) (.cut (k5E fun r_1b r_1o x25 m => k5  r_1b r_1o x25 R m) (sR (cE (sR (cE (sR (bB (sR (sL (sR (body)))))))))))))
def e0 (r_0_0 : Int) (r_0_1 : Int) (r_0_2 : Int) (r_0_3 : Int) (r_0_4 : Int) (r_0_5a : Option Addr) (r_0_5l : Nat) (r_0_5c : Nat) (R : Ending → Mem → Prop) (m : Mem) : Prop :=
 NewC m #[.int .i64 r_0_0, .int .u64 r_0_1, .int .u64 r_0_2, .int .u64 r_0_3, .int .u64 r_0_4, .slice r_0_5a r_0_5l r_0_5c] T_api_Rx fun b_r_1 m1 =>
 LdV m1 b_r_1 0 fun v =>
 UnI v .i64 fun x5 =>
 Br (x5 == 1) (
  LdV m1 b_r_1 5 fun v =>
  UnS v fun x9a x9l x9c =>
  Br (((x9l : Nat) : Int) == 0) (
   LdV m1 b_r_1 1 fun v =>
   UnI v .u64 fun x14_0 =>
   LdV m1 b_r_1 2 fun v =>
   UnI v .u64 fun x14_1 =>
   LdV m1 b_r_1 3 fun v =>
   UnI v .u64 fun x14_2 =>
   LdV m1 b_r_1 4 fun v =>
   UnI v .u64 fun x14_3 =>
   HC P eyotref8_Empty.id #[.agg #[.int .u64 x14_0, .int .u64 x14_1, .int .u64 x14_2, .int .u64 x14_3]] m1 (Cont (fun v m2 =>
     UnB v fun x15 =>
     R (.returned (.bool (!x15))) m2) (panicR R))) (
   R (.returned (.bool false)) m1)) (
  Br (x5 == 2) (
   k1  b_r_1 0 x5 true R m1) (
   k1  b_r_1 0 x5 (x5 == 3) R m1))
noncomputable def e0A (R : Ending → Mem → Prop) : ACode := (.seq (.code (sL (body))) (.seq (.seq (.code (sL (sL (sR (body))))) (.block 0 (.seq (.code (sL (bB (sR (sL (sR (body))))))) (.cond (.tmp 6) (.code (cT (sR (bB (sR (sL (sR (body)))))))) (.seq (.code (sL (cE (sR (bB (sR (sL (sR (body))))))))) (.cut (k1E fun r_1b r_1o x5 x18 m => k1  r_1b r_1o x5 x18 R m) (sR (cE (sR (bB (sR (sL (sR (body)))))))))))))) (.cut (k2E fun r_1b r_1o m => k2  r_1b r_1o R m) (sR (sR (body))))))
abbrev k2Q  (R : Ending → Mem → Prop) : Exit → Env → Mem → Prop := (bodyQ P fn R)
abbrev k4Q  (R : Ending → Mem → Prop) : Exit → Env → Mem → Prop := (k2Q  R)
abbrev l3Q  (R : Ending → Mem → Prop) : Exit → Env → Mem → Prop := (blockQ 1 (thenQ (acpt P od (panicR R) (.cut (k4E fun r_1b r_1o m => k4  r_1b r_1o R m) (sR (sR (sR (body))))) (k2Q  R)) (k2Q  R)))
abbrev k1Q  (R : Ending → Mem → Prop) : Exit → Env → Mem → Prop := (blockQ 0 (thenQ (acpt P od (panicR R) (.cut (k2E fun r_1b r_1o m => k2  r_1b r_1o R m) (sR (sR (body)))) (bodyQ P fn R)) (bodyQ P fn R)))
abbrev k5Q  (R : Ending → Mem → Prop) : Exit → Env → Mem → Prop := (k1Q  R)
theorem k4_eq  (R : Ending → Mem → Prop) (r_1b : Nat) (r_1o : Nat) (ρ : Env) (m : Mem) : k4  r_1b r_1o R m = acpt P od (panicR R) (k4A  R) (k4Q  R) (upd ρ 1 (.pointer (some ⟨r_1b, r_1o, none⟩))) m := by kernel_rfl
theorem k4_er  (R : Ending → Mem → Prop) : (k4A  R).erase = sR (sR (sR (body))) := by kernel_rfl
theorem k4_ok  (R : Ending → Mem → Prop) (ρ : Env) (m : Mem) (h : (k4E fun r_1b r_1o m => k4  r_1b r_1o R m) ρ m) : cpt P od (panicR R) (sR (sR (sR (body)))) (k4Q  R) ρ m := by
  unfold k4E at h
  obtain ⟨r_1b, r_1o, e1, h⟩ := h.ex
  rw [← upd_self e1]
  rw [← k4_er  R]
  refine acpt_sound (P := P) (k4A  R) _ _ _ True.intro ?_
  exact Eq.mp (k4_eq  R r_1b r_1o ρ m) h
theorem l3_eq  (K3 : Nat → Nat → Int → Mem → Prop) (R : Ending → Mem → Prop) (r_1b : Nat) (r_1o : Nat) (i_3 : Int) (ρ : Env) (m : Mem) : l3B  K3 r_1b r_1o i_3 R m = acpt P od (panicR R) (l3A  K3 R) (thenQ (l3E K3) (l3Q  R)) (upd (upd ρ 3 (.int .i64 i_3)) 1 (.pointer (some ⟨r_1b, r_1o, none⟩))) m := by kernel_rfl
theorem l3_er  (K3 : Nat → Nat → Int → Mem → Prop) (R : Ending → Mem → Prop) : (l3A  K3 R).erase = lP (bB (sR (sL (sR (sR (body)))))) := by kernel_rfl
theorem l3_ok  (R : Ending → Mem → Prop) (ρ : Env) (m : Mem) (h : (l3E fun r_1b r_1o i_3 m => l3  r_1b r_1o i_3 R m) ρ m) : cpt P od (panicR R) (.loop (lP (bB (sR (sL (sR (sR (body)))))))) (l3Q  R) ρ m := by
  unfold l3E at h
  obtain ⟨r_1b, r_1o, e1, h⟩ := h.ex
  obtain ⟨i_3, e3, h⟩ := h.ex
  obtain ⟨I, N, h0, hs⟩ := h
  refine ⟨fun N => l3E (I N), N, (by show l3E (I N) ρ m; unfold l3E; rw [e1, e3]; exact h0), ?_⟩
  clear h0 e1 e3
  intro N ρ m h
  unfold l3E at h
  obtain ⟨r_1b, r_1o, e1, h⟩ := h.ex
  obtain ⟨i_3, e3, h⟩ := h.ex
  refine cpt_mono (P := P) (lP (bB (sR (sL (sR (sR (body))))))) (Q := thenQ (l3E fun r_1b r_1o i_3 m => ∃ N1, N1 < N ∧ I N1 r_1b r_1o i_3 m) (l3Q  R)) (fun e ρ m h => ?_) ρ m ?_
  · cases e with
    | normal =>
      have h : l3E (fun r_1b r_1o i_3 m => ∃ N1, N1 < N ∧ I N1 r_1b r_1o i_3 m) ρ m := h
      unfold l3E at h
      obtain ⟨r_1b, r_1o, e1, h⟩ := h.ex
      obtain ⟨i_3, e3, h⟩ := h.ex
      obtain ⟨N1, hlt, h⟩ := h
      exact ⟨N1, hlt, (by show l3E (I N1) ρ m; unfold l3E; rw [e1, e3]; exact h)⟩
    | _ => exact h
  have hh := hs N r_1b r_1o i_3 m h
  generalize (fun r_1b r_1o i_3 m => ∃ N1, N1 < N ∧ I N1 r_1b r_1o i_3 m : Nat → Nat → Int → Mem → Prop) = K3 at hh ⊢
  rw [← upd_self e1, ← upd_self e3]
  rw [← l3_er  K3 R]
  refine acpt_sound (P := P) (l3A  K3 R) _ _ _ True.intro ?_
  exact Eq.mp (l3_eq  K3 R r_1b r_1o i_3 ρ m) hh
theorem k2_eq  (R : Ending → Mem → Prop) (r_1b : Nat) (r_1o : Nat) (ρ : Env) (m : Mem) : k2  r_1b r_1o R m = acpt P od (panicR R) (k2A  R) (k2Q  R) (upd ρ 1 (.pointer (some ⟨r_1b, r_1o, none⟩))) m := by kernel_rfl
theorem k2_er  (R : Ending → Mem → Prop) : (k2A  R).erase = sR (sR (body)) := by kernel_rfl
theorem k2_ok  (R : Ending → Mem → Prop) (ρ : Env) (m : Mem) (h : (k2E fun r_1b r_1o m => k2  r_1b r_1o R m) ρ m) : cpt P od (panicR R) (sR (sR (body))) (k2Q  R) ρ m := by
  unfold k2E at h
  obtain ⟨r_1b, r_1o, e1, h⟩ := h.ex
  rw [← upd_self e1]
  rw [← k2_er  R]
  refine acpt_sound (P := P) (k2A  R) _ _ _ ⟨(fun ρ m h => k4_ok  R ρ m h), ⟨(fun ρ m h => l3_ok  R ρ m h), True.intro⟩⟩ ?_
  exact Eq.mp (k2_eq  R r_1b r_1o ρ m) h
theorem k5_eq  (R : Ending → Mem → Prop) (r_1b : Nat) (r_1o : Nat) (x25 : Bool) (ρ : Env) (m : Mem) : k5  r_1b r_1o x25 R m = acpt P od (panicR R) (k5A  R) (k5Q  R) (upd (upd ρ 25 (.bool x25)) 1 (.pointer (some ⟨r_1b, r_1o, none⟩))) m := by kernel_rfl
theorem k5_er  (R : Ending → Mem → Prop) : (k5A  R).erase = sR (cE (sR (cE (sR (bB (sR (sL (sR (body))))))))) := by kernel_rfl
theorem k5_ok  (R : Ending → Mem → Prop) (ρ : Env) (m : Mem) (h : (k5E fun r_1b r_1o x25 m => k5  r_1b r_1o x25 R m) ρ m) : cpt P od (panicR R) (sR (cE (sR (cE (sR (bB (sR (sL (sR (body)))))))))) (k5Q  R) ρ m := by
  unfold k5E at h
  obtain ⟨r_1b, r_1o, e1, h⟩ := h.ex
  obtain ⟨x25, e25, h⟩ := h.ex
  rw [← upd_self e1, ← upd_self e25]
  rw [← k5_er  R]
  refine acpt_sound (P := P) (k5A  R) _ _ _ True.intro ?_
  exact Eq.mp (k5_eq  R r_1b r_1o x25 ρ m) h
theorem k1_eq  (R : Ending → Mem → Prop) (r_1b : Nat) (r_1o : Nat) (x5 : Int) (x18 : Bool) (ρ : Env) (m : Mem) : k1  r_1b r_1o x5 x18 R m = acpt P od (panicR R) (k1A  R) (k1Q  R) (upd (upd (upd ρ 18 (.bool x18)) 5 (.int .i64 x5)) 1 (.pointer (some ⟨r_1b, r_1o, none⟩))) m := by kernel_rfl
theorem k1_er  (R : Ending → Mem → Prop) : (k1A  R).erase = sR (cE (sR (bB (sR (sL (sR (body))))))) := by kernel_rfl
theorem k1_ok  (R : Ending → Mem → Prop) (ρ : Env) (m : Mem) (h : (k1E fun r_1b r_1o x5 x18 m => k1  r_1b r_1o x5 x18 R m) ρ m) : cpt P od (panicR R) (sR (cE (sR (bB (sR (sL (sR (body)))))))) (k1Q  R) ρ m := by
  unfold k1E at h
  obtain ⟨r_1b, r_1o, e1, h⟩ := h.ex
  obtain ⟨x5, e5, h⟩ := h.ex
  obtain ⟨x18, e18, h⟩ := h.ex
  rw [← upd_self e1, ← upd_self e5, ← upd_self e18]
  rw [← k1_er  R]
  refine acpt_sound (P := P) (k1A  R) _ _ _ ⟨True.intro, ⟨(fun ρ m h => k5_ok  R ρ m h), True.intro⟩⟩ ?_
  exact Eq.mp (k1_eq  R r_1b r_1o x5 x18 ρ m) h
theorem e0_eq (r_0_0 : Int) (r_0_1 : Int) (r_0_2 : Int) (r_0_3 : Int) (r_0_4 : Int) (r_0_5a : Option Addr) (r_0_5l : Nat) (r_0_5c : Nat) (R : Ending → Mem → Prop) (m : Mem) : e0 r_0_0 r_0_1 r_0_2 r_0_3 r_0_4 r_0_5a r_0_5l r_0_5c R m = acpt P od (panicR R) (e0A R) (bodyQ P fn R) (argE (#[.agg #[.int .i64 r_0_0, .int .u64 r_0_1, .int .u64 r_0_2, .int .u64 r_0_3, .int .u64 r_0_4, .slice r_0_5a r_0_5l r_0_5c]] : Array Value).toList) m := by kernel_rfl
theorem ok (r_0_0 : Int) (r_0_1 : Int) (r_0_2 : Int) (r_0_3 : Int) (r_0_4 : Int) (r_0_5a : Option Addr) (r_0_5l : Nat) (r_0_5c : Nat) (R : Ending → Mem → Prop) (m : Mem) (h : e0 r_0_0 r_0_1 r_0_2 r_0_3 r_0_4 r_0_5a r_0_5l r_0_5c R m) : HC P id #[.agg #[.int .i64 r_0_0, .int .u64 r_0_1, .int .u64 r_0_2, .int .u64 r_0_3, .int .u64 r_0_4, .slice r_0_5a r_0_5l r_0_5c]] m R := by
  refine HC_of (fn := fn) (c := body) (od := od) (tb := tb) Go.Proofs.Try.func33 (by kernel_rfl) (by kernel_rfl) follows (by kernel_rfl) (of_decide_eq_true (by kernel_rfl)) ?_
  have he : (e0A R).erase = body := by kernel_rfl
  rw [← he]
  refine acpt_sound (P := P) (e0A R) _ _ _ ⟨⟨(fun ρ m h => k2_ok  R ρ m h), ⟨⟨⟨True.intro, ⟨(fun ρ m h => k1_ok  R ρ m h), True.intro⟩⟩, True.intro⟩, True.intro⟩⟩, True.intro⟩ ?_
  exact Eq.mp (e0_eq r_0_0 r_0_1 r_0_2 r_0_3 r_0_4 r_0_5a r_0_5l r_0_5c R m) h
end eyotref8_form
/-! ### eyot/eyotref8.nodes -/
namespace eyotref8_nodes
noncomputable def fn : Func := Go.Proofs.Try.f34
noncomputable def body : Code := fn.body.getD .skip
def od : Nat → Ord := fun _ => .done
def tb : Nat → Tab := fun _ => (0, [], [])
def l1E (K : Nat → Nat → Int → Int → Mem → Prop) : Env → Mem → Prop := fun ρ m => UnPA (ρ 1) fun r_1b r_1o => UnI (ρ 3) .i64 fun n_3 => UnI (ρ 4) .i64 fun i_4 => K r_1b r_1o n_3 i_4 m
def l1B  (K1 : Nat → Nat → Int → Int → Mem → Prop) (r_1b : Nat) (r_1o : Nat) (n_3 : Int) (i_4 : Int) (R : Ending → Mem → Prop) (m : Mem) : Prop :=
 LdV m r_1b (r_1o + 5) fun v =>
 UnS v fun x7a x7l x7c =>
 Br (decide (i_4 < ((x7l : Nat) : Int))) (
  LdV m r_1b (r_1o + 5) fun v =>
  UnS v fun x14a x14l x14c =>
  IxS x14a x14l i_4 6 fun x16b x16o =>
  LdV m x16b x16o fun v =>
  UnI v .i64 fun x17_0 =>
  LdV m x16b (x16o + 1) fun v =>
  UnI v .u64 fun x17_1 =>
  LdV m x16b (x16o + 2) fun v =>
  UnI v .u64 fun x17_2 =>
  LdV m x16b (x16o + 3) fun v =>
  UnI v .u64 fun x17_3 =>
  LdV m x16b (x16o + 4) fun v =>
  UnI v .u64 fun x17_4 =>
  LdV m x16b (x16o + 5) fun v =>
  UnS v fun x17_5a x17_5l x17_5c =>
  HC P eyotref8_nodes.id #[.agg #[.int .i64 x17_0, .int .u64 x17_1, .int .u64 x17_2, .int .u64 x17_3, .int .u64 x17_4, .slice x17_5a x17_5l x17_5c]] m (Cont (fun v m1 =>
    UnI v .i64 fun x18 =>
    K1 r_1b r_1o (IntKind.i64.wrap (n_3 + x18)) (IntKind.i64.wrap (i_4 + 1)) m1) (panicR R))) (
  R (.returned (.int .i64 n_3)) m)
def l1  (r_1b : Nat) (r_1o : Nat) (n_3 : Int) (i_4 : Int) (R : Ending → Mem → Prop) (m : Mem) : Prop :=
  ∃ (I : Nat → Nat → Nat → Int → Int → Mem → Prop) (N : Nat), I N r_1b r_1o n_3 i_4 m ∧ ∀ N r_1b r_1o n_3 i_4 m, I N r_1b r_1o n_3 i_4 m → l1B  (fun r_1b r_1o n_3 i_4 m => ∃ N1, N1 < N ∧ I N1 r_1b r_1o n_3 i_4 m) r_1b r_1o n_3 i_4 R m
noncomputable def l1A  (K1 : Nat → Nat → Int → Int → Mem → Prop) (R : Ending → Mem → Prop) : ACode := (.code (lP (bB (sR (sL (sR (sR (body))))))))
def e0 (r_0_0 : Int) (r_0_1 : Int) (r_0_2 : Int) (r_0_3 : Int) (r_0_4 : Int) (r_0_5a : Option Addr) (r_0_5l : Nat) (r_0_5c : Nat) (R : Ending → Mem → Prop) (m : Mem) : Prop :=
 NewC m #[.int .i64 r_0_0, .int .u64 r_0_1, .int .u64 r_0_2, .int .u64 r_0_3, .int .u64 r_0_4, .slice r_0_5a r_0_5l r_0_5c] T_api_Rx fun b_r_1 m1 =>
 l1  b_r_1 0 1 0 R m1
noncomputable def e0A (R : Ending → Mem → Prop) : ACode := (.seq (.code (sL (body))) (.seq (.code (sL (sR (body)))) (.seq (.seq (.code (sL (sL (sR (sR (body)))))) (.block 0 (.cut (l1E fun r_1b r_1o n_3 i_4 m => l1  r_1b r_1o n_3 i_4 R m) (.loop (lP (bB (sR (sL (sR (sR (body))))))))))) (.code (sR (sR (sR (body))))))))
abbrev l1Q  (R : Ending → Mem → Prop) : Exit → Env → Mem → Prop := (blockQ 0 (thenQ (acpt P od (panicR R) (.code (sR (sR (sR (body))))) (bodyQ P fn R)) (bodyQ P fn R)))
theorem l1_eq  (K1 : Nat → Nat → Int → Int → Mem → Prop) (R : Ending → Mem → Prop) (r_1b : Nat) (r_1o : Nat) (n_3 : Int) (i_4 : Int) (ρ : Env) (m : Mem) : l1B  K1 r_1b r_1o n_3 i_4 R m = acpt P od (panicR R) (l1A  K1 R) (thenQ (l1E K1) (l1Q  R)) (upd (upd (upd ρ 4 (.int .i64 i_4)) 3 (.int .i64 n_3)) 1 (.pointer (some ⟨r_1b, r_1o, none⟩))) m := by kernel_rfl
theorem l1_er  (K1 : Nat → Nat → Int → Int → Mem → Prop) (R : Ending → Mem → Prop) : (l1A  K1 R).erase = lP (bB (sR (sL (sR (sR (body)))))) := by kernel_rfl
theorem l1_ok  (R : Ending → Mem → Prop) (ρ : Env) (m : Mem) (h : (l1E fun r_1b r_1o n_3 i_4 m => l1  r_1b r_1o n_3 i_4 R m) ρ m) : cpt P od (panicR R) (.loop (lP (bB (sR (sL (sR (sR (body)))))))) (l1Q  R) ρ m := by
  unfold l1E at h
  obtain ⟨r_1b, r_1o, e1, h⟩ := h.ex
  obtain ⟨n_3, e3, h⟩ := h.ex
  obtain ⟨i_4, e4, h⟩ := h.ex
  obtain ⟨I, N, h0, hs⟩ := h
  refine ⟨fun N => l1E (I N), N, (by show l1E (I N) ρ m; unfold l1E; rw [e1, e3, e4]; exact h0), ?_⟩
  clear h0 e1 e3 e4
  intro N ρ m h
  unfold l1E at h
  obtain ⟨r_1b, r_1o, e1, h⟩ := h.ex
  obtain ⟨n_3, e3, h⟩ := h.ex
  obtain ⟨i_4, e4, h⟩ := h.ex
  refine cpt_mono (P := P) (lP (bB (sR (sL (sR (sR (body))))))) (Q := thenQ (l1E fun r_1b r_1o n_3 i_4 m => ∃ N1, N1 < N ∧ I N1 r_1b r_1o n_3 i_4 m) (l1Q  R)) (fun e ρ m h => ?_) ρ m ?_
  · cases e with
    | normal =>
      have h : l1E (fun r_1b r_1o n_3 i_4 m => ∃ N1, N1 < N ∧ I N1 r_1b r_1o n_3 i_4 m) ρ m := h
      unfold l1E at h
      obtain ⟨r_1b, r_1o, e1, h⟩ := h.ex
      obtain ⟨n_3, e3, h⟩ := h.ex
      obtain ⟨i_4, e4, h⟩ := h.ex
      obtain ⟨N1, hlt, h⟩ := h
      exact ⟨N1, hlt, (by show l1E (I N1) ρ m; unfold l1E; rw [e1, e3, e4]; exact h)⟩
    | _ => exact h
  have hh := hs N r_1b r_1o n_3 i_4 m h
  generalize (fun r_1b r_1o n_3 i_4 m => ∃ N1, N1 < N ∧ I N1 r_1b r_1o n_3 i_4 m : Nat → Nat → Int → Int → Mem → Prop) = K1 at hh ⊢
  rw [← upd_self e1, ← upd_self e3, ← upd_self e4]
  rw [← l1_er  K1 R]
  refine acpt_sound (P := P) (l1A  K1 R) _ _ _ True.intro ?_
  exact Eq.mp (l1_eq  K1 R r_1b r_1o n_3 i_4 ρ m) hh
theorem e0_eq (r_0_0 : Int) (r_0_1 : Int) (r_0_2 : Int) (r_0_3 : Int) (r_0_4 : Int) (r_0_5a : Option Addr) (r_0_5l : Nat) (r_0_5c : Nat) (R : Ending → Mem → Prop) (m : Mem) : e0 r_0_0 r_0_1 r_0_2 r_0_3 r_0_4 r_0_5a r_0_5l r_0_5c R m = acpt P od (panicR R) (e0A R) (bodyQ P fn R) (argE (#[.agg #[.int .i64 r_0_0, .int .u64 r_0_1, .int .u64 r_0_2, .int .u64 r_0_3, .int .u64 r_0_4, .slice r_0_5a r_0_5l r_0_5c]] : Array Value).toList) m := by kernel_rfl
theorem ok (r_0_0 : Int) (r_0_1 : Int) (r_0_2 : Int) (r_0_3 : Int) (r_0_4 : Int) (r_0_5a : Option Addr) (r_0_5l : Nat) (r_0_5c : Nat) (R : Ending → Mem → Prop) (m : Mem) (h : e0 r_0_0 r_0_1 r_0_2 r_0_3 r_0_4 r_0_5a r_0_5l r_0_5c R m) : HC P id #[.agg #[.int .i64 r_0_0, .int .u64 r_0_1, .int .u64 r_0_2, .int .u64 r_0_3, .int .u64 r_0_4, .slice r_0_5a r_0_5l r_0_5c]] m R := by
  refine HC_of (fn := fn) (c := body) (od := od) (tb := tb) Go.Proofs.Try.func34 (by kernel_rfl) (by kernel_rfl) follows (by kernel_rfl) (of_decide_eq_true (by kernel_rfl)) ?_
  have he : (e0A R).erase = body := by kernel_rfl
  rw [← he]
  refine acpt_sound (P := P) (e0A R) _ _ _ ⟨⟨⟨True.intro, ⟨(fun ρ m h => l1_ok  R ρ m h), True.intro⟩⟩, True.intro⟩, True.intro⟩ ?_
  exact Eq.mp (e0_eq r_0_0 r_0_1 r_0_2 r_0_3 r_0_4 r_0_5a r_0_5l r_0_5c R m) h
end eyotref8_nodes
/-! ### eyot/eyotref8.depth -/
namespace eyotref8_depth
noncomputable def fn : Func := Go.Proofs.Try.f35
noncomputable def body : Code := fn.body.getD .skip
def od : Nat → Ord := fun _ => .done
def tb : Nat → Tab := fun _ => (0, [], [])
def l1E (K : Nat → Nat → Int → Int → Mem → Prop) : Env → Mem → Prop := fun ρ m => UnPA (ρ 1) fun r_1b r_1o => UnI (ρ 3) .i64 fun n_3 => UnI (ρ 4) .i64 fun i_4 => K r_1b r_1o n_3 i_4 m
def l1B  (K1 : Nat → Nat → Int → Int → Mem → Prop) (r_1b : Nat) (r_1o : Nat) (n_3 : Int) (i_4 : Int) (R : Ending → Mem → Prop) (m : Mem) : Prop :=
 LdV m r_1b (r_1o + 5) fun v =>
 UnS v fun x7a x7l x7c =>
 Br (decide (i_4 < ((x7l : Nat) : Int))) (
  LdV m r_1b (r_1o + 5) fun v =>
  UnS v fun x14a x14l x14c =>
  IxS x14a x14l i_4 6 fun x16b x16o =>
  LdV m x16b x16o fun v =>
  UnI v .i64 fun x17_0 =>
  LdV m x16b (x16o + 1) fun v =>
  UnI v .u64 fun x17_1 =>
  LdV m x16b (x16o + 2) fun v =>
  UnI v .u64 fun x17_2 =>
  LdV m x16b (x16o + 3) fun v =>
  UnI v .u64 fun x17_3 =>
  LdV m x16b (x16o + 4) fun v =>
  UnI v .u64 fun x17_4 =>
  LdV m x16b (x16o + 5) fun v =>
  UnS v fun x17_5a x17_5l x17_5c =>
  HC P eyotref8_depth.id #[.agg #[.int .i64 x17_0, .int .u64 x17_1, .int .u64 x17_2, .int .u64 x17_3, .int .u64 x17_4, .slice x17_5a x17_5l x17_5c]] m (Cont (fun v m1 =>
    UnI v .i64 fun x18 =>
    K1 r_1b r_1o (if x18 > n_3 then x18 else n_3) (IntKind.i64.wrap (i_4 + 1)) m1) (panicR R))) (
  R (.returned (.int .i64 (IntKind.i64.wrap (n_3 + 1)))) m)
def l1  (r_1b : Nat) (r_1o : Nat) (n_3 : Int) (i_4 : Int) (R : Ending → Mem → Prop) (m : Mem) : Prop :=
  ∃ (I : Nat → Nat → Nat → Int → Int → Mem → Prop) (N : Nat), I N r_1b r_1o n_3 i_4 m ∧ ∀ N r_1b r_1o n_3 i_4 m, I N r_1b r_1o n_3 i_4 m → l1B  (fun r_1b r_1o n_3 i_4 m => ∃ N1, N1 < N ∧ I N1 r_1b r_1o n_3 i_4 m) r_1b r_1o n_3 i_4 R m
noncomputable def l1A  (K1 : Nat → Nat → Int → Int → Mem → Prop) (R : Ending → Mem → Prop) : ACode := (.code (lP (bB (sR (sL (sR (sR (body))))))))
def e0 (r_0_0 : Int) (r_0_1 : Int) (r_0_2 : Int) (r_0_3 : Int) (r_0_4 : Int) (r_0_5a : Option Addr) (r_0_5l : Nat) (r_0_5c : Nat) (R : Ending → Mem → Prop) (m : Mem) : Prop :=
 NewC m #[.int .i64 r_0_0, .int .u64 r_0_1, .int .u64 r_0_2, .int .u64 r_0_3, .int .u64 r_0_4, .slice r_0_5a r_0_5l r_0_5c] T_api_Rx fun b_r_1 m1 =>
 l1  b_r_1 0 0 0 R m1
noncomputable def e0A (R : Ending → Mem → Prop) : ACode := (.seq (.code (sL (body))) (.seq (.code (sL (sR (body)))) (.seq (.seq (.code (sL (sL (sR (sR (body)))))) (.block 0 (.cut (l1E fun r_1b r_1o n_3 i_4 m => l1  r_1b r_1o n_3 i_4 R m) (.loop (lP (bB (sR (sL (sR (sR (body))))))))))) (.code (sR (sR (sR (body))))))))
abbrev l1Q  (R : Ending → Mem → Prop) : Exit → Env → Mem → Prop := (blockQ 0 (thenQ (acpt P od (panicR R) (.code (sR (sR (sR (body))))) (bodyQ P fn R)) (bodyQ P fn R)))
theorem l1_eq  (K1 : Nat → Nat → Int → Int → Mem → Prop) (R : Ending → Mem → Prop) (r_1b : Nat) (r_1o : Nat) (n_3 : Int) (i_4 : Int) (ρ : Env) (m : Mem) : l1B  K1 r_1b r_1o n_3 i_4 R m = acpt P od (panicR R) (l1A  K1 R) (thenQ (l1E K1) (l1Q  R)) (upd (upd (upd ρ 4 (.int .i64 i_4)) 3 (.int .i64 n_3)) 1 (.pointer (some ⟨r_1b, r_1o, none⟩))) m := by kernel_rfl
theorem l1_er  (K1 : Nat → Nat → Int → Int → Mem → Prop) (R : Ending → Mem → Prop) : (l1A  K1 R).erase = lP (bB (sR (sL (sR (sR (body)))))) := by kernel_rfl
theorem l1_ok  (R : Ending → Mem → Prop) (ρ : Env) (m : Mem) (h : (l1E fun r_1b r_1o n_3 i_4 m => l1  r_1b r_1o n_3 i_4 R m) ρ m) : cpt P od (panicR R) (.loop (lP (bB (sR (sL (sR (sR (body)))))))) (l1Q  R) ρ m := by
  unfold l1E at h
  obtain ⟨r_1b, r_1o, e1, h⟩ := h.ex
  obtain ⟨n_3, e3, h⟩ := h.ex
  obtain ⟨i_4, e4, h⟩ := h.ex
  obtain ⟨I, N, h0, hs⟩ := h
  refine ⟨fun N => l1E (I N), N, (by show l1E (I N) ρ m; unfold l1E; rw [e1, e3, e4]; exact h0), ?_⟩
  clear h0 e1 e3 e4
  intro N ρ m h
  unfold l1E at h
  obtain ⟨r_1b, r_1o, e1, h⟩ := h.ex
  obtain ⟨n_3, e3, h⟩ := h.ex
  obtain ⟨i_4, e4, h⟩ := h.ex
  refine cpt_mono (P := P) (lP (bB (sR (sL (sR (sR (body))))))) (Q := thenQ (l1E fun r_1b r_1o n_3 i_4 m => ∃ N1, N1 < N ∧ I N1 r_1b r_1o n_3 i_4 m) (l1Q  R)) (fun e ρ m h => ?_) ρ m ?_
  · cases e with
    | normal =>
      have h : l1E (fun r_1b r_1o n_3 i_4 m => ∃ N1, N1 < N ∧ I N1 r_1b r_1o n_3 i_4 m) ρ m := h
      unfold l1E at h
      obtain ⟨r_1b, r_1o, e1, h⟩ := h.ex
      obtain ⟨n_3, e3, h⟩ := h.ex
      obtain ⟨i_4, e4, h⟩ := h.ex
      obtain ⟨N1, hlt, h⟩ := h
      exact ⟨N1, hlt, (by show l1E (I N1) ρ m; unfold l1E; rw [e1, e3, e4]; exact h)⟩
    | _ => exact h
  have hh := hs N r_1b r_1o n_3 i_4 m h
  generalize (fun r_1b r_1o n_3 i_4 m => ∃ N1, N1 < N ∧ I N1 r_1b r_1o n_3 i_4 m : Nat → Nat → Int → Int → Mem → Prop) = K1 at hh ⊢
  rw [← upd_self e1, ← upd_self e3, ← upd_self e4]
  rw [← l1_er  K1 R]
  refine acpt_sound (P := P) (l1A  K1 R) _ _ _ True.intro ?_
  exact Eq.mp (l1_eq  K1 R r_1b r_1o n_3 i_4 ρ m) hh
theorem e0_eq (r_0_0 : Int) (r_0_1 : Int) (r_0_2 : Int) (r_0_3 : Int) (r_0_4 : Int) (r_0_5a : Option Addr) (r_0_5l : Nat) (r_0_5c : Nat) (R : Ending → Mem → Prop) (m : Mem) : e0 r_0_0 r_0_1 r_0_2 r_0_3 r_0_4 r_0_5a r_0_5l r_0_5c R m = acpt P od (panicR R) (e0A R) (bodyQ P fn R) (argE (#[.agg #[.int .i64 r_0_0, .int .u64 r_0_1, .int .u64 r_0_2, .int .u64 r_0_3, .int .u64 r_0_4, .slice r_0_5a r_0_5l r_0_5c]] : Array Value).toList) m := by kernel_rfl
theorem ok (r_0_0 : Int) (r_0_1 : Int) (r_0_2 : Int) (r_0_3 : Int) (r_0_4 : Int) (r_0_5a : Option Addr) (r_0_5l : Nat) (r_0_5c : Nat) (R : Ending → Mem → Prop) (m : Mem) (h : e0 r_0_0 r_0_1 r_0_2 r_0_3 r_0_4 r_0_5a r_0_5l r_0_5c R m) : HC P id #[.agg #[.int .i64 r_0_0, .int .u64 r_0_1, .int .u64 r_0_2, .int .u64 r_0_3, .int .u64 r_0_4, .slice r_0_5a r_0_5l r_0_5c]] m R := by
  refine HC_of (fn := fn) (c := body) (od := od) (tb := tb) Go.Proofs.Try.func35 (by kernel_rfl) (by kernel_rfl) follows (by kernel_rfl) (of_decide_eq_true (by kernel_rfl)) ?_
  have he : (e0A R).erase = body := by kernel_rfl
  rw [← he]
  refine acpt_sound (P := P) (e0A R) _ _ _ ⟨⟨⟨True.intro, ⟨(fun ρ m h => l1_ok  R ρ m h), True.intro⟩⟩, True.intro⟩, True.intro⟩ ?_
  exact Eq.mp (e0_eq r_0_0 r_0_1 r_0_2 r_0_3 r_0_4 r_0_5a r_0_5l r_0_5c R m) h
end eyotref8_depth
/-! ### (*eyot/eyotref8.Places).goes -/
namespace eyotref8_Places_goes
noncomputable def fn : Func := Go.Proofs.Try.f36
noncomputable def body : Code := fn.body.getD .skip
def od : Nat → Ord := fun | 3 => ordL [(0, 3), (1, 3), (2, 3), (3, 1), (4, 3), (5, 3), (6, 3), (7, 1), (9, 3), (10, 3), (11, 3), (12, 1), (13, 3), (14, 3), (15, 3), (16, 1), (17, 3), (18, 1), (20, 3), (8, 0), (19, 0), (21, 0), (22, 3), (23, 2)] .done | _ => .done
def tb : Nat → Tab := fun | 3 => (8388608, [0, 1, 3, 7, 0, 0, 48, 112, 0, 0, 512, 1536, 3584, 0, 0, 24576, 57344, 130560, 261632, 524032, 0, 2096896, 4194303, 8388607], [(0, 1, 14), (1, 8192, 15), (2, 16384, 16), (4, 32768, 17), (0, 2, 18), (0, 64, 19), (48, 393216, 20), (64, 524288, 21), (0, 0, 22), (0, 1, 23), (512, 4194304, 24), (1024, 8388608, 25), (2048, 16777216, 26), (0, 2, 27), (0, 64, 28), (24576, 201326592, 29), (32768, 268435456, 30), (69632, 570425344, 31), (131072, 1073741824, 32), (262400, 2149580800, 33), (0, 4, 34), (1572864, 12884901888, 35), (4194303, 1114112, 36), (8388607, 51539607552, 0)]) | _ => (0, [], [])
def l1E (K : Option Addr → Option Addr → Nat → Nat → Option Addr → Nat → Nat → Int → Mem → Prop) : Env → Mem → Prop := fun ρ m => UnP (ρ 0) fun p_0 => UnS (ρ 1) fun l_1a l_1l l_1c => UnS (ρ 2) fun m_2a m_2l m_2c => UnI (ρ 6) .i64 fun i_6 => K p_0 l_1a l_1l l_1c m_2a m_2l m_2c i_6 m
def l1B  (K1 : Option Addr → Option Addr → Nat → Nat → Option Addr → Nat → Nat → Int → Mem → Prop) (p_0 : Option Addr) (l_1a : Option Addr) (l_1l : Nat) (l_1c : Nat) (m_2a : Option Addr) (m_2l : Nat) (m_2c : Nat) (i_6 : Int) (R : Ending → Mem → Prop) (m : Mem) : Prop :=
 Br (decide (i_6 < ((l_1l : Nat) : Int))) (
  Sub m fun r1 =>
  NilC p_0 (fun x14b x14o =>
   LdV r1 x14b (x14o + 3) fun v =>
   UnS v fun x16a x16l x16c =>
   IxS l_1a l_1l i_6 1 fun x19b x19o =>
   LdV r1 x19b x19o fun v =>
   UnI v .i64 fun x20 =>
   NilC p_0 (fun x23b x23o =>
    LdV r1 x23b (x23o + 3) fun v =>
    UnS v fun x25a x25l x25c =>
    IxS l_1a l_1l i_6 1 fun x28b x28o =>
    LdV r1 x28b x28o fun v =>
    UnI v .i64 fun x29 =>
    IxS x25a x25l x29 1 fun x30b x30o =>
    LdV r1 x30b x30o fun v =>
    UnS v fun x31a x31l x31c =>
    NewC m #[] T_int fun b21 m2 =>
    Lk r1 m2 fun r3 =>
    BiN P .append #[T_sl_int, T_sl_int] T_sl_int #[false, false] #[.slice (some ⟨b21, 0, none⟩) 0 0, .slice x31a x31l x31c] m2 (fun w m4 =>
     UnS w fun x32a x32l x32c =>
     Lk r3 m4 fun r5 =>
     BiN P .append #[T_sl_int, T_sl_int] T_sl_int #[false, false] #[.slice x32a x32l x32c, .slice m_2a m_2l m_2c] m4 (fun w m6 =>
      UnS w fun x34a x34l x34c =>
      Lk r5 m6 fun r7 =>
      IxS x16a x16l x20 1 fun x35b x35o =>
      St1 m6 x35b x35o (.slice x34a x34l x34c) fun m8 =>
      K1 p_0 l_1a l_1l l_1c m_2a m_2l m_2c (IntKind.i64.wrap (i_6 + 1)) m8) (panicR R)) (panicR R)) (False)) (False)) (
  R (.returned (.tuple #[])) m)
def l1  (p_0 : Option Addr) (l_1a : Option Addr) (l_1l : Nat) (l_1c : Nat) (m_2a : Option Addr) (m_2l : Nat) (m_2c : Nat) (i_6 : Int) (R : Ending → Mem → Prop) (m : Mem) : Prop :=
  ∃ (I : Nat → Option Addr → Option Addr → Nat → Nat → Option Addr → Nat → Nat → Int → Mem → Prop) (N : Nat), I N p_0 l_1a l_1l l_1c m_2a m_2l m_2c i_6 m ∧ ∀ N p_0 l_1a l_1l l_1c m_2a m_2l m_2c i_6 m, I N p_0 l_1a l_1l l_1c m_2a m_2l m_2c i_6 m → l1B  (fun p_0 l_1a l_1l l_1c m_2a m_2l m_2c i_6 m => ∃ N1, N1 < N ∧ I N1 p_0 l_1a l_1l l_1c m_2a m_2l m_2c i_6 m) p_0 l_1a l_1l l_1c m_2a m_2l m_2c i_6 R m
noncomputable def l1A  (K1 : Option Addr → Option Addr → Nat → Nat → Option Addr → Nat → Nat → Int → Mem → Prop) (R : Ending → Mem → Prop) : ACode := (.code (lP (bB (sR (body)))))
def e0 (p_0 : Option Addr) (l_1a : Option Addr) (l_1l : Nat) (l_1c : Nat) (m_2a : Option Addr) (m_2l : Nat) (m_2c : Nat) (R : Ending → Mem → Prop) (m : Mem) : Prop :=
 l1  p_0 l_1a l_1l l_1c m_2a m_2l m_2c 0 R m
noncomputable def e0A (R : Ending → Mem → Prop) : ACode := (.seq (.code (sL (body))) (.block 0 (.cut (l1E fun p_0 l_1a l_1l l_1c m_2a m_2l m_2c i_6 m => l1  p_0 l_1a l_1l l_1c m_2a m_2l m_2c i_6 R m) (.loop (lP (bB (sR (body))))))))
abbrev l1Q  (R : Ending → Mem → Prop) : Exit → Env → Mem → Prop := (blockQ 0 (bodyQ P fn R))
theorem l1_eq  (K1 : Option Addr → Option Addr → Nat → Nat → Option Addr → Nat → Nat → Int → Mem → Prop) (R : Ending → Mem → Prop) (p_0 : Option Addr) (l_1a : Option Addr) (l_1l : Nat) (l_1c : Nat) (m_2a : Option Addr) (m_2l : Nat) (m_2c : Nat) (i_6 : Int) (ρ : Env) (m : Mem) : l1B  K1 p_0 l_1a l_1l l_1c m_2a m_2l m_2c i_6 R m = acpt P od (panicR R) (l1A  K1 R) (thenQ (l1E K1) (l1Q  R)) (upd (upd (upd (upd ρ 6 (.int .i64 i_6)) 2 (.slice m_2a m_2l m_2c)) 1 (.slice l_1a l_1l l_1c)) 0 (.pointer p_0)) m := by kernel_rfl
theorem l1_er  (K1 : Option Addr → Option Addr → Nat → Nat → Option Addr → Nat → Nat → Int → Mem → Prop) (R : Ending → Mem → Prop) : (l1A  K1 R).erase = lP (bB (sR (body))) := by kernel_rfl
theorem l1_ok  (R : Ending → Mem → Prop) (ρ : Env) (m : Mem) (h : (l1E fun p_0 l_1a l_1l l_1c m_2a m_2l m_2c i_6 m => l1  p_0 l_1a l_1l l_1c m_2a m_2l m_2c i_6 R m) ρ m) : cpt P od (panicR R) (.loop (lP (bB (sR (body))))) (l1Q  R) ρ m := by
  unfold l1E at h
  obtain ⟨p_0, e0, h⟩ := h.ex
  obtain ⟨l_1a, l_1l, l_1c, e1, h⟩ := h.ex
  obtain ⟨m_2a, m_2l, m_2c, e2, h⟩ := h.ex
  obtain ⟨i_6, e6, h⟩ := h.ex
  obtain ⟨I, N, h0, hs⟩ := h
  refine ⟨fun N => l1E (I N), N, (by show l1E (I N) ρ m; unfold l1E; rw [e0, e1, e2, e6]; exact h0), ?_⟩
  clear h0 e0 e1 e2 e6
  intro N ρ m h
  unfold l1E at h
  obtain ⟨p_0, e0, h⟩ := h.ex
  obtain ⟨l_1a, l_1l, l_1c, e1, h⟩ := h.ex
  obtain ⟨m_2a, m_2l, m_2c, e2, h⟩ := h.ex
  obtain ⟨i_6, e6, h⟩ := h.ex
  refine cpt_mono (P := P) (lP (bB (sR (body)))) (Q := thenQ (l1E fun p_0 l_1a l_1l l_1c m_2a m_2l m_2c i_6 m => ∃ N1, N1 < N ∧ I N1 p_0 l_1a l_1l l_1c m_2a m_2l m_2c i_6 m) (l1Q  R)) (fun e ρ m h => ?_) ρ m ?_
  · cases e with
    | normal =>
      have h : l1E (fun p_0 l_1a l_1l l_1c m_2a m_2l m_2c i_6 m => ∃ N1, N1 < N ∧ I N1 p_0 l_1a l_1l l_1c m_2a m_2l m_2c i_6 m) ρ m := h
      unfold l1E at h
      obtain ⟨p_0, e0, h⟩ := h.ex
      obtain ⟨l_1a, l_1l, l_1c, e1, h⟩ := h.ex
      obtain ⟨m_2a, m_2l, m_2c, e2, h⟩ := h.ex
      obtain ⟨i_6, e6, h⟩ := h.ex
      obtain ⟨N1, hlt, h⟩ := h
      exact ⟨N1, hlt, (by show l1E (I N1) ρ m; unfold l1E; rw [e0, e1, e2, e6]; exact h)⟩
    | _ => exact h
  have hh := hs N p_0 l_1a l_1l l_1c m_2a m_2l m_2c i_6 m h
  generalize (fun p_0 l_1a l_1l l_1c m_2a m_2l m_2c i_6 m => ∃ N1, N1 < N ∧ I N1 p_0 l_1a l_1l l_1c m_2a m_2l m_2c i_6 m : Option Addr → Option Addr → Nat → Nat → Option Addr → Nat → Nat → Int → Mem → Prop) = K1 at hh ⊢
  rw [← upd_self e0, ← upd_self e1, ← upd_self e2, ← upd_self e6]
  rw [← l1_er  K1 R]
  refine acpt_sound (P := P) (l1A  K1 R) _ _ _ True.intro ?_
  exact Eq.mp (l1_eq  K1 R p_0 l_1a l_1l l_1c m_2a m_2l m_2c i_6 ρ m) hh
theorem e0_eq (p_0 : Option Addr) (l_1a : Option Addr) (l_1l : Nat) (l_1c : Nat) (m_2a : Option Addr) (m_2l : Nat) (m_2c : Nat) (R : Ending → Mem → Prop) (m : Mem) : e0 p_0 l_1a l_1l l_1c m_2a m_2l m_2c R m = acpt P od (panicR R) (e0A R) (bodyQ P fn R) (argE (#[.pointer p_0, .slice l_1a l_1l l_1c, .slice m_2a m_2l m_2c] : Array Value).toList) m := by kernel_rfl
theorem ok (p_0 : Option Addr) (l_1a : Option Addr) (l_1l : Nat) (l_1c : Nat) (m_2a : Option Addr) (m_2l : Nat) (m_2c : Nat) (R : Ending → Mem → Prop) (m : Mem) (h : e0 p_0 l_1a l_1l l_1c m_2a m_2l m_2c R m) : HC P id #[.pointer p_0, .slice l_1a l_1l l_1c, .slice m_2a m_2l m_2c] m R := by
  refine HC_of (fn := fn) (c := body) (od := od) (tb := tb) Go.Proofs.Try.func36 (by kernel_rfl) (by kernel_rfl) follows (by kernel_rfl) (of_decide_eq_true (by kernel_rfl)) ?_
  have he : (e0A R).erase = body := by kernel_rfl
  rw [← he]
  refine acpt_sound (P := P) (e0A R) _ _ _ ⟨(fun ρ m h => l1_ok  R ρ m h), True.intro⟩ ?_
  exact Eq.mp (e0_eq p_0 l_1a l_1l l_1c m_2a m_2l m_2c R m) h
end eyotref8_Places_goes
end
end Go.E
set_option linter.unusedVariables false
set_option maxRecDepth 100000
namespace Go.E
open Go.H
noncomputable section
/-! ### eyot/regex.sign -/
namespace regex_sign
noncomputable def fn : Func := Go.Proofs.Try.f40
noncomputable def body : Code := fn.body.getD .skip
def od : Nat → Ord := fun _ => .done
def tb : Nat → Tab := fun _ => (0, [], [])
def e0 (kind_0 : Int) (R : Ending → Mem → Prop) (m : Mem) : Prop :=
 Br (decide (kind_0 ≥ 4)) (
  R (.returned (.bool (decide (kind_0 ≤ 6)))) m) (
  R (.returned (.bool false)) m)
noncomputable def e0A (R : Ending → Mem → Prop) : ACode := (.code (body))
theorem e0_eq (kind_0 : Int) (R : Ending → Mem → Prop) (m : Mem) : e0 kind_0 R m = acpt P od (panicR R) (e0A R) (bodyQ P fn R) (argE (#[.int .i64 kind_0] : Array Value).toList) m := by kernel_rfl
theorem ok (kind_0 : Int) (R : Ending → Mem → Prop) (m : Mem) (h : e0 kind_0 R m) : HC P id #[.int .i64 kind_0] m R := by
  refine HC_of (fn := fn) (c := body) (od := od) (tb := tb) Go.Proofs.Try.func40 (by kernel_rfl) (by kernel_rfl) follows (by kernel_rfl) (of_decide_eq_true (by kernel_rfl)) ?_
  have he : (e0A R).erase = body := by kernel_rfl
  rw [← he]
  refine acpt_sound (P := P) (e0A R) _ _ _ True.intro ?_
  exact Eq.mp (e0_eq kind_0 R m) h
end regex_sign
/-! ### slices.Concat[[]int,int] -/
namespace slices_Concat_s_int_int
noncomputable def fn : Func := Go.Proofs.Try.f41
noncomputable def body : Code := fn.body.getD .skip
def od : Nat → Ord := fun _ => .done
def tb : Nat → Tab := fun _ => (0, [], [])
def l3E (K : Option Addr → Nat → Nat → Option Addr → Nat → Nat → Int → Int → Mem → Prop) : Env → Mem → Prop := fun ρ m => UnS (ρ 6) fun newslice_6a newslice_6l newslice_6c => UnS (ρ 25) fun x25a x25l x25c => UnI (ρ 26) .i64 fun x26 => UnI (ρ 27) .i64 fun x27 => K newslice_6a newslice_6l newslice_6c x25a x25l x25c x26 x27 m
def l3B  (K3 : Option Addr → Nat → Nat → Option Addr → Nat → Nat → Int → Int → Mem → Prop) (newslice_6a : Option Addr) (newslice_6l : Nat) (newslice_6c : Nat) (x25a : Option Addr) (x25l : Nat) (x25c : Nat) (x26 : Int) (x27 : Int) (R : Ending → Mem → Prop) (m : Mem) : Prop :=
 Br (decide (x27 < x26)) (
  IxS x25a x25l x27 1 fun x29b x29o =>
  LdV m x29b x29o fun v =>
  UnS v fun x30a x30l x30c =>
  BiN P .append #[T_sl_int, T_sl_int] T_sl_int #[false, false] #[.slice newslice_6a newslice_6l newslice_6c, .slice x30a x30l x30c] m (fun w m1 =>
   UnS w fun x33a x33l x33c =>
   K3 x33a x33l x33c x25a x25l x25c x26 (IntKind.i64.wrap (x27 + 1)) m1) (panicR R)) (
  R (.returned (.slice newslice_6a newslice_6l newslice_6c)) m)
def l3  (newslice_6a : Option Addr) (newslice_6l : Nat) (newslice_6c : Nat) (x25a : Option Addr) (x25l : Nat) (x25c : Nat) (x26 : Int) (x27 : Int) (R : Ending → Mem → Prop) (m : Mem) : Prop :=
  ∃ (I : Nat → Option Addr → Nat → Nat → Option Addr → Nat → Nat → Int → Int → Mem → Prop) (N : Nat), I N newslice_6a newslice_6l newslice_6c x25a x25l x25c x26 x27 m ∧ ∀ N newslice_6a newslice_6l newslice_6c x25a x25l x25c x26 x27 m, I N newslice_6a newslice_6l newslice_6c x25a x25l x25c x26 x27 m → l3B  (fun newslice_6a newslice_6l newslice_6c x25a x25l x25c x26 x27 m => ∃ N1, N1 < N ∧ I N1 newslice_6a newslice_6l newslice_6c x25a x25l x25c x26 x27 m) newslice_6a newslice_6l newslice_6c x25a x25l x25c x26 x27 R m
noncomputable def l3A  (K3 : Option Addr → Nat → Nat → Option Addr → Nat → Nat → Int → Int → Mem → Prop) (R : Ending → Mem → Prop) : ACode := (.code (lP (bB (sR (sL (sR (sR (sR (sR (body))))))))))
def k2E (K : Option Addr → Nat → Nat → Int → Mem → Prop) : Env → Mem → Prop := fun ρ m => UnS (ρ 0) fun slices_0a slices_0l slices_0c => UnI (ρ 3) .i64 fun size_3 => K slices_0a slices_0l slices_0c size_3 m
def k2  (slices_0a : Option Addr) (slices_0l : Nat) (slices_0c : Nat) (size_3 : Int) (R : Ending → Mem → Prop) (m : Mem) : Prop :=
 HC P slices_Grow_s_int_int.id #[.slice none 0 0, .int .i64 size_3] m (Cont (fun v m1 =>
   UnS v fun x24a x24l x24c =>
   l3  x24a x24l x24c slices_0a slices_0l slices_0c ((slices_0l : Nat) : Int) 0 R m1) (panicR R))
noncomputable def k2A  (R : Ending → Mem → Prop) : ACode := (.seq (.code (sL (sR (sR (sR (body)))))) (.seq (.seq (.code (sL (sL (sR (sR (sR (sR (body)))))))) (.block 2 (.cut (l3E fun newslice_6a newslice_6l newslice_6c x25a x25l x25c x26 x27 m => l3  newslice_6a newslice_6l newslice_6c x25a x25l x25c x26 x27 R m) (.loop (lP (bB (sR (sL (sR (sR (sR (sR (body))))))))))))) (.code (sR (sR (sR (sR (sR (body)))))))))
def l1E (K : Option Addr → Nat → Nat → Int → Option Addr → Nat → Nat → Int → Int → Mem → Prop) : Env → Mem → Prop := fun ρ m => UnS (ρ 0) fun slices_0a slices_0l slices_0c => UnI (ρ 3) .i64 fun size_3 => UnS (ρ 9) fun x9a x9l x9c => UnI (ρ 10) .i64 fun x10 => UnI (ρ 11) .i64 fun x11 => K slices_0a slices_0l slices_0c size_3 x9a x9l x9c x10 x11 m
def l1B  (K1 : Option Addr → Nat → Nat → Int → Option Addr → Nat → Nat → Int → Int → Mem → Prop) (slices_0a : Option Addr) (slices_0l : Nat) (slices_0c : Nat) (size_3 : Int) (x9a : Option Addr) (x9l : Nat) (x9c : Nat) (x10 : Int) (x11 : Int) (R : Ending → Mem → Prop) (m : Mem) : Prop :=
 Br (decide (x11 < x10)) (
  IxS x9a x9l x11 1 fun x13b x13o =>
  LdV m x13b x13o fun v =>
  UnS v fun x14a x14l x14c =>
  Br (decide ((IntKind.i64.wrap (size_3 + ((x14l : Nat) : Int))) < 0)) (
   R (.panicked [{ v := .iface T_string (.string (ByteArray.mk #[108, 101, 110, 32, 111, 117, 116, 32, 111, 102, 32, 114, 97, 110, 103, 101])), recovered := false }]) m) (
   K1 slices_0a slices_0l slices_0c (IntKind.i64.wrap (size_3 + ((x14l : Nat) : Int))) x9a x9l x9c x10 (IntKind.i64.wrap (x11 + 1)) m)) (
  k2  slices_0a slices_0l slices_0c size_3 R m)
def l1  (slices_0a : Option Addr) (slices_0l : Nat) (slices_0c : Nat) (size_3 : Int) (x9a : Option Addr) (x9l : Nat) (x9c : Nat) (x10 : Int) (x11 : Int) (R : Ending → Mem → Prop) (m : Mem) : Prop :=
  ∃ (I : Nat → Option Addr → Nat → Nat → Int → Option Addr → Nat → Nat → Int → Int → Mem → Prop) (N : Nat), I N slices_0a slices_0l slices_0c size_3 x9a x9l x9c x10 x11 m ∧ ∀ N slices_0a slices_0l slices_0c size_3 x9a x9l x9c x10 x11 m, I N slices_0a slices_0l slices_0c size_3 x9a x9l x9c x10 x11 m → l1B  (fun slices_0a slices_0l slices_0c size_3 x9a x9l x9c x10 x11 m => ∃ N1, N1 < N ∧ I N1 slices_0a slices_0l slices_0c size_3 x9a x9l x9c x10 x11 m) slices_0a slices_0l slices_0c size_3 x9a x9l x9c x10 x11 R m
noncomputable def l1A  (K1 : Option Addr → Nat → Nat → Int → Option Addr → Nat → Nat → Int → Int → Mem → Prop) (R : Ending → Mem → Prop) : ACode := (.code (lP (bB (sR (sL (sR (sR (body))))))))
def e0 (slices_0a : Option Addr) (slices_0l : Nat) (slices_0c : Nat) (R : Ending → Mem → Prop) (m : Mem) : Prop :=
 l1  slices_0a slices_0l slices_0c 0 slices_0a slices_0l slices_0c ((slices_0l : Nat) : Int) 0 R m
noncomputable def e0A (R : Ending → Mem → Prop) : ACode := (.seq (.code (sL (body))) (.seq (.code (sL (sR (body)))) (.seq (.seq (.code (sL (sL (sR (sR (body)))))) (.block 0 (.cut (l1E fun slices_0a slices_0l slices_0c size_3 x9a x9l x9c x10 x11 m => l1  slices_0a slices_0l slices_0c size_3 x9a x9l x9c x10 x11 R m) (.loop (lP (bB (sR (sL (sR (sR (body))))))))))) (.cut (k2E fun slices_0a slices_0l slices_0c size_3 m => k2  slices_0a slices_0l slices_0c size_3 R m) (sR (sR (sR (body))))))))
abbrev k2Q  (R : Ending → Mem → Prop) : Exit → Env → Mem → Prop := (bodyQ P fn R)
abbrev l1Q  (R : Ending → Mem → Prop) : Exit → Env → Mem → Prop := (blockQ 0 (thenQ (acpt P od (panicR R) (.cut (k2E fun slices_0a slices_0l slices_0c size_3 m => k2  slices_0a slices_0l slices_0c size_3 R m) (sR (sR (sR (body))))) (bodyQ P fn R)) (bodyQ P fn R)))
abbrev l3Q  (R : Ending → Mem → Prop) : Exit → Env → Mem → Prop := (blockQ 2 (thenQ (acpt P od (panicR R) (.code (sR (sR (sR (sR (sR (body))))))) (k2Q  R)) (k2Q  R)))
theorem l3_eq  (K3 : Option Addr → Nat → Nat → Option Addr → Nat → Nat → Int → Int → Mem → Prop) (R : Ending → Mem → Prop) (newslice_6a : Option Addr) (newslice_6l : Nat) (newslice_6c : Nat) (x25a : Option Addr) (x25l : Nat) (x25c : Nat) (x26 : Int) (x27 : Int) (ρ : Env) (m : Mem) : l3B  K3 newslice_6a newslice_6l newslice_6c x25a x25l x25c x26 x27 R m = acpt P od (panicR R) (l3A  K3 R) (thenQ (l3E K3) (l3Q  R)) (upd (upd (upd (upd ρ 27 (.int .i64 x27)) 26 (.int .i64 x26)) 25 (.slice x25a x25l x25c)) 6 (.slice newslice_6a newslice_6l newslice_6c)) m := by kernel_rfl
theorem l3_er  (K3 : Option Addr → Nat → Nat → Option Addr → Nat → Nat → Int → Int → Mem → Prop) (R : Ending → Mem → Prop) : (l3A  K3 R).erase = lP (bB (sR (sL (sR (sR (sR (sR (body)))))))) := by kernel_rfl
theorem l3_ok  (R : Ending → Mem → Prop) (ρ : Env) (m : Mem) (h : (l3E fun newslice_6a newslice_6l newslice_6c x25a x25l x25c x26 x27 m => l3  newslice_6a newslice_6l newslice_6c x25a x25l x25c x26 x27 R m) ρ m) : cpt P od (panicR R) (.loop (lP (bB (sR (sL (sR (sR (sR (sR (body)))))))))) (l3Q  R) ρ m := by
  unfold l3E at h
  obtain ⟨newslice_6a, newslice_6l, newslice_6c, e6, h⟩ := h.ex
  obtain ⟨x25a, x25l, x25c, e25, h⟩ := h.ex
  obtain ⟨x26, e26, h⟩ := h.ex
  obtain ⟨x27, e27, h⟩ := h.ex
  obtain ⟨I, N, h0, hs⟩ := h
  refine ⟨fun N => l3E (I N), N, (by show l3E (I N) ρ m; unfold l3E; rw [e6, e25, e26, e27]; exact h0), ?_⟩
  clear h0 e6 e25 e26 e27
  intro N ρ m h
  unfold l3E at h
  obtain ⟨newslice_6a, newslice_6l, newslice_6c, e6, h⟩ := h.ex
  obtain ⟨x25a, x25l, x25c, e25, h⟩ := h.ex
  obtain ⟨x26, e26, h⟩ := h.ex
  obtain ⟨x27, e27, h⟩ := h.ex
  refine cpt_mono (P := P) (lP (bB (sR (sL (sR (sR (sR (sR (body))))))))) (Q := thenQ (l3E fun newslice_6a newslice_6l newslice_6c x25a x25l x25c x26 x27 m => ∃ N1, N1 < N ∧ I N1 newslice_6a newslice_6l newslice_6c x25a x25l x25c x26 x27 m) (l3Q  R)) (fun e ρ m h => ?_) ρ m ?_
  · cases e with
    | normal =>
      have h : l3E (fun newslice_6a newslice_6l newslice_6c x25a x25l x25c x26 x27 m => ∃ N1, N1 < N ∧ I N1 newslice_6a newslice_6l newslice_6c x25a x25l x25c x26 x27 m) ρ m := h
      unfold l3E at h
      obtain ⟨newslice_6a, newslice_6l, newslice_6c, e6, h⟩ := h.ex
      obtain ⟨x25a, x25l, x25c, e25, h⟩ := h.ex
      obtain ⟨x26, e26, h⟩ := h.ex
      obtain ⟨x27, e27, h⟩ := h.ex
      obtain ⟨N1, hlt, h⟩ := h
      exact ⟨N1, hlt, (by show l3E (I N1) ρ m; unfold l3E; rw [e6, e25, e26, e27]; exact h)⟩
    | _ => exact h
  have hh := hs N newslice_6a newslice_6l newslice_6c x25a x25l x25c x26 x27 m h
  generalize (fun newslice_6a newslice_6l newslice_6c x25a x25l x25c x26 x27 m => ∃ N1, N1 < N ∧ I N1 newslice_6a newslice_6l newslice_6c x25a x25l x25c x26 x27 m : Option Addr → Nat → Nat → Option Addr → Nat → Nat → Int → Int → Mem → Prop) = K3 at hh ⊢
  rw [← upd_self e6, ← upd_self e25, ← upd_self e26, ← upd_self e27]
  rw [← l3_er  K3 R]
  refine acpt_sound (P := P) (l3A  K3 R) _ _ _ True.intro ?_
  exact Eq.mp (l3_eq  K3 R newslice_6a newslice_6l newslice_6c x25a x25l x25c x26 x27 ρ m) hh
theorem k2_eq  (R : Ending → Mem → Prop) (slices_0a : Option Addr) (slices_0l : Nat) (slices_0c : Nat) (size_3 : Int) (ρ : Env) (m : Mem) : k2  slices_0a slices_0l slices_0c size_3 R m = acpt P od (panicR R) (k2A  R) (k2Q  R) (upd (upd ρ 3 (.int .i64 size_3)) 0 (.slice slices_0a slices_0l slices_0c)) m := by kernel_rfl
theorem k2_er  (R : Ending → Mem → Prop) : (k2A  R).erase = sR (sR (sR (body))) := by kernel_rfl
theorem k2_ok  (R : Ending → Mem → Prop) (ρ : Env) (m : Mem) (h : (k2E fun slices_0a slices_0l slices_0c size_3 m => k2  slices_0a slices_0l slices_0c size_3 R m) ρ m) : cpt P od (panicR R) (sR (sR (sR (body)))) (k2Q  R) ρ m := by
  unfold k2E at h
  obtain ⟨slices_0a, slices_0l, slices_0c, e0, h⟩ := h.ex
  obtain ⟨size_3, e3, h⟩ := h.ex
  rw [← upd_self e0, ← upd_self e3]
  rw [← k2_er  R]
  refine acpt_sound (P := P) (k2A  R) _ _ _ ⟨⟨True.intro, ⟨(fun ρ m h => l3_ok  R ρ m h), True.intro⟩⟩, True.intro⟩ ?_
  exact Eq.mp (k2_eq  R slices_0a slices_0l slices_0c size_3 ρ m) h
theorem l1_eq  (K1 : Option Addr → Nat → Nat → Int → Option Addr → Nat → Nat → Int → Int → Mem → Prop) (R : Ending → Mem → Prop) (slices_0a : Option Addr) (slices_0l : Nat) (slices_0c : Nat) (size_3 : Int) (x9a : Option Addr) (x9l : Nat) (x9c : Nat) (x10 : Int) (x11 : Int) (ρ : Env) (m : Mem) : l1B  K1 slices_0a slices_0l slices_0c size_3 x9a x9l x9c x10 x11 R m = acpt P od (panicR R) (l1A  K1 R) (thenQ (l1E K1) (l1Q  R)) (upd (upd (upd (upd (upd ρ 11 (.int .i64 x11)) 10 (.int .i64 x10)) 9 (.slice x9a x9l x9c)) 3 (.int .i64 size_3)) 0 (.slice slices_0a slices_0l slices_0c)) m := by kernel_rfl
theorem l1_er  (K1 : Option Addr → Nat → Nat → Int → Option Addr → Nat → Nat → Int → Int → Mem → Prop) (R : Ending → Mem → Prop) : (l1A  K1 R).erase = lP (bB (sR (sL (sR (sR (body)))))) := by kernel_rfl
theorem l1_ok  (R : Ending → Mem → Prop) (ρ : Env) (m : Mem) (h : (l1E fun slices_0a slices_0l slices_0c size_3 x9a x9l x9c x10 x11 m => l1  slices_0a slices_0l slices_0c size_3 x9a x9l x9c x10 x11 R m) ρ m) : cpt P od (panicR R) (.loop (lP (bB (sR (sL (sR (sR (body)))))))) (l1Q  R) ρ m := by
  unfold l1E at h
  obtain ⟨slices_0a, slices_0l, slices_0c, e0, h⟩ := h.ex
  obtain ⟨size_3, e3, h⟩ := h.ex
  obtain ⟨x9a, x9l, x9c, e9, h⟩ := h.ex
  obtain ⟨x10, e10, h⟩ := h.ex
  obtain ⟨x11, e11, h⟩ := h.ex
  obtain ⟨I, N, h0, hs⟩ := h
  refine ⟨fun N => l1E (I N), N, (by show l1E (I N) ρ m; unfold l1E; rw [e0, e3, e9, e10, e11]; exact h0), ?_⟩
  clear h0 e0 e3 e9 e10 e11
  intro N ρ m h
  unfold l1E at h
  obtain ⟨slices_0a, slices_0l, slices_0c, e0, h⟩ := h.ex
  obtain ⟨size_3, e3, h⟩ := h.ex
  obtain ⟨x9a, x9l, x9c, e9, h⟩ := h.ex
  obtain ⟨x10, e10, h⟩ := h.ex
  obtain ⟨x11, e11, h⟩ := h.ex
  refine cpt_mono (P := P) (lP (bB (sR (sL (sR (sR (body))))))) (Q := thenQ (l1E fun slices_0a slices_0l slices_0c size_3 x9a x9l x9c x10 x11 m => ∃ N1, N1 < N ∧ I N1 slices_0a slices_0l slices_0c size_3 x9a x9l x9c x10 x11 m) (l1Q  R)) (fun e ρ m h => ?_) ρ m ?_
  · cases e with
    | normal =>
      have h : l1E (fun slices_0a slices_0l slices_0c size_3 x9a x9l x9c x10 x11 m => ∃ N1, N1 < N ∧ I N1 slices_0a slices_0l slices_0c size_3 x9a x9l x9c x10 x11 m) ρ m := h
      unfold l1E at h
      obtain ⟨slices_0a, slices_0l, slices_0c, e0, h⟩ := h.ex
      obtain ⟨size_3, e3, h⟩ := h.ex
      obtain ⟨x9a, x9l, x9c, e9, h⟩ := h.ex
      obtain ⟨x10, e10, h⟩ := h.ex
      obtain ⟨x11, e11, h⟩ := h.ex
      obtain ⟨N1, hlt, h⟩ := h
      exact ⟨N1, hlt, (by show l1E (I N1) ρ m; unfold l1E; rw [e0, e3, e9, e10, e11]; exact h)⟩
    | _ => exact h
  have hh := hs N slices_0a slices_0l slices_0c size_3 x9a x9l x9c x10 x11 m h
  generalize (fun slices_0a slices_0l slices_0c size_3 x9a x9l x9c x10 x11 m => ∃ N1, N1 < N ∧ I N1 slices_0a slices_0l slices_0c size_3 x9a x9l x9c x10 x11 m : Option Addr → Nat → Nat → Int → Option Addr → Nat → Nat → Int → Int → Mem → Prop) = K1 at hh ⊢
  rw [← upd_self e0, ← upd_self e3, ← upd_self e9, ← upd_self e10, ← upd_self e11]
  rw [← l1_er  K1 R]
  refine acpt_sound (P := P) (l1A  K1 R) _ _ _ True.intro ?_
  exact Eq.mp (l1_eq  K1 R slices_0a slices_0l slices_0c size_3 x9a x9l x9c x10 x11 ρ m) hh
theorem e0_eq (slices_0a : Option Addr) (slices_0l : Nat) (slices_0c : Nat) (R : Ending → Mem → Prop) (m : Mem) : e0 slices_0a slices_0l slices_0c R m = acpt P od (panicR R) (e0A R) (bodyQ P fn R) (argE (#[.slice slices_0a slices_0l slices_0c] : Array Value).toList) m := by kernel_rfl
theorem ok (slices_0a : Option Addr) (slices_0l : Nat) (slices_0c : Nat) (R : Ending → Mem → Prop) (m : Mem) (h : e0 slices_0a slices_0l slices_0c R m) : HC P id #[.slice slices_0a slices_0l slices_0c] m R := by
  refine HC_of (fn := fn) (c := body) (od := od) (tb := tb) Go.Proofs.Try.func41 (by kernel_rfl) (by kernel_rfl) follows (by kernel_rfl) (of_decide_eq_true (by kernel_rfl)) ?_
  have he : (e0A R).erase = body := by kernel_rfl
  rw [← he]
  refine acpt_sound (P := P) (e0A R) _ _ _ ⟨⟨⟨(fun ρ m h => k2_ok  R ρ m h), ⟨(fun ρ m h => l1_ok  R ρ m h), True.intro⟩⟩, True.intro⟩, True.intro⟩ ?_
  exact Eq.mp (e0_eq slices_0a slices_0l slices_0c R m) h
end slices_Concat_s_int_int
/-! ### eyot/eyotref8.Empty -/
namespace eyotref8_Empty
noncomputable def fn : Func := Go.Proofs.Try.f44
noncomputable def body : Code := fn.body.getD .skip
def od : Nat → Ord := fun _ => .done
def tb : Nat → Tab := fun _ => (0, [], [])
def e0 (s_0_0 : Int) (s_0_1 : Int) (s_0_2 : Int) (s_0_3 : Int) (R : Ending → Mem → Prop) (m : Mem) : Prop :=
 NewC m #[.int .u64 s_0_0, .int .u64 s_0_1, .int .u64 s_0_2, .int .u64 s_0_3] T_api_Set fun b_s_1 m1 =>
 LdV m1 b_s_1 0 fun v =>
 UnI v .u64 fun x3_0 =>
 LdV m1 b_s_1 1 fun v =>
 UnI v .u64 fun x3_1 =>
 LdV m1 b_s_1 2 fun v =>
 UnI v .u64 fun x3_2 =>
 LdV m1 b_s_1 3 fun v =>
 UnI v .u64 fun x3_3 =>
 R (.returned (.bool (eqL [.int .u64 x3_0, .int .u64 x3_1, .int .u64 x3_2, .int .u64 x3_3] [.int .u64 0, .int .u64 0, .int .u64 0, .int .u64 0]))) m1
noncomputable def e0A (R : Ending → Mem → Prop) : ACode := (.code (body))
theorem e0_eq (s_0_0 : Int) (s_0_1 : Int) (s_0_2 : Int) (s_0_3 : Int) (R : Ending → Mem → Prop) (m : Mem) : e0 s_0_0 s_0_1 s_0_2 s_0_3 R m = acpt P od (panicR R) (e0A R) (bodyQ P fn R) (argE (#[.agg #[.int .u64 s_0_0, .int .u64 s_0_1, .int .u64 s_0_2, .int .u64 s_0_3]] : Array Value).toList) m := by kernel_rfl
theorem ok (s_0_0 : Int) (s_0_1 : Int) (s_0_2 : Int) (s_0_3 : Int) (R : Ending → Mem → Prop) (m : Mem) (h : e0 s_0_0 s_0_1 s_0_2 s_0_3 R m) : HC P id #[.agg #[.int .u64 s_0_0, .int .u64 s_0_1, .int .u64 s_0_2, .int .u64 s_0_3]] m R := by
  refine HC_of (fn := fn) (c := body) (od := od) (tb := tb) Go.Proofs.Try.func44 (by kernel_rfl) (by kernel_rfl) follows (by kernel_rfl) (of_decide_eq_true (by kernel_rfl)) ?_
  have he : (e0A R).erase = body := by kernel_rfl
  rw [← he]
  refine acpt_sound (P := P) (e0A R) _ _ _ True.intro ?_
  exact Eq.mp (e0_eq s_0_0 s_0_1 s_0_2 s_0_3 R m) h
end eyotref8_Empty
/-! ### slices.Grow[[]int,int] -/
namespace slices_Grow_s_int_int
noncomputable def fn : Func := Go.Proofs.Try.f45
noncomputable def body : Code := fn.body.getD .skip
def od : Nat → Ord := fun _ => .done
def tb : Nat → Tab := fun _ => (0, [], [])
def e0 (s_0a : Option Addr) (s_0l : Nat) (s_0c : Nat) (n_1 : Int) (R : Ending → Mem → Prop) (m : Mem) : Prop :=
 Br (decide (n_1 < 0)) (
  R (.panicked [{ v := .iface T_string (.string (ByteArray.mk #[99, 97, 110, 110, 111, 116, 32, 98, 101, 32, 110, 101, 103, 97, 116, 105, 118, 101])), recovered := false }]) m) (
  Br (decide ((IntKind.i64.wrap (n_1 - (IntKind.i64.wrap (((s_0c : Nat) : Int) - ((s_0l : Nat) : Int))))) > 0)) (
   SlS s_0a s_0c 0 ((s_0c : Nat) : Int) 1 fun x20a x20l x20c =>
   BiN P .append #[T_sl_int, T_int] T_sl_int #[false, false] #[.slice x20a x20l x20c, .int .i64 (IntKind.i64.wrap (n_1 - (IntKind.i64.wrap (((s_0c : Nat) : Int) - ((s_0l : Nat) : Int)))))] m (fun w m1 =>
    UnS w fun x22a x22l x22c =>
    SlS x22a x22c 0 ((s_0l : Nat) : Int) 1 fun x25a x25l x25c =>
    R (.returned (.slice x25a x25l x25c)) m1) (panicR R)) (
   R (.returned (.slice s_0a s_0l s_0c)) m))
noncomputable def e0A (R : Ending → Mem → Prop) : ACode := (.code (body))
theorem e0_eq (s_0a : Option Addr) (s_0l : Nat) (s_0c : Nat) (n_1 : Int) (R : Ending → Mem → Prop) (m : Mem) : e0 s_0a s_0l s_0c n_1 R m = acpt P od (panicR R) (e0A R) (bodyQ P fn R) (argE (#[.slice s_0a s_0l s_0c, .int .i64 n_1] : Array Value).toList) m := by kernel_rfl
theorem ok (s_0a : Option Addr) (s_0l : Nat) (s_0c : Nat) (n_1 : Int) (R : Ending → Mem → Prop) (m : Mem) (h : e0 s_0a s_0l s_0c n_1 R m) : HC P id #[.slice s_0a s_0l s_0c, .int .i64 n_1] m R := by
  refine HC_of (fn := fn) (c := body) (od := od) (tb := tb) Go.Proofs.Try.func45 (by kernel_rfl) (by kernel_rfl) follows (by kernel_rfl) (of_decide_eq_true (by kernel_rfl)) ?_
  have he : (e0A R).erase = body := by kernel_rfl
  rw [← he]
  refine acpt_sound (P := P) (e0A R) _ _ _ True.intro ?_
  exact Eq.mp (e0_eq s_0a s_0l s_0c n_1 R m) h
end slices_Grow_s_int_int
end
end Go.E
set_option linter.unusedVariables false
namespace Go.H
section
variable {P : Program} {m : Mem}
theorem pt_pure {α : Type} (a : α) (Q : α → Mem → Prop) (E : Value → Mem → Prop) : pt P (pure a : Sem α) Q E m = Q a m := rfl
theorem pt_under {t : TypeId} {d : TypeDesc} (h : P.underlying t = some d) (Q : TypeDesc → Mem → Prop) (E : Value → Mem → Prop) : pt P (underlying t) Q E m = Q d m := by
  show pt P ((Sem.program .pure).bind _) Q E m = _
  simp only [Sem.bind, pt, h]; rfl
theorem pt_typeInfo {t : TypeId} {i : TypeInfo} (h : P.info? t = some i) (Q : TypeInfo → Mem → Prop) (E : Value → Mem → Prop) : pt P (typeInfo t) Q E m = Q i m := by
  show pt P ((Sem.program .pure).bind _) Q E m = _
  simp only [Sem.bind, pt, h]; rfl
theorem pt_sizeOf {t : TypeId} {i : TypeInfo} (h : P.info? t = some i) (Q : Nat → Mem → Prop) (E : Value → Mem → Prop) : pt P (Go.sizeOf t) Q E m = Q i.size m := by
  unfold Go.sizeOf; rw [pt_bind, pt_typeInfo h]; rfl
theorem pt_zero {t : TypeId} {i : TypeInfo} {z : Value} (h : P.info? t = some i) (hz : i.zero = some z) (Q : Value → Mem → Prop) (E : Value → Mem → Prop) : pt P (zeroValue t) Q E m = Q z m := by
  unfold zeroValue; rw [pt_bind, pt_typeInfo h]; simp only [hz]; rfl
theorem pt_newRow (e : TypeId) (c : Array Value) (Q : Addr → Mem → Prop) (E : Value → Mem → Prop) : pt P (newRow e c) Q E m = ∀ b, m b = none → Q ⟨b, 0, none⟩ (m.set b (.cells c e (0, 0))) := by
  unfold newRow newObj; rw [pt_bind]; rfl
theorem pt_ite {α : Type} (c : Prop) [Decidable c] (x y : Sem α) (Q : α → Mem → Prop) (E : Value → Mem → Prop) : pt P (if c then x else y) Q E m = if c then pt P x Q E m else pt P y Q E m := by
  split <;> rfl
theorem pt_loadCells {b o : Nat} {Q : Array Value → Mem → Prop} {E : Value → Mem → Prop} : ∀ (vs : List Value) (i : Nat) (acc : Array Value),
    (∀ j u, vs[j]? = some u → m.cell b (o + (i + j)) = some u) → Q (acc ++ vs.toArray) m → pt P (loadCellsFrom ⟨b, o, none⟩ i vs.length acc) Q E m
  | [], i, acc, _, h => by simpa [loadCellsFrom, pt_pure] using h
  | v :: vs, i, acc, hc, h => by
    simp only [List.length_cons, loadCellsFrom]
    rw [pt_bind, add_none]
    refine ⟨rfl, v, by simpa using hc 0 v (by simp), ?_⟩
    refine pt_loadCells vs (i + 1) (acc.push v) (fun j u hu => ?_) (by simpa using h)
    have := hc (j + 1) u (by simpa using hu)
    rw [show o + (i + 1 + j) = o + (i + (j + 1)) by omega]; exact this
/-- Cells written into a row, from an offset on. -/
def putCells (c : Array Value) : Nat → List Value → Array Value
  | _, [] => c
  | o, v :: r => putCells (c.setIfInBounds o v) (o + 1) r
theorem putCells_size (vs : List Value) : ∀ (c : Array Value) (o : Nat), (putCells c o vs).size = c.size := by
  induction vs with
  | nil => intro c o; rfl
  | cons v r ih => intro c o; simp [putCells, ih]
theorem putCells_get (vs : List Value) : ∀ (c : Array Value) (o j : Nat), o + vs.length ≤ c.size → (putCells c o vs)[j]? = if o ≤ j ∧ j < o + vs.length then vs[j - o]? else c[j]? := by
  induction vs with
  | nil => intro c o j _; simp [putCells]; omega
  | cons v r ih =>
    intro c o j h
    simp only [List.length_cons] at h
    rw [putCells, ih _ _ _ (by simp; omega)]
    by_cases h1 : o = j
    · subst h1
      rw [if_neg (by omega), if_pos (by simp)]
      have : o < c.size := by omega
      simp [this]
    · by_cases h2 : o + 1 ≤ j ∧ j < o + 1 + r.length
      · rw [if_pos h2, if_pos (by simp; omega)]
        rw [show j - o = (j - (o + 1)) + 1 by omega]; simp
      · rw [if_neg h2, if_neg (by simp; omega)]
        simp [h1]
theorem set_set (m : Mem) (b : Nat) (o o' : Obj) : (m.set b o).set b o' = m.set b o' := by
  funext k; simp only [Mem.set]; split <;> rfl
theorem set_same (m : Mem) (b : Nat) (o : Obj) : (m.set b o) b = some o := by simp [Mem.set]
theorem set_other (m : Mem) {b k : Nat} (o : Obj) (h : k ≠ b) : (m.set b o) k = m k := by simp [Mem.set, h]
theorem pt_storeCells {b o : Nat} {e : TypeId} {Q : Unit → Mem → Prop} {E : Value → Mem → Prop} : ∀ (vs : List Value) (i : Nat) (m : Mem) (c : Array Value), m b = some (.cells c e (0, 0)) →
    (∀ v ∈ vs, notOne v = false) → o + i + vs.length ≤ c.size → Q () (m.set b (.cells (putCells c (o + i) vs) e (0, 0))) → pt P (storeCells ⟨b, o, none⟩ vs i) Q E m
  | [], i, m, c, hb, _, _, h => by
    have : m.set b (.cells c e (0, 0)) = m := by
      funext k; by_cases hk : k = b
      · subst hk; rw [set_same, hb]
      · rw [set_other _ _ hk]
    simp only [storeCells, pt_pure]
    simpa [putCells, this] using h
  | v :: r, i, m, c, hb, hn, hl, h => by
    simp only [List.length_cons] at hl
    simp only [storeCells]
    rw [pt_bind, add_none]
    refine ⟨rfl, hn v (by simp), c, e, 0, 0, hb, by show o + i < c.size; omega, by simp, ?_⟩
    refine pt_storeCells r (i + 1) _ (c.setIfInBounds (o + i) v) (set_same _ _ _) (fun u hu => hn u (by simp [hu])) (by simp; omega) ?_
    rw [set_set]; exact h
end
/-- What the type table must say of a slice type t over elements e. -/
structure ElemOK (P : Program) (t e : TypeId) (z : Value) (sz bytes : Nat) : Prop where
  ht : P.underlying t = some (.slice e)
  hi : ∃ i, P.info? e = some i ∧ i.zero = some z ∧ i.size = sz ∧ i.bytes = bytes
  hz : z.cells.size = sz
/-- A slice that is its row's head, and whose row is at hand whole: its cells are xs. -/
def Own (m : Mem) (e : TypeId) (sz : Nat) (a : Option Addr) (l c : Nat) (xs : List Value) : Prop :=
  xs.length = l * sz ∧ ((a = none ∧ l = 0 ∧ c = 0) ∨
    ∃ b cur, a = some ⟨b, 0, none⟩ ∧ m b = some (.cells cur e (0, 0)) ∧ l ≤ c ∧ cur.size = c * sz ∧ cur.toList.take (l * sz) = xs ∧ c ≤ 9223372036854775807)
def blk : Option Addr → Option Nat
  | some a => some a.block
  | none => none
/-- All blocks but those of S are as they were. -/
structure Chg (S : Nat → Prop) (m m' : Mem) : Prop where
  eq : ∀ b o, m b = some o → ¬ S b → m' b = some o
  live : ∀ b, m b ≠ none → m' b ≠ none
theorem Chg.refl (S : Nat → Prop) (m : Mem) : Chg S m m := ⟨fun _ _ h _ => h, fun _ h => h⟩
theorem Chg.trans {S S' : Nat → Prop} {m m1 m2 : Mem} (h : Chg S m m1) (k : Chg S' m1 m2) (hs : ∀ b, m b ≠ none → S' b → S b) : Chg S m m2 :=
  ⟨fun b o hb hn => k.eq b o (h.eq b o hb hn) (fun hx => hn (hs b (by rw [hb]; simp) hx)), fun b hb => k.live b (h.live b hb)⟩
theorem Chg.mono {S S' : Nat → Prop} {m m' : Mem} (h : Chg S m m') (hs : ∀ b, S b → S' b) : Chg S' m m' := ⟨fun b o hb hn => h.eq b o hb (fun hx => hn (hs b hx)), h.live⟩
theorem Le.chg {m m' : Mem} (h : Le m m') (S : Nat → Prop) : Chg S m m' := ⟨fun b o hb _ => h b o hb, fun b hb => by
  cases hm : m b with
  | none => exact absurd hm hb
  | some o => rw [h b o hm]; simp⟩
theorem Chg.le {m m' : Mem} (h : Chg (fun _ => False) m m') : Le m m' := fun b o hb => h.eq b o hb (fun h => h)
theorem Le.set {m : Mem} {b : Nat} (h : m b = none) (o : Obj) : Le m (m.set b o) := fun k o' hk => by
  rw [set_other _ _ (fun e => by subst e; rw [h] at hk; cases hk)]; exact hk
theorem Chg.set (m : Mem) (b : Nat) (o : Obj) : Chg (fun k => k = b) m (m.set b o) :=
  ⟨fun k o' hk hn => by rw [set_other _ _ hn]; exact hk, fun k hk => by
    by_cases e : k = b
    · subst e; rw [set_same]; simp
    · rw [set_other _ _ e]; exact hk⟩
theorem Chg.new {S : Nat → Prop} {m m' : Mem} (h : Chg S m m') {b : Nat} (hb : m' b = none) : m b = none := by
  cases hm : m b with
  | none => rfl
  | some o => exact absurd hb (h.live b (by rw [hm]; simp))
theorem Le.live {m m' : Mem} (h : Le m m') {b : Nat} (hb : m b ≠ none) : m' b ≠ none := (h.chg fun _ => False).live b hb
theorem CellsAt.le {m m' : Mem} (h : Le m m') {a : Option Addr} {vs : List Value} (hc : CellsAt m a vs) : CellsAt m' a vs := by
  rcases hc.cases with ⟨b, o, rfl, hx⟩ | ⟨rfl, _⟩
  · intro j u hu
    have := hx j u hu
    unfold Mem.cell at *
    split at this
    · rename_i hb; rw [h _ _ hb]; exact this
    · cases this
  · exact CellsAt.empty _ _
theorem CellsAt.chg {S : Nat → Prop} {m m' : Mem} (h : Chg S m m') {a : Option Addr} {vs : List Value} (hc : CellsAt m a vs) (hn : ∀ b, blk a = some b → ¬ S b) : CellsAt m' a vs := by
  rcases hc.cases with ⟨b, o, rfl, hx⟩ | ⟨rfl, _⟩
  · intro j u hu
    have := hx j u hu
    unfold Mem.cell at *
    split at this
    · rename_i hb; rw [h.eq _ _ hb (hn _ rfl)]; exact this
    · cases this
  · exact CellsAt.empty _ _
theorem Own.le {m m' : Mem} (h : Le m m') {e : TypeId} {sz : Nat} {a : Option Addr} {l c : Nat} {xs : List Value} (ho : Own m e sz a l c xs) : Own m' e sz a l c xs := by
  obtain ⟨h1, h2⟩ := ho
  refine ⟨h1, ?_⟩
  rcases h2 with h2 | ⟨b, cur, ha, hb, r⟩
  · exact .inl h2
  · exact .inr ⟨b, cur, ha, h _ _ hb, r⟩
theorem Own.chg {S : Nat → Prop} {m m' : Mem} (h : Chg S m m') {e : TypeId} {sz : Nat} {a : Option Addr} {l c : Nat} {xs : List Value} (ho : Own m e sz a l c xs) (hn : ∀ b, blk a = some b → ¬ S b) : Own m' e sz a l c xs := by
  obtain ⟨h1, h2⟩ := ho
  refine ⟨h1, ?_⟩
  rcases h2 with h2 | ⟨b, cur, ha, hb, r⟩
  · exact .inl h2
  · exact .inr ⟨b, cur, ha, h.eq _ _ hb (hn _ (by rw [ha]; rfl)), r⟩
theorem Own.nil (m : Mem) (e : TypeId) (sz : Nat) : Own m e sz none 0 0 [] := ⟨by simp, .inl ⟨rfl, rfl, rfl⟩⟩
theorem Own.cells {m : Mem} {e : TypeId} {sz : Nat} {a : Option Addr} {l c : Nat} {xs : List Value} (ho : Own m e sz a l c xs) : CellsAt m a xs := by
  obtain ⟨h1, h2⟩ := ho
  rcases h2 with ⟨rfl, rfl, rfl⟩ | ⟨b, cur, rfl, hb, hlc, hs, ht, hcm⟩
  · show xs = []
    exact List.eq_nil_of_length_eq_zero (by simpa using h1)
  · intro j u hu
    subst ht
    rw [List.getElem?_take] at hu
    split at hu
    · unfold Mem.cell; rw [hb]; simpa using hu
    · cases hu
theorem Own.live {m : Mem} {e : TypeId} {sz : Nat} {a : Option Addr} {l c : Nat} {xs : List Value} (ho : Own m e sz a l c xs) : ∀ b, blk a = some b → m b ≠ none := by
  intro b hb
  rcases ho.2 with ⟨rfl, _⟩ | ⟨b', cur, rfl, hb', _⟩
  · cases hb
  · simp only [blk, Option.some.injEq] at hb; subst hb; rw [hb']; simp
/-- Where a slice's address leads after an append: where it was, or to a new block; nothing else is new. -/
def Grew (m m' : Mem) (a a' : Option Addr) : Prop :=
  Chg (fun b => blk a = some b) m m' ∧ (blk a' = blk a ∨ ∀ b, blk a' = some b → m b = none)
theorem nextcap_le (n o : Nat) (h : o < n) : Builtin.nextslicecap n o ≤ 4 * n + 3000 := by
  unfold Builtin.nextslicecap
  split
  · omega
  · split
    · omega
    · have : ∀ (r c : Nat), c ≤ 4 * n + 3000 → Builtin.growBy n r c ≤ 4 * n + 3000 := by
        intro r
        induction r with
        | zero => intro c hc; exact hc
        | succ r ih =>
          intro c hc
          unfold Builtin.growBy
          split
          · exact hc
          · exact ih _ (by omega)
      exact this 4 o (by omega)
/-- 'append' onto a slice of one's own. -/
theorem append_own {P : Program} {t e : TypeId} {z : Value} {sz bytes : Nat} (hE : ElemOK P t e z sz bytes) {m : Mem} {ty : TypeId} {cs : Array Bool}
    {a : Option Addr} {l c : Nat} {xs : List Value} (ho : Own m e sz a l c xs) {a2 : Option Addr} {l2 c2 : Nat} {news : List Value} (hc : CellsAt m a2 news) (hl : news.length = l2 * sz)
    (hone : ∀ v ∈ news, notOne v = false) (hsz : 0 < sz) (hlen : l + l2 ≤ 1099511627776) (hby : (4 * (l + l2) + 3000) * bytes ≤ 281474976710656) {K : Value → Mem → Prop} {Pn : List PanicEntry → Mem → Prop}
    (h : ∀ a' c' m', Own m' e sz a' (l + l2) c' (xs ++ news) → Grew m m' a a' → K (.slice a' (l + l2) c') m') :
    BiN P .append #[t, t] ty cs #[.slice a l c, .slice a2 l2 c2] m K Pn := by
  obtain ⟨i, hi, hzi, rfl, rfl⟩ := hE.hi
  have hfirst : ∀ (n : Nat) (aa : Option Addr) (cc : Nat) (vs : List Value) (mm : Mem) (nn : Nat) (Q : Array Value → Mem → Prop) (E : Value → Mem → Prop), CellsAt mm aa vs → vs.length = nn * i.size → Q vs.toArray mm →
      pt P (Builtin.firstCells i.size nn (.slice aa n cc)) Q E mm := by
    intro n aa cc vs mm nn Q E hv hvl hQ
    rcases hv.cases with ⟨b, o, rfl, hx⟩ | ⟨rfl, _⟩
    · simp only [Builtin.firstCells, loadCells]
      rw [← hvl]
      exact pt_loadCells vs 0 #[] (by simpa using hx) (by simpa using hQ)
    · cases aa with
      | none => exact hQ
      | some aa =>
        simp only [Builtin.firstCells, loadCells]
        rw [← hvl]
        exact hQ
  unfold BiN
  show pt P (do pure (Next.value (← Builtin.append_ #[t, t] ty #[.slice a l c, .slice a2 l2 c2])) : Sem Next) _ _ m
  rw [pt_bind]
  unfold Builtin.append_
  simp only [List.getElem?_toArray, List.getElem?_cons_zero, List.getElem?_cons_succ]
  rw [pt_bind, pt_under hE.ht]
  simp only []
  rw [pt_bind, pt_sizeOf hi, pt_bind, pt_under hE.ht]
  simp only [pt_bind, pt_pure, Bool.false_eq_true, if_false, Builtin.lenOf]
  rw [pt_ite]
  by_cases hroom : l + l2 ≤ c
  · rw [if_pos hroom]
    simp only [Bool.not_false, if_true]
    rw [pt_bind]
    refine hfirst l2 a2 c2 news m l2 _ _ hc hl ?_
    rcases ho.2 with ⟨rfl, rfl, rfl⟩ | ⟨b, cur, rfl, hb, hlc, hs, ht, hcm⟩
    · have h0 : l2 = 0 := by omega
      subst h0
      have hn : news = [] := List.eq_nil_of_length_eq_zero (by simpa using hl)
      subst hn
      simp only [pt_pure]
      exact h none 0 m (by simpa using ho) ⟨Chg.refl _ _, .inl rfl⟩
    · simp only []
      rw [pt_bind]
      have hsz2 : 0 + l * i.size + 0 + news.length ≤ cur.size := by
        rw [hs, hl, Nat.zero_add, Nat.add_zero, ← Nat.add_mul]; exact Nat.mul_le_mul_right _ hroom
      rw [add_none]
      refine pt_storeCells news 0 m cur hb hone hsz2 ?_
      simp only [pt_pure]
      refine h _ c _ ⟨by rw [List.length_append, ho.1, hl, Nat.add_mul], .inr ⟨b, _, rfl, set_same _ _ _, hroom, by rw [putCells_size, hs], ?_, hcm⟩⟩ ⟨?_, .inl rfl⟩
      · apply List.ext_getElem?
        intro j
        have hxl := ho.1
        have hlt : l * i.size + l2 * i.size ≤ cur.size := by rw [hs, ← Nat.add_mul]; exact Nat.mul_le_mul_right _ hroom
        rw [List.getElem?_take, Array.getElem?_toList, putCells_get _ _ _ _ hsz2, Nat.add_mul, List.getElem?_append, hxl]
        simp only [Nat.zero_add, Nat.add_zero, hl]
        by_cases h1 : j < l * i.size
        · rw [if_pos (by omega), if_neg (by omega), if_pos h1, ← ht, List.getElem?_take, if_pos h1]; simp
        · by_cases h2 : j < l * i.size + l2 * i.size
          · rw [if_pos h2, if_pos (by omega), if_neg h1]
          · rw [if_neg h2, if_neg h1]
            symm
            rw [List.getElem?_eq_none (by omega)]
      · exact (Chg.set _ _ _).mono (fun k e => by subst e; rfl)
  · rw [if_neg hroom]
    have hc0 : c < l + l2 := by omega
    have hmax : ¬ (((l + l2 : Nat) : Int) > IntKind.i64.max ∧ (False ∨ i.bytes = 0)) := by
      rintro ⟨h1, _⟩
      have : IntKind.i64.max = 9223372036854775807 := rfl
      rw [this] at h1; omega
    have hnext : ¬ Builtin.nextslicecap (l + l2) c * i.bytes > 2 ^ 48 := by
      have h1 := Nat.mul_le_mul_right i.bytes (nextcap_le (l + l2) c hc0)
      have : (2 : Nat) ^ 48 = 281474976710656 := rfl
      omega
    rw [pt_bind, pt_typeInfo hi]
    rw [pt_ite, if_neg hmax]
    rw [pt_bind, pt_typeInfo hi]
    rw [pt_ite, if_neg hnext]
    rw [pt_bind]
    intro tp
    have hge : l + l2 ≤ (Question.appendCap (l + l2) c e).cut tp := by simp [Question.cut]
    have hlt63 : (Question.appendCap (l + l2) c e).cut tp ≤ 9223372036854775807 := by
      have h1 : tp % (2 ^ 63 - (l + l2)) < 2 ^ 63 - (l + l2) := Nat.mod_lt _ (by omega)
      simp only [Question.cut]
      omega
    generalize (Question.appendCap (l + l2) c e).cut tp = nc at hge hlt63 ⊢
    show pt P (Sem.pure nc) _ _ m
    simp only [pt]
    rw [pt_bind, pt_typeInfo hi, pt_bind]
    have hask : ∀ n (Q : Unit → Mem → Prop) E, Q () m → pt P (askRoom n) Q E m := by
      intro n Q E hQ; unfold askRoom; split <;> exact hQ
    refine hask _ _ _ ?_
    rw [pt_bind]
    refine hfirst l a c xs m l _ _ ho.cells ho.1 ?_
    simp only [Bool.not_false, if_true]
    rw [pt_bind]
    refine hfirst l2 a2 c2 news m l2 _ _ hc hl ?_
    rw [pt_bind, pt_zero hi hzi, pt_bind, pt_newRow]
    intro b hb
    simp only [pt_pure]
    have hzc : (Builtin.zeroCells z.cells (nc - (l + l2))).size = (nc - (l + l2)) * i.size := by simp [Builtin.zeroCells, hE.hz]
    refine h _ nc _ ⟨by rw [List.length_append, ho.1, hl, Nat.add_mul], .inr ⟨b, _, rfl, set_same _ _ _, hge, ?_, ?_, hlt63⟩⟩ ⟨(Le.set hb _).chg _, .inr fun b' hb' => ?_⟩
    · rw [Array.size_append, Array.size_append, hzc]
      simp only [List.size_toArray, ho.1, hl, ← Nat.add_mul]
      congr 1; omega
    · have hx : (xs ++ news).length = (l + l2) * i.size := by rw [List.length_append, ho.1, hl, Nat.add_mul]
      simp only [Array.toList_append]
      rw [← hx]
      exact List.take_left
    · simp only [blk, Option.some.injEq] at hb'; subst hb'; exact hb
structure MapIB (P : Program) (t : TypeId) : Prop where
  h : ∃ k e, P.underlying t = some (.map k e) ∧ P.underlying k = some (.int .i64) ∧ (P.info? e).bind (·.zero) = some (.bool false)
end Go.H
set_option linter.unusedVariables false
namespace Go.H
theorem wi {n : Int} (h1 : -9223372036854775808 ≤ n) (h2 : n ≤ 9223372036854775807) : IntKind.i64.wrap n = n := IntWalk.i64_in n ⟨h1, h2⟩
/-- A test, its answer told as a proposition. -/
theorem BrD {p : Prop} [Decidable p] {A B : Prop} (h : p → A) (k : ¬ p → B) : Br (decide p) A B := by
  by_cases hp : p
  · rw [decide_eq_true hp]; exact h hp
  · rw [decide_eq_false hp]; exact k hp
theorem BrDt {p : Prop} [Decidable p] {A B : Prop} (hp : p) (h : A) : Br (decide p) A B := by rw [decide_eq_true hp]; exact h
theorem BrDf {p : Prop} [Decidable p] {A B : Prop} (hp : ¬ p) (h : B) : Br (decide p) A B := by rw [decide_eq_false hp]; exact h
/-- '==' and '!=' of numbers. -/
theorem BrE {x y : Int} {A B : Prop} (h : x = y → A) (k : x ≠ y → B) : Br (x == y) A B := by
  by_cases hp : x = y
  · rw [beq_iff_eq.mpr hp]; exact h hp
  · rw [beq_eq_false_iff_ne.mpr hp]; exact k hp
theorem BrEt {x y : Int} {A B : Prop} (hp : x = y) (h : A) : Br (x == y) A B := by rw [beq_iff_eq.mpr hp]; exact h
theorem BrEf {x y : Int} {A B : Prop} (hp : x ≠ y) (h : B) : Br (x == y) A B := by rw [beq_eq_false_iff_ne.mpr hp]; exact h
theorem BrN {x y : Int} {A B : Prop} (h : x ≠ y → A) (k : x = y → B) : Br (x != y) A B := by
  by_cases hp : x = y
  · have : (x != y) = false := by simp [hp]
    rw [this]; exact k hp
  · have : (x != y) = true := by simp [hp]
    rw [this]; exact h hp
theorem BrNf {x y : Int} {A B : Prop} (hp : x = y) (h : B) : Br (x != y) A B := BrN (fun e => absurd hp e) (fun _ => h)
theorem cell_of {m : Mem} {b o : Nat} {c : Array Value} {e : TypeId} {x : Nat × Nat} {v : Value} (h : m b = some (.cells c e x)) (hv : c[o]? = some v) : m.cell b o = some v := by
  unfold Mem.cell; rw [h]; exact hv
theorem LdV.of {m : Mem} {b o : Nat} {c : Array Value} {e : TypeId} {x : Nat × Nat} {v : Value} {K : Value → Prop} (h : m b = some (.cells c e x)) (hv : c[o]? = some v) (k : K v) : LdV m b o K :=
  LdV.mk (cell_of h hv) k
theorem CellsAt.ld {m : Mem} {b o : Nat} {vs : List Value} (h : CellsAt m (some ⟨b, o, none⟩) vs) {j : Nat} {v : Value} (hv : vs[j]? = some v) : m.cell b (o + j) = some v := h j v hv
theorem St1.of {m : Mem} {b o : Nat} {c : Array Value} {e : TypeId} {v : Value} {K : Mem → Prop} (h : m b = some (.cells c e (0, 0))) (ho : o < c.size) (hv : notOne v = false)
    (k : K (m.set b (.cells (c.setIfInBounds o v) e (0, 0)))) : St1 m b o v K := by
  unfold St1; rw [h]; exact ⟨ho, hv, by simp, k⟩
theorem St1.to {m : Mem} {b o : Nat} {c : Array Value} {e : TypeId} {v : Value} (c' : Array Value) {K : Mem → Prop} (h : m b = some (.cells c e (0, 0))) (ho : o < c.size) (hv : notOne v = false)
    (hc : c.setIfInBounds o v = c') (k : K (m.set b (.cells c' e (0, 0)))) : St1 m b o v K := St1.of h ho hv (hc ▸ k)
def ints (xs : List Int) : List Value := xs.map fun x => Value.int .i64 x
theorem ints_len (xs : List Int) : (ints xs).length = xs.length := by simp [ints]
theorem u8s_len (xs : List UInt8) : (u8s xs).length = xs.length := by simp [u8s]
theorem ints_one (xs : List Int) : ∀ v ∈ ints xs, notOne v = false := by
  intro v hv
  simp only [ints, List.mem_map] at hv
  obtain ⟨x, _, rfl⟩ := hv
  rfl
theorem ints_get {xs : List Int} {i : Nat} (h : i < xs.length) : (ints xs)[i]? = some (.int .i64 xs[i]) := by simp [ints, h]
theorem u8s_get {xs : List UInt8} {i : Nat} (h : i < xs.length) : (u8s xs)[i]? = some (.int .u8 xs[i].toNat) := by simp [u8s, h]
/-- A block of one's own is apart from what is old. -/
def Fresh (m : Mem) (a : Option Addr) : Prop := ∀ b, blk a = some b → m b = none
theorem Fresh.none (m : Mem) : Fresh m none := fun _ h => by cases h
theorem Fresh.le {m m' : Mem} (h : Le m m') {a : Option Addr} (k : Fresh m' a) : Fresh m a := fun b hb => by
  have := k b hb
  cases hm : m b with
  | none => rfl
  | some o => rw [h b o hm] at this; cases this
/-- 'append' onto an own row: told as what is new. -/
theorem grown_le {m m1 m' : Mem} {a a' : Option Addr} (h1 : Le m m1) (h0 : Fresh m a) (hg : Grew m1 m' a a') : Le m m' ∧ Fresh m a' := by
  refine ⟨fun k o hk => hg.1.eq k o (h1 k o hk) (fun e => ?_), fun b hb => ?_⟩
  · rw [h0 k e] at hk; cases hk
  · rcases hg.2 with e | e
    · exact h0 b (by rw [← e]; exact hb)
    · exact Fresh.le h1 e b hb
/-- 'append(s[:0:0], s...)' and its kin: onto a row made for it. -/
theorem clone_gen {P : Program} {t e : TypeId} {z : Value} {sz bytes : Nat} (hE : ElemOK P t e z sz bytes) (hsz : 0 < sz) {m : Mem} {ty : TypeId} {cs : Array Bool} {a : Option Addr} {l c : Nat} {vs : List Value}
    (hc : CellsAt m a vs) (hl : vs.length = l * sz) (hone : ∀ v ∈ vs, notOne v = false) (hlen : l ≤ 1099511627776) (hby : (4 * l + 3000) * bytes ≤ 281474976710656) {K : Value → Mem → Prop} {Pn : List PanicEntry → Mem → Prop}
    (h : ∀ a' c' m', Le m m' → Own m' e sz a' l c' vs → Fresh m a' → K (.slice a' l c') m') :
    ∀ b5, m b5 = none → BiN P .append #[t, t] ty cs #[.slice (some ⟨b5, 0, none⟩) 0 0, .slice a l c] (m.set b5 (.cells #[] e (0, 0))) K Pn := by
  intro b5 hb
  have ho : Own (m.set b5 (.cells #[] e (0, 0))) e sz (some ⟨b5, 0, none⟩) 0 0 [] := by
    refine ⟨by simp, .inr ⟨b5, #[], rfl, set_same _ _ _, Nat.le_refl _, by simp, by simp, by omega⟩⟩
  refine append_own hE ho (hc.le (Le.set hb _)) hl hone hsz (by omega) (by simpa using hby) ?_
  intro a' c' m' ho' hg
  rw [Nat.zero_add, List.nil_append] at ho'
  rw [Nat.zero_add]
  have := grown_le (Le.set hb (.cells #[] e (0, 0))) (a := some ⟨b5, 0, none⟩) (by intro b e; cases e; exact hb) hg
  exact h a' c' m' this.1 ho' this.2
/-- A part of a slice's cells. -/
theorem CellsAt.part {m : Mem} {a : Option Addr} {vs : List Value} (h : CellsAt m a vs) (lo : Nat) {ws : List Value} (hw : ∀ j u, ws[j]? = some u → vs[lo + j]? = some u) (hn : vs = [] → ws = []) {c sz : Nat} (hs : sz = 1) (hz : c = lo → ws = []) : CellsAt m (shf a lo sz c) ws := by
  subst hs
  unfold shf
  split
  · rename_i hc
    rw [hz hc]
    exact CellsAt.empty _ _
  · rcases h.cases with ⟨b, o, rfl, hx⟩ | ⟨rfl, _⟩
    · simp only [Option.map_some, add_none]
      intro j u hu
      have := hx (lo + j) u (hw j u hu)
      rw [Nat.mul_one, Nat.add_assoc]; exact this
    · rw [hn rfl]
      exact CellsAt.empty _ _
theorem IxS.ld {m : Mem} {a : Option Addr} {len : Nat} {vs : List Value} (hc : CellsAt m a vs) (hl : vs.length = len) {i : Int} (h0 : 0 ≤ i) (h1 : i < len) {K : Value → Prop}
    (k : ∀ v, vs[i.toNat]? = some v → K v) : IxS a len i 1 (fun b o => LdV m b o K) := by
  refine ⟨h0, h1, ?_⟩
  have hlt : i.toNat < vs.length := by omega
  rcases hc.cases with ⟨b, o, rfl, hx⟩ | ⟨rfl, _⟩
  · have := hx i.toNat _ (List.getElem?_eq_getElem hlt)
    simp only [Nat.mul_one]
    exact LdV.mk this (k _ (List.getElem?_eq_getElem hlt))
  · simp at hl; omega
theorem IxS.ints {m : Mem} {a : Option Addr} {len : Nat} {xs : List Int} (hc : CellsAt m a (ints xs)) (hl : xs.length = len) {i : Int} (h0 : 0 ≤ i) (h1 : i < len) {K : Value → Prop}
    (k : ∀ x, xs[i.toNat]? = some x → K (.int .i64 x)) : IxS a len i 1 (fun b o => LdV m b o K) := by
  refine IxS.ld hc (by rw [ints_len]; exact hl) h0 h1 ?_
  intro v hv
  have hlt : i.toNat < xs.length := by omega
  rw [ints_get hlt] at hv
  cases hv
  exact k _ (List.getElem?_eq_getElem hlt)
theorem IxS.u8s {m : Mem} {a : Option Addr} {len : Nat} {xs : List UInt8} (hc : CellsAt m a (u8s xs)) (hl : xs.length = len) {i : Int} (h0 : 0 ≤ i) (h1 : i < len) {K : Value → Prop}
    (k : ∀ x, xs[i.toNat]? = some x → K (.int .u8 x.toNat)) : IxS a len i 1 (fun b o => LdV m b o K) := by
  refine IxS.ld hc (by rw [u8s_len]; exact hl) h0 h1 ?_
  intro v hv
  have hlt : i.toNat < xs.length := by omega
  rw [u8s_get hlt] at hv
  cases hv
  exact k _ (List.getElem?_eq_getElem hlt)
theorem CellsAt.left {m : Mem} {a : Option Addr} {xs ys : List Value} (h : CellsAt m a (xs ++ ys)) : CellsAt m a xs := by
  rcases h.cases with ⟨b, o, rfl, hx⟩ | ⟨hx, _⟩
  · intro j u hu
    refine hx j u ?_
    rw [List.getElem?_append_left]
    · exact hu
    · by_cases hlt : j < xs.length
      · exact hlt
      · rw [List.getElem?_eq_none (by omega)] at hu; cases hu
  · rw [List.append_eq_nil_iff] at hx
    rw [hx.1]
    exact CellsAt.empty _ _
/-- The given world's cells, as the frame tells them. -/
theorem CellsAt.given {w : World} {a : Addr} {vs : List Value} (h : ∀ j u, vs[j]? = some u → w.cell? (a.add j) = some u) : CellsAt (fun b => w.heap[b]?) (some a) vs := by
  obtain ⟨b, o, sp⟩ := a
  cases vs with
  | nil => exact CellsAt.empty _ _
  | cons v vs =>
    have h0 := h 0 v rfl
    cases sp with
    | some s =>
      have : w.cell? (Addr.add ⟨b, o, some s⟩ 0) = none := by
        simp only [Addr.add, if_true, World.cell?]
        split <;> simp
      rw [this] at h0; cases h0
    | none =>
      intro j u hu
      have := h j u hu
      rw [add_none] at this
      unfold Mem.cell
      unfold World.cell? at this
      split at this
      · rename_i c e x hb
        simp only [hb]
        simpa using this
      · cases this
theorem IxS.st {m : Mem} {b : Nat} {cur : Array Value} {e : TypeId} (h : m b = some (.cells cur e (0, 0))) {len : Nat} {i : Int} (h0 : 0 ≤ i) (h1 : i < len) (hl : len ≤ cur.size) {v : Value} (hv : notOne v = false) {K : Mem → Prop}
    (k : K (m.set b (.cells (cur.setIfInBounds i.toNat v) e (0, 0)))) : IxS (some ⟨b, 0, none⟩) len i 1 (fun b o => St1 m b o v K) := by
  refine ⟨h0, h1, ?_⟩
  show St1 m b (0 + i.toNat * 1) v K
  rw [Nat.zero_add, Nat.mul_one]
  exact St1.of h (by omega) hv k
theorem Chg.to_le {F : Nat → Prop} {m m1 m2 : Mem} (h : Chg F m1 m2) (hle : Le m m1) (hF : ∀ b, F b → m b = none) : Le m m2 := fun b o hb =>
  h.eq b o (hle b o hb) (fun hx => by rw [hF b hx] at hb; cases hb)
theorem Le.new {m m' : Mem} (h : Le m m') {b : Nat} (hb : m' b = none) : m b = none := (h.chg fun _ => False).new hb
theorem cells_at {m : Mem} {b : Nat} {c : Array Value} {e : TypeId} {x : Nat × Nat} (h : m b = some (.cells c e x)) {vs : List Value} (hv : c.toList = vs) : CellsAt m (some ⟨b, 0, none⟩) vs := by
  intro j u hu
  rw [Nat.zero_add]
  refine cell_of h ?_
  rw [← hv] at hu
  simpa using hu
/-- A memory without some blocks. -/
noncomputable def Mem.wo (m : Mem) (F : Nat → Prop) : Mem := fun b => open Classical in if F b then none else m b
theorem wo_le (m : Mem) (F : Nat → Prop) : Le (m.wo F) m := fun b o h => by
  unfold Mem.wo at h
  split at h
  · cases h
  · exact h
theorem wo_in {m : Mem} {F : Nat → Prop} {b : Nat} (h : ¬ F b) : m.wo F b = m b := by
  unfold Mem.wo; rw [if_neg h]
theorem wo_out {m : Mem} {F : Nat → Prop} {b : Nat} (h : F b) : m.wo F b = none := by
  unfold Mem.wo; rw [if_pos h]
theorem le_wo {m m' : Mem} {F : Nat → Prop} (h : Le m m') (hF : ∀ b, F b → m b = none) : Le m (m'.wo F) := fun b o hb => by
  rw [wo_in (fun hx => by rw [hF b hx] at hb; cases hb)]; exact h b o hb
theorem CellsAt.wo {m : Mem} {F : Nat → Prop} {a : Option Addr} {vs : List Value} (h : CellsAt m a vs) (hn : ∀ b, blk a = some b → ¬ F b) : CellsAt (m.wo F) a vs := by
  rcases h.cases with ⟨b, o, rfl, hx⟩ | ⟨rfl, _⟩
  · intro j u hu
    have := hx j u hu
    unfold Mem.cell at *
    rw [wo_in (hn b rfl)]; exact this
  · exact CellsAt.empty _ _
/-- Writing one element of an own row. -/
theorem Own.st {m : Mem} {e : TypeId} {a : Option Addr} {l c : Nat} {xs : List Value} (h : Own m e 1 a l c xs) {i : Int} (h0 : 0 ≤ i) (h1 : i < l) {v : Value} (hv : notOne v = false) {K : Mem → Prop}
    (k : ∀ m', Chg (fun b => blk a = some b) m m' → Own m' e 1 a l c (xs.set i.toNat v) → K m') : IxS a l i 1 (fun b o => St1 m b o v K) := by
  obtain ⟨hl, hx⟩ := h
  rcases hx with ⟨rfl, rfl, rfl⟩ | ⟨b, cur, rfl, hb, hlc, hs, ht, hcm⟩
  · omega
  · refine IxS.st hb h0 h1 (by omega) hv ?_
    refine k _ ((Chg.set _ _ _).mono (fun k e => by subst e; rfl)) ⟨by simpa using hl, .inr ⟨b, _, rfl, set_same _ _ _, hlc, by simp [hs], ?_, hcm⟩⟩
    rw [Array.toList_setIfInBounds, List.take_set, ht]
/-- 'append(xs, i)' onto an own row of numbers. -/
theorem push_one {P : Program} {t e : TypeId} {z : Value} {bytes : Nat} (hE : ElemOK P t e z 1 bytes) {m : Mem} {ty : TypeId} {cs : Array Bool} {a : Option Addr} {l c : Nat} {xs : List Value} (ho : Own m e 1 a l c xs) {v : Value} (hv : notOne v = false)
    (hlen : l ≤ 1000000000) (hby : bytes ≤ 64) {K : Value → Mem → Prop} {Pn : List PanicEntry → Mem → Prop}
    (h : ∀ a' c' m', Chg (fun b => blk a = some b) m m' → Own m' e 1 a' (l + 1) c' (xs ++ [v]) → (blk a' = blk a ∨ Fresh m a') → K (.slice a' (l + 1) c') m') :
    ∀ b, m b = none → BiN P .append #[t, t] ty cs #[.slice a l c, .slice (some ⟨b, 0, none⟩) 1 1] (m.set b (.cells #[v] e (0, 0))) K Pn := by
  intro b hb
  refine append_own hE (Own.le (Le.set hb _) ho) (news := [v]) (cells_at (set_same _ _ _) rfl) rfl (by intro u hu; simp at hu; subst hu; exact hv) (by decide) (by omega) ?_ ?_
  · exact Nat.le_trans (Nat.mul_le_mul_left (4 * (l + 1) + 3000) hby) (by omega)
  intro a' c' m' ho' hg
  refine h a' c' m' (((Le.set hb _).chg _).trans hg.1 (fun _ _ e => e)) ho' ?_
  rcases hg.2 with e | e
  · exact .inl e
  · exact .inr (Fresh.le (Le.set hb _) e)
/-- 'append(xs, x)' onto an own row, elements of several cells. -/
theorem push_row {P : Program} {t e : TypeId} {z : Value} {sz bytes : Nat} (hE : ElemOK P t e z sz bytes) (hsz : 0 < sz) {m : Mem} {ty : TypeId} {cs : Array Bool} {a : Option Addr} {l c : Nat} {xs : List Value} (ho : Own m e sz a l c xs) {news : Array Value} (hn : news.size = sz)
    (hv : ∀ v ∈ news.toList, notOne v = false) (hlen : l ≤ 1000000000) (hby : bytes ≤ 640) {K : Value → Mem → Prop} {Pn : List PanicEntry → Mem → Prop}
    (h : ∀ a' c' m', Chg (fun b => blk a = some b) m m' → Own m' e sz a' (l + 1) c' (xs ++ news.toList) → (blk a' = blk a ∨ Fresh m a') → K (.slice a' (l + 1) c') m') :
    ∀ b, m b = none → BiN P .append #[t, t] ty cs #[.slice a l c, .slice (some ⟨b, 0, none⟩) 1 1] (m.set b (.cells news e (0, 0))) K Pn := by
  intro b hb
  refine append_own hE (Own.le (Le.set hb _) ho) (news := news.toList) (cells_at (set_same _ _ _) rfl) (by simpa using hn) hv hsz (by omega) ?_ ?_
  · exact Nat.le_trans (Nat.mul_le_mul_left (4 * (l + 1) + 3000) hby) (by omega)
  intro a' c' m' ho' hg
  refine h a' c' m' (((Le.set hb _).chg _).trans hg.1 (fun _ _ e => e)) ho' ?_
  rcases hg.2 with e | e
  · exact .inl e
  · exact .inr (Fresh.le (Le.set hb _) e)
/-- Writing one cell of an element of an own row. -/
theorem Own.stN {m : Mem} {e : TypeId} {sz : Nat} {a : Option Addr} {l c : Nat} {xs : List Value} (h : Own m e sz a l c xs) {i : Int} (h0 : 0 ≤ i) (h1 : i < l) {j : Nat} (hj : j < sz) {v : Value} (hv : notOne v = false) {K : Mem → Prop}
    (k : ∀ m', Chg (fun b => blk a = some b) m m' → Own m' e sz a l c (xs.set (i.toNat * sz + j) v) → K m') : IxS a l i sz (fun b o => St1 m b (o + j) v K) := by
  obtain ⟨hl, hx⟩ := h
  rcases hx with ⟨rfl, rfl, rfl⟩ | ⟨b, cur, rfl, hb, hlc, hs, ht, hcm⟩
  · omega
  · refine ⟨h0, h1, ?_⟩
    have hin : i.toNat * sz + j < cur.size := by
      rw [hs]
      have : (i.toNat + 1) * sz ≤ c * sz := Nat.mul_le_mul_right _ (by omega)
      rw [Nat.add_mul, Nat.one_mul] at this
      omega
    show St1 m b (0 + i.toNat * sz + j) v K
    rw [Nat.zero_add]
    refine St1.of hb hin hv ?_
    refine k _ ((Chg.set _ _ _).mono (fun k e => by subst e; rfl)) ⟨by simpa using hl, .inr ⟨b, _, rfl, set_same _ _ _, hlc, by simp [hs], ?_, hcm⟩⟩
    rw [Array.toList_setIfInBounds, List.take_set, ht]
theorem ElemOK.of {P : Program} {t e : TypeId} {z : Value} {sz bytes : Nat} (h0 : P.underlying t = some (.slice e)) (h : (P.info? e).map (fun i => (i.zero, i.size, i.bytes)) = some (some z, sz, bytes)) (hz : z.cells.size = sz) : ElemOK P t e z sz bytes := by
  cases hi : P.info? e with
  | none => rw [hi] at h; cases h
  | some i =>
    rw [hi] at h
    simp only [Option.map_some, Option.some.injEq, Prod.mk.injEq] at h
    exact ⟨h0, ⟨i, hi, h.1, h.2.1, h.2.2⟩, hz⟩
theorem MapIB.of {P : Program} {t : TypeId} (h : (match P.underlying t with | some (.map k e) => (P.underlying k, (P.info? e).bind (·.zero)) | _ => (none, none)) = (some (.int .i64), some (.bool false))) : MapIB P t := by
  split at h
  · rename_i k e hm
    simp only [Prod.mk.injEq] at h
    exact ⟨k, e, hm, h.1, h.2⟩
  · cases h
/-- A part of a row of elements. -/
theorem CellsAt.sub {m : Mem} {a : Option Addr} {vs : List Value} {sz lo hi c : Nat} (h : CellsAt m a vs) (hh : hi * sz ≤ vs.length) (hc : hi ≤ c) : CellsAt m (shf a lo sz c) ((vs.take (hi * sz)).drop (lo * sz)) := by
  unfold shf
  split
  · rename_i e
    have hlt : hi * sz ≤ lo * sz := Nat.mul_le_mul_right _ (by omega)
    rw [List.drop_of_length_le (by rw [List.length_take]; omega)]
    exact CellsAt.empty _ _
  · rcases h.cases with ⟨b, o, rfl, hx⟩ | ⟨rfl, _⟩
    · simp only [Option.map_some, add_none]
      intro j u hu
      rw [List.getElem?_drop, List.getElem?_take] at hu
      split at hu
      · have := hx _ u hu
        rw [Nat.add_assoc]; exact this
      · cases hu
    · simp only [List.take_nil, List.drop_nil]; exact CellsAt.empty _ _
theorem Own.cap {m : Mem} {e : TypeId} {sz : Nat} {a : Option Addr} {l c : Nat} {xs : List Value} (h : Own m e sz a l c xs) : l ≤ c := by
  obtain ⟨_, hx⟩ := h
  rcases hx with ⟨_, q, r⟩ | ⟨_, _, _, _, q, _⟩ <;> omega
/-- Both cells of a block are written. -/
theorem St1.two {m : Mem} {b : Nat} {x y u v : Value} {e : TypeId} {K : Mem → Prop} (h : m b = some (.cells #[x, y] e (0, 0))) (hu : notOne u = false) (hv : notOne v = false)
    (k : K (m.set b (.cells #[u, v] e (0, 0)))) : St1 m b 0 u fun m' => St1 m' b (0 + 1) v K := by
  refine St1.to #[u, y] (o := 0) h (by simp) hu rfl ?_
  refine St1.to #[u, v] (o := 0 + 1) (set_same _ _ _) (by simp) hv rfl ?_
  rw [set_set]; exact k
/-- Cells of a literal block. -/
theorem LdV.s0 {m : Mem} {b : Nat} {x : Value} {r : List Value} {e : TypeId} {fr : Nat × Nat} {K : Value → Prop} (h : m b = some (.cells (x :: r).toArray e fr)) (k : K x) : LdV m b 0 K := LdV.of h rfl k
theorem LdV.s1 {m : Mem} {b : Nat} {x0 x : Value} {r : List Value} {e : TypeId} {fr : Nat × Nat} {K : Value → Prop} (h : m b = some (.cells (x0 :: x :: r).toArray e fr)) (k : K x) : LdV m b 1 K := LdV.of h rfl k
theorem LdV.s2 {m : Mem} {b : Nat} {x0 x1 x : Value} {r : List Value} {e : TypeId} {fr : Nat × Nat} {K : Value → Prop} (h : m b = some (.cells (x0 :: x1 :: x :: r).toArray e fr)) (k : K x) : LdV m b 2 K := LdV.of h rfl k
theorem LdV.s3 {m : Mem} {b : Nat} {x0 x1 x2 x : Value} {r : List Value} {e : TypeId} {fr : Nat × Nat} {K : Value → Prop} (h : m b = some (.cells (x0 :: x1 :: x2 :: x :: r).toArray e fr)) (k : K x) : LdV m b 3 K := LdV.of h rfl k
theorem LdV.s4 {m : Mem} {b : Nat} {x0 x1 x2 x3 x : Value} {r : List Value} {e : TypeId} {fr : Nat × Nat} {K : Value → Prop} (h : m b = some (.cells (x0 :: x1 :: x2 :: x3 :: x :: r).toArray e fr)) (k : K x) : LdV m b 4 K := LdV.of h rfl k
theorem LdV.s5 {m : Mem} {b : Nat} {x0 x1 x2 x3 x4 x : Value} {r : List Value} {e : TypeId} {fr : Nat × Nat} {K : Value → Prop} (h : m b = some (.cells (x0 :: x1 :: x2 :: x3 :: x4 :: x :: r).toArray e fr)) (k : K x) : LdV m b 5 K := LdV.of h rfl k
theorem UnS.mk {a : Option Addr} {l c : Nat} {K : Option Addr → Nat → Nat → Prop} (h : K a l c) : UnS (.slice a l c) K := h
theorem UnB.mk {b : Bool} {K : Bool → Prop} (h : K b) : UnB (.bool b) K := h
theorem UnP.mk {a : Option Addr} {K : Option Addr → Prop} (h : K a) : UnP (.pointer a) K := h
theorem UnStr.mk {a : ByteArray} {K : ByteArray → Prop} (h : K a) : UnStr (.string a) K := h
theorem UnTup.mk {l : List Value} {K : List Value → Prop} (h : K l) : UnTup (.tuple l.toArray) K := h
theorem UnAgg.mk {l : List Value} {K : List Value → Prop} (h : K l) : UnAgg (.agg l.toArray) K := h
theorem UnCons.mk {x : Value} {l : List Value} {K : Value → List Value → Prop} (h : K x l) : UnCons (x :: l) K := h
theorem UnNil.mk {K : Prop} (h : K) : UnNil [] K := h
end Go.H
set_option linter.unusedVariables false
namespace Go.H
open Go.RowKit
theorem HC.calls {P : Program} {f : FuncId} {fn : Func} {args : Array Value} {w : World} {v : Value} (hf : P.funcs[f]? = some fn) (hb : fn.body.isNone = false) (hn : (fn.name == "runtime.NumGoroutine") = false) (h : HC P f args (fun b => w.heap[b]?) (fun e m' => e = .returned v ∧ Le (fun b => w.heap[b]?) m')) :
    Calls P f args w fun e w' => e = .returned v ∧ Below w.heap.size w w' := by
  have hen := callFunc_enters (P := P) hf hn hb args w
  rcases h with h | h
  rotate_left
  · have := pt_sound P _ _ w (fun b o hb => hb) h
    rw [hen] at this
    exact (this.elim fun m' hx => hx.1).elim
  refine (h.2 w (fun b o hb => hb)).mono ?_
  rintro e w' ⟨m', _, ⟨rfl, hle⟩, hF, hfr⟩
  refine ⟨rfl, hfr.os, hfr.tape, hfr.output, hfr.size, fun k hk => ?_⟩
  have h1 : w.heap[k]? = some w.heap[k] := Array.getElem?_eq_getElem hk
  rw [h1]
  exact hF k _ (hle k _ h1)
theorem wf_u8 {n : Int} (h : (Lit.int .u8 n).wf = true) : 0 ≤ n ∧ n < 256 := by
  have e1 : IntKind.u8.min = 0 := rfl
  have e2 : IntKind.u8.max = 255 := rfl
  simp only [Lit.wf, e1, e2, Bool.and_eq_true, decide_eq_true_eq] at h
  omega
end Go.H
