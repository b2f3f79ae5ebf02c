/- Printed by this project's own gen.py: the shallow forms of Go functions over the logic H, and that the machine meets them. -/
import Derived.Test.YtpbnhcggfgegkaaDoorH7
import Derived.Test.YtpbnhcggfgegkaaDoorProg
set_option linter.unusedVariables false
set_option maxRecDepth 100000
namespace Go.E
open Go.H
noncomputable section
noncomputable abbrev P : Program := Go.Proofs.Tryd.prog
theorem follows : P.follows .mixedOrders = true := by kernel_rfl
abbrev T_ : TypeId := 0
abbrev T_api_Errno : TypeId := 26
abbrev T_api_Set : TypeId := 25
abbrev T_api_Set_int_api_Errno : TypeId := 27
abbrev T_arr0_ptr_runtime_PanicNilError : TypeId := 74
abbrev T_arr2_uint8 : TypeId := 57
abbrev T_arr4_uint64 : TypeId := 24
abbrev T_arr64_uint8 : TypeId := 70
abbrev T_bool : TypeId := 4
abbrev T_class_reader : TypeId := 51
abbrev T_class_refusal : TypeId := 47
abbrev T_class_refusal_bool : TypeId := 48
abbrev T_int : TypeId := 3
abbrev T_int32 : TypeId := 21
abbrev T_int64 : TypeId := 2
abbrev T_internal_abi_BoundsErrorCode : TypeId := 6
abbrev T_internal_abi_Kind : TypeId := 80
abbrev T_internal_abi_NameOff : TypeId := 83
abbrev T_internal_abi_TFlag : TypeId := 79
abbrev T_internal_abi_Type : TypeId := 86
abbrev T_internal_abi_TypeOff : TypeId := 84
abbrev T_internal_runtime_maps_unhashableTypeError : TypeId := 19
abbrev T_ptr_class_reader : TypeId := 49
abbrev T_ptr_internal_abi_Type : TypeId := 17
abbrev T_ptr_runtime_PanicNilError : TypeId := 16
abbrev T_ptr_runtime_TypeAssertionError : TypeId := 15
abbrev T_ptr_uint8 : TypeId := 82
abbrev T_runtime_PanicNilError : TypeId := 76
abbrev T_runtime_TypeAssertionError : TypeId := 73
abbrev T_runtime_boundsError : TypeId := 8
abbrev T_runtime_errorAddressString : TypeId := 14
abbrev T_runtime_errorString : TypeId := 10
abbrev T_runtime_plainError : TypeId := 11
abbrev T_sl_arr2_uint8 : TypeId := 55
abbrev T_sl_uint8 : TypeId := 33
abbrev T_string : TypeId := 9
abbrev T_struct13 : TypeId := 13
abbrev T_struct18 : TypeId := 18
abbrev T_struct46 : TypeId := 46
abbrev T_struct50 : TypeId := 50
abbrev T_struct7 : TypeId := 7
abbrev T_struct72 : TypeId := 72
abbrev T_struct75 : TypeId := 75
abbrev T_struct85 : TypeId := 85
abbrev T_t1 : TypeId := 1
abbrev T_t20 : TypeId := 20
abbrev T_t22 : TypeId := 22
abbrev T_t28 : TypeId := 28
abbrev T_t29 : TypeId := 29
abbrev T_t30 : TypeId := 30
abbrev T_t31 : TypeId := 31
abbrev T_t32 : TypeId := 32
abbrev T_t34 : TypeId := 34
abbrev T_t35 : TypeId := 35
abbrev T_t36 : TypeId := 36
abbrev T_t37 : TypeId := 37
abbrev T_t38 : TypeId := 38
abbrev T_t39 : TypeId := 39
abbrev T_t40 : TypeId := 40
abbrev T_t41 : TypeId := 41
abbrev T_t43 : TypeId := 43
abbrev T_t44 : TypeId := 44
abbrev T_t45 : TypeId := 45
abbrev T_t52 : TypeId := 52
abbrev T_t54 : TypeId := 54
abbrev T_t56 : TypeId := 56
abbrev T_t58 : TypeId := 58
abbrev T_t59 : TypeId := 59
abbrev T_t60 : TypeId := 60
abbrev T_t61 : TypeId := 61
abbrev T_t62 : TypeId := 62
abbrev T_t63 : TypeId := 63
abbrev T_t64 : TypeId := 64
abbrev T_t65 : TypeId := 65
abbrev T_t66 : TypeId := 66
abbrev T_t67 : TypeId := 67
abbrev T_t69 : TypeId := 69
abbrev T_t71 : TypeId := 71
abbrev T_t77 : TypeId := 77
abbrev T_t81 : TypeId := 81
abbrev T_uint : TypeId := 68
abbrev T_uint32 : TypeId := 78
abbrev T_uint64 : TypeId := 23
abbrev T_uint8 : TypeId := 5
abbrev T_uint8_bool : TypeId := 42
abbrev T_uint8_int : TypeId := 53
abbrev T_uintptr : TypeId := 12
abbrev T_unsafe_Pointer : TypeId := 87
namespace class_Parse_1
def id : FuncId := 28
end class_Parse_1
namespace internal_bytealg_IndexByteString
def id : FuncId := 51
end internal_bytealg_IndexByteString
def eyotlaw8_ClassParses.id : FuncId := 3
def eyotlaw8_ClassBack.id : FuncId := 4
def eyotlaw8_ClassJoins.id : FuncId := 5
def eyotlaw8_ClassRuns.id : FuncId := 6
def eyotlaw8_ClassSigns.id : FuncId := 7
def eyotlaw8_begun.id : FuncId := 10
def class_Parse.id : FuncId := 11
def eyotref8_Class.id : FuncId := 12
def eyotref8_Empty.id : FuncId := 13
def class_Show.id : FuncId := 14
def eyotlaw8_sign.id : FuncId := 15
def class_Or.id : FuncId := 16
def class_Of.id : FuncId := 17
def class_Not.id : FuncId := 18
def eyotref8_ShowClass.id : FuncId := 19
def class_Has.id : FuncId := 20
def class_Least.id : FuncId := 21
def eyotref8_Has.id : FuncId := 22
def eyotref8_Not.id : FuncId := 26
def eyotref8_Of.id : FuncId := 27
def class_reader_class.id : FuncId := 29
def eyotref8_sign.id : FuncId := 30
def class_runs.id : FuncId := 31
def class_sign.id : FuncId := 32
def class_shown.id : FuncId := 33
def class_with.id : FuncId := 34
def class_Or_1.id : FuncId := 35
def class_Not_1.id : FuncId := 36
def eyotref8_list.id : FuncId := 37
def eyotref8_shown.id : FuncId := 38
def math_bits_TrailingZeros64.id : FuncId := 39
def class_reader_next.id : FuncId := 41
def class_reader_take.id : FuncId := 42
def class_reader_sign.id : FuncId := 43
def class_run.id : FuncId := 44
def class_reader_part.id : FuncId := 45
def eyotref8_in.id : FuncId := 46
def eyotref8_digit.id : FuncId := 47
def strings_IndexByte.id : FuncId := 48
def class_reader_digit.id : FuncId := 49
def internal_stringslite_IndexByte.id : FuncId := 50
/-! ### eyot/eyotlaw8.ClassParses -/
namespace eyotlaw8_ClassParses
noncomputable def fn : Func := Go.Proofs.Tryd.f3
noncomputable def body : Code := fn.body.getD .skip
def od : Nat → Ord := fun _ => .done
def tb : Nat → Tab := fun _ => (0, [], [])
def e0 (s_0 : ByteArray) (R : Ending → Mem → Prop) (m : Mem) : Prop :=
  HC P eyotlaw8_begun.id #[] m (Cont (fun v m1 =>
      UnB v fun x9 =>
      Br (!x9) (
        R (.returned (.bool false)) m1) (
        Br (decide ((s_0.size : Int) > 40)) (
          R (.returned (.bool true)) m1) (
          HC P class_Parse.id #[.string s_0] m1 (Cont (fun v m2 =>
              UnTup v fun us0 =>
              UnCons us0 fun w us1 =>
              UnAgg w fun l =>
              UnCons l fun v l =>
              UnI v .u64 fun x16_0_0 =>
              UnCons l fun v l =>
              UnI v .u64 fun x16_0_1 =>
              UnCons l fun v l =>
              UnI v .u64 fun x16_0_2 =>
              UnCons l fun v l =>
              UnI v .u64 fun x16_0_3 =>
              UnNil l (
                UnCons us1 fun w us2 =>
                UnI w .i64 fun x16_1 =>
                UnCons us2 fun w us3 =>
                UnI w .i64 fun x16_2 =>
                UnNil us3 (
                  NewC m2 #[.int .u64 0, .int .u64 0, .int .u64 0, .int .u64 0] T_api_Set fun b_a_3 m3 =>
                  St1 m3 b_a_3 0 (.int .u64 x16_0_0) fun m4 =>
                  St1 m4 b_a_3 1 (.int .u64 x16_0_1) fun m5 =>
                  St1 m5 b_a_3 2 (.int .u64 x16_0_2) fun m6 =>
                  St1 m6 b_a_3 3 (.int .u64 x16_0_3) fun m7 =>
                  HC P eyotref8_Class.id #[.string s_0] m7 (Cont (fun v m8 =>
                      UnTup v fun us0 =>
                      UnCons us0 fun w us1 =>
                      UnAgg w fun l =>
                      UnCons l fun v l =>
                      UnI v .u64 fun x22_0_0 =>
                      UnCons l fun v l =>
                      UnI v .u64 fun x22_0_1 =>
                      UnCons l fun v l =>
                      UnI v .u64 fun x22_0_2 =>
                      UnCons l fun v l =>
                      UnI v .u64 fun x22_0_3 =>
                      UnNil l (
                        UnCons us1 fun w us2 =>
                        UnI w .i64 fun x22_1 =>
                        UnCons us2 fun w us3 =>
                        UnI w .i64 fun x22_2 =>
                        UnNil us3 (
                        NewC m8 #[.int .u64 0, .int .u64 0, .int .u64 0, .int .u64 0] T_api_Set fun b_6 m9 =>
                        St1 m9 b_6 0 (.int .u64 x22_0_0) fun m10 =>
                        St1 m10 b_6 1 (.int .u64 x22_0_1) fun m11 =>
                        St1 m11 b_6 2 (.int .u64 x22_0_2) fun m12 =>
                        St1 m12 b_6 3 (.int .u64 x22_0_3) fun m13 =>
                        LdV m13 b_a_3 0 fun v =>
                        UnI v .u64 fun x26_0 =>
                        LdV m13 b_a_3 1 fun v =>
                        UnI v .u64 fun x26_1 =>
                        LdV m13 b_a_3 2 fun v =>
                        UnI v .u64 fun x26_2 =>
                        LdV m13 b_a_3 3 fun v =>
                        UnI v .u64 fun x26_3 =>
                        LdV m13 b_6 0 fun v =>
                        UnI v .u64 fun x27_0 =>
                        LdV m13 b_6 1 fun v =>
                        UnI v .u64 fun x27_1 =>
                        LdV m13 b_6 2 fun v =>
                        UnI v .u64 fun x27_2 =>
                        LdV m13 b_6 3 fun v =>
                        UnI v .u64 fun x27_3 =>
                        Br (eqL [.int .u64 x26_0, .int .u64 x26_1, .int .u64 x26_2, .int .u64 x26_3] [.int .u64 x27_0, .int .u64 x27_1, .int .u64 x27_2, .int .u64 x27_3]) (
                        Br (x16_1 == x22_1) (
                        R (.returned (.bool (x16_2 == x22_2))) m13) (
                        R (.returned (.bool false)) m13)) (
                        R (.returned (.bool false)) m13)))) (panicR R))))) (panicR R))))) (panicR R))
noncomputable def e0A (R : Ending → Mem → Prop) : ACode := (.code (body))
theorem e0_eq (s_0 : ByteArray) (R : Ending → Mem → Prop) (m : Mem) : e0 s_0 R m = acpt P od (panicR R) (e0A R) (bodyQ P fn R) (argE (#[.string s_0] : Array Value).toList) m := by kernel_rfl
theorem ok (s_0 : ByteArray) (R : Ending → Mem → Prop) (m : Mem) (h : e0 s_0 R m) : HC P id #[.string s_0] m R := by
  refine HC_of (fn := fn) (c := body) (od := od) (tb := tb) Go.Proofs.Tryd.func3 (by kernel_rfl) (by kernel_rfl) follows (by kernel_rfl) (of_decide_eq_true (by kernel_rfl)) ?_
  have he : (e0A R).erase = body := by kernel_rfl
  rw [← he]
  refine acpt_sound (P := P) (e0A R) _ _ _ True.intro ?_
  exact Eq.mp (e0_eq s_0 R m) h
end eyotlaw8_ClassParses

/-! ### eyot/eyotlaw8.ClassBack -/
namespace eyotlaw8_ClassBack
noncomputable def fn : Func := Go.Proofs.Tryd.f4
noncomputable def body : Code := fn.body.getD .skip
def od : Nat → Ord := fun _ => .done
def tb : Nat → Tab := fun _ => (0, [], [])
def e0 (s_0_0 : Int) (s_0_1 : Int) (s_0_2 : Int) (s_0_3 : Int) (more_1 : ByteArray) (R : Ending → Mem → Prop) (m : Mem) : Prop :=
  NewC m #[.int .u64 s_0_0, .int .u64 s_0_1, .int .u64 s_0_2, .int .u64 s_0_3] T_api_Set fun b_s_2 m1 =>
  HC P eyotlaw8_begun.id #[] m1 (Cont (fun v m2 =>
      UnB v fun x9 =>
      Br (!x9) (
        R (.returned (.bool false)) m2) (
        Br (decide ((more_1.size : Int) > 20)) (
          R (.returned (.bool true)) m2) (
          LdV m2 b_s_2 0 fun v =>
          UnI v .u64 fun x15_0 =>
          LdV m2 b_s_2 1 fun v =>
          UnI v .u64 fun x15_1 =>
          LdV m2 b_s_2 2 fun v =>
          UnI v .u64 fun x15_2 =>
          LdV m2 b_s_2 3 fun v =>
          UnI v .u64 fun x15_3 =>
          HC P eyotref8_Empty.id #[.agg #[.int .u64 x15_0, .int .u64 x15_1, .int .u64 x15_2, .int .u64 x15_3]] m2 (Cont (fun v m3 =>
              UnB v fun x16 =>
              Br x16 (
                R (.returned (.bool true)) m3) (
                LdV m3 b_s_2 0 fun v =>
                UnI v .u64 fun x18_0 =>
                LdV m3 b_s_2 1 fun v =>
                UnI v .u64 fun x18_1 =>
                LdV m3 b_s_2 2 fun v =>
                UnI v .u64 fun x18_2 =>
                LdV m3 b_s_2 3 fun v =>
                UnI v .u64 fun x18_3 =>
                HC P class_Show.id #[.agg #[.int .u64 x18_0, .int .u64 x18_1, .int .u64 x18_2, .int .u64 x18_3]] m3 (Cont (fun v m4 =>
                    UnStr v fun x19 =>
                    CatB x19 more_1 (
                      HC P class_Parse.id #[.string (x19 ++ more_1)] m4 (Cont (fun v m5 =>
                        UnTup v fun us0 =>
                        UnCons us0 fun w us1 =>
                        UnAgg w fun l =>
                        UnCons l fun v l =>
                        UnI v .u64 fun x24_0_0 =>
                        UnCons l fun v l =>
                        UnI v .u64 fun x24_0_1 =>
                        UnCons l fun v l =>
                        UnI v .u64 fun x24_0_2 =>
                        UnCons l fun v l =>
                        UnI v .u64 fun x24_0_3 =>
                        UnNil l (
                        UnCons us1 fun w us2 =>
                        UnI w .i64 fun x24_1 =>
                        UnCons us2 fun w us3 =>
                        UnI w .i64 fun x24_2 =>
                        UnNil us3 (
                        NewC m5 #[.int .u64 0, .int .u64 0, .int .u64 0, .int .u64 0] T_api_Set fun b_a_6 m6 =>
                        St1 m6 b_a_6 0 (.int .u64 x24_0_0) fun m7 =>
                        St1 m7 b_a_6 1 (.int .u64 x24_0_1) fun m8 =>
                        St1 m8 b_a_6 2 (.int .u64 x24_0_2) fun m9 =>
                        St1 m9 b_a_6 3 (.int .u64 x24_0_3) fun m10 =>
                        Br (x24_2 == 0) (
                        Br (x24_1 == (x19.size : Int)) (
                        LdV m10 b_a_6 0 fun v =>
                        UnI v .u64 fun x37_0 =>
                        LdV m10 b_a_6 1 fun v =>
                        UnI v .u64 fun x37_1 =>
                        LdV m10 b_a_6 2 fun v =>
                        UnI v .u64 fun x37_2 =>
                        LdV m10 b_a_6 3 fun v =>
                        UnI v .u64 fun x37_3 =>
                        LdV m10 b_s_2 0 fun v =>
                        UnI v .u64 fun x38_0 =>
                        LdV m10 b_s_2 1 fun v =>
                        UnI v .u64 fun x38_1 =>
                        LdV m10 b_s_2 2 fun v =>
                        UnI v .u64 fun x38_2 =>
                        LdV m10 b_s_2 3 fun v =>
                        UnI v .u64 fun x38_3 =>
                        R (.returned (.bool (eqL [.int .u64 x37_0, .int .u64 x37_1, .int .u64 x37_2, .int .u64 x37_3] [.int .u64 x38_0, .int .u64 x38_1, .int .u64 x38_2, .int .u64 x38_3]))) m10) (
                        R (.returned (.bool false)) m10)) (
                        R (.returned (.bool false)) m10)))) (panicR R)))) (panicR R)))) (panicR R))))) (panicR R))
noncomputable def e0A (R : Ending → Mem → Prop) : ACode := (.code (body))
theorem e0_eq (s_0_0 : Int) (s_0_1 : Int) (s_0_2 : Int) (s_0_3 : Int) (more_1 : ByteArray) (R : Ending → Mem → Prop) (m : Mem) : e0 s_0_0 s_0_1 s_0_2 s_0_3 more_1 R m = acpt P od (panicR R) (e0A R) (bodyQ P fn R) (argE (#[.agg #[.int .u64 s_0_0, .int .u64 s_0_1, .int .u64 s_0_2, .int .u64 s_0_3], .string more_1] : Array Value).toList) m := by kernel_rfl
theorem ok (s_0_0 : Int) (s_0_1 : Int) (s_0_2 : Int) (s_0_3 : Int) (more_1 : ByteArray) (R : Ending → Mem → Prop) (m : Mem) (h : e0 s_0_0 s_0_1 s_0_2 s_0_3 more_1 R m) : HC P id #[.agg #[.int .u64 s_0_0, .int .u64 s_0_1, .int .u64 s_0_2, .int .u64 s_0_3], .string more_1] m R := by
  refine HC_of (fn := fn) (c := body) (od := od) (tb := tb) Go.Proofs.Tryd.func4 (by kernel_rfl) (by kernel_rfl) follows (by kernel_rfl) (of_decide_eq_true (by kernel_rfl)) ?_
  have he : (e0A R).erase = body := by kernel_rfl
  rw [← he]
  refine acpt_sound (P := P) (e0A R) _ _ _ True.intro ?_
  exact Eq.mp (e0_eq s_0_0 s_0_1 s_0_2 s_0_3 more_1 R m) h
end eyotlaw8_ClassBack

/-! ### eyot/eyotlaw8.ClassJoins -/
namespace eyotlaw8_ClassJoins
noncomputable def fn : Func := Go.Proofs.Tryd.f5
noncomputable def body : Code := fn.body.getD .skip
def od : Nat → Ord := fun | 17 => ordL [(0, 3), (1, 3), (2, 3), (3, 3), (4, 3), (5, 3), (6, 3), (7, 3), (8, 3), (9, 3), (10, 1), (11, 0), (12, 3), (13, 3), (14, 3), (15, 3), (16, 3), (17, 3), (18, 3), (19, 3), (20, 3), (21, 3), (22, 3), (23, 3), (24, 3), (25, 3), (26, 1), (27, 0), (28, 0), (29, 3), (30, 3), (31, 3), (32, 1), (34, 1), (33, 0), (35, 2), (36, 3), (37, 3), (38, 3)] .done | _ => .done
def tb : Nat → Tab := fun | 17 => (34359738368, [0, 1, 3, 7, 7, 23, 55, 127, 255, 511, 1023, 1023, 4095, 8191, 16383, 32767, 65535, 131071, 262143, 524287, 524287, 1572863, 3670015, 8388607, 16777215, 33554431, 67108863, 67108863, 201326591, 536870911, 1073741823, 2147483647, 4294967295, 8589934591, 4294967295, 34359738367, 68719476735, 137438953471, 274877906943], [(0, 1024, 83), (1, 4835703278458516698824704, 84), (2, 9671406556917033397649408, 85), (4, 19342813113834066795299328, 86), (4, 19342813113834066795298848, 87), (20, 96714065569170333976494080, 88), (36, 174085318024506601157689344, 89), (76, 367513449162847269110677504, 90), (132, 638312832756524204244860928, 91), (260, 1237940039285380274899124224, 92), (512, 2475880078570760549798248704, 93), (512, 2475880078570760549798264832, 94), (3584, 17331160549995323848587739136, 95), (4608, 22282920707136844948184236032, 96), (8704, 39614081257132168796771975168, 97), (16384, 79228162514264337593543958528, 98), (49152, 237684487542793012780631851008, 99), (81920, 396140812571321687967719751680, 100), (147456, 633825300114114700748351602688, 101), (262144, 1267650600228229401496703209472, 102), (262144, 1267650600228229401496703205408, 103), (1310720, 6338253001141147007483516026880, 104), (2359296, 11408855402054064613470328848384, 105), (4980736, 24085361404336358628437360902144, 106), (8650752, 41832469807531570249391205777408, 107), (17039360, 81129638414606681695789005144064, 108), (33554432, 162259276829213363391578010290176, 109), (33554432, 162259276829213363391578010304512, 110), (167772160, 811296384146066816957890051440640, 111), (369098752, 1784852045121346997307358113169408, 112), (570425344, 2758407706096627177656826174898176, 113), (1342177280, 5192296858534827628530496329220096, 114), (2147483648, 10384593717069655257060992658440448, 115), (6442450944, 31153781151208965771182977975320576, 116), (2147483648, 10384593717069655257060992658456576, 117), (27917287424, 93461343453626897313548933925961728, 118), (45097156608, 218076468058462760398280845827244032, 119), (70866960384, 342691592663298623483012757728526336, 120), (274877906943, 664613997892457936451903530140172288, 5)]) | _ => (0, [], [])
def k4E (K : Option Addr → Nat → Nat → Option Addr → Nat → Nat → ByteArray → Mem → Prop) : Env → Mem → Prop := fun ρ m => UnS (ρ 0) fun x0a x0l x0c => UnS (ρ 1) fun x1a x1l x1c => UnStr (ρ 5) fun x5 => K x0a x0l x0c x1a x1l x1c x5 m
def k4  (x0a : Option Addr) (x0l : Nat) (x0c : Nat) (x1a : Option Addr) (x1l : Nat) (x1c : Nat) (x5 : ByteArray) (R : Ending → Mem → Prop) (m : Mem) : Prop :=
  CatB (ByteArray.mk #[91]) x5 (
    CatB ((ByteArray.mk #[91]) ++ x5) (ByteArray.mk #[93]) (
      HC P class_Parse.id #[.string (((ByteArray.mk #[91]) ++ x5) ++ (ByteArray.mk #[93]))] m (Cont (fun v m1 =>
          UnTup v fun us0 =>
          UnCons us0 fun w us1 =>
          UnAgg w fun l =>
          UnCons l fun v l =>
          UnI v .u64 fun x65_0_0 =>
          UnCons l fun v l =>
          UnI v .u64 fun x65_0_1 =>
          UnCons l fun v l =>
          UnI v .u64 fun x65_0_2 =>
          UnCons l fun v l =>
          UnI v .u64 fun x65_0_3 =>
          UnNil l (
            UnCons us1 fun w us2 =>
            UnI w .i64 fun x65_1 =>
            UnCons us2 fun w us3 =>
            UnI w .i64 fun x65_2 =>
            UnNil us3 (
              NewC m1 #[.int .u64 0, .int .u64 0, .int .u64 0, .int .u64 0] T_api_Set fun b8 m2 =>
              St1 m2 b8 0 (.int .u64 x65_0_0) fun m3 =>
              St1 m3 b8 1 (.int .u64 x65_0_1) fun m4 =>
              St1 m4 b8 2 (.int .u64 x65_0_2) fun m5 =>
              St1 m5 b8 3 (.int .u64 x65_0_3) fun m6 =>
              CatB (ByteArray.mk #[91, 94]) x5 (
                CatB ((ByteArray.mk #[91, 94]) ++ x5) (ByteArray.mk #[93]) (
                  HC P class_Parse.id #[.string (((ByteArray.mk #[91, 94]) ++ x5) ++ (ByteArray.mk #[93]))] m6 (Cont (fun v m7 =>
                      UnTup v fun us0 =>
                      UnCons us0 fun w us1 =>
                      UnAgg w fun l =>
                      UnCons l fun v l =>
                      UnI v .u64 fun x73_0_0 =>
                      UnCons l fun v l =>
                      UnI v .u64 fun x73_0_1 =>
                      UnCons l fun v l =>
                      UnI v .u64 fun x73_0_2 =>
                      UnCons l fun v l =>
                      UnI v .u64 fun x73_0_3 =>
                      UnNil l (
                        UnCons us1 fun w us2 =>
                        UnI w .i64 fun x73_1 =>
                        UnCons us2 fun w us3 =>
                        UnI w .i64 fun x73_2 =>
                        UnNil us3 (
                        NewC m7 #[.int .u64 0, .int .u64 0, .int .u64 0, .int .u64 0] T_api_Set fun b11 m8 =>
                        St1 m8 b11 0 (.int .u64 x73_0_0) fun m9 =>
                        St1 m9 b11 1 (.int .u64 x73_0_1) fun m10 =>
                        St1 m10 b11 2 (.int .u64 x73_0_2) fun m11 =>
                        St1 m11 b11 3 (.int .u64 x73_0_3) fun m12 =>
                        HC P class_Of.id #[.slice x0a x0l x0c] m12 (Cont (fun v m13 =>
                        UnAgg v fun l =>
                        UnCons l fun v l =>
                        UnI v .u64 fun x78_0 =>
                        UnCons l fun v l =>
                        UnI v .u64 fun x78_1 =>
                        UnCons l fun v l =>
                        UnI v .u64 fun x78_2 =>
                        UnCons l fun v l =>
                        UnI v .u64 fun x78_3 =>
                        UnNil l (
                        HC P class_Of.id #[.slice x1a x1l x1c] m13 (Cont (fun v m14 =>
                        UnAgg v fun l =>
                        UnCons l fun v l =>
                        UnI v .u64 fun x80_0 =>
                        UnCons l fun v l =>
                        UnI v .u64 fun x80_1 =>
                        UnCons l fun v l =>
                        UnI v .u64 fun x80_2 =>
                        UnCons l fun v l =>
                        UnI v .u64 fun x80_3 =>
                        UnNil l (
                        HC P class_Or.id #[.agg #[.int .u64 x78_0, .int .u64 x78_1, .int .u64 x78_2, .int .u64 x78_3], .agg #[.int .u64 x80_0, .int .u64 x80_1, .int .u64 x80_2, .int .u64 x80_3]] m14 (Cont (fun v m15 =>
                        UnAgg v fun l =>
                        UnCons l fun v l =>
                        UnI v .u64 fun x81_0 =>
                        UnCons l fun v l =>
                        UnI v .u64 fun x81_1 =>
                        UnCons l fun v l =>
                        UnI v .u64 fun x81_2 =>
                        UnCons l fun v l =>
                        UnI v .u64 fun x81_3 =>
                        UnNil l (
                        NewC m15 #[.int .u64 0, .int .u64 0, .int .u64 0, .int .u64 0] T_api_Set fun b14 m16 =>
                        St1 m16 b14 0 (.int .u64 x81_0) fun m17 =>
                        St1 m17 b14 1 (.int .u64 x81_1) fun m18 =>
                        St1 m18 b14 2 (.int .u64 x81_2) fun m19 =>
                        St1 m19 b14 3 (.int .u64 x81_3) fun m20 =>
                        Sub m20 fun r21 =>
                        Br (x65_2 == 0) (
                        Br (x65_1 == (IntKind.i64.wrap ((x5.size : Int) + 2))) (
                        LdV r21 b8 0 fun v =>
                        UnI v .u64 fun x92_0 =>
                        LdV r21 b8 1 fun v =>
                        UnI v .u64 fun x92_1 =>
                        LdV r21 b8 2 fun v =>
                        UnI v .u64 fun x92_2 =>
                        LdV r21 b8 3 fun v =>
                        UnI v .u64 fun x92_3 =>
                        LdV m20 b14 0 fun v =>
                        UnI v .u64 fun x93_0 =>
                        LdV m20 b14 1 fun v =>
                        UnI v .u64 fun x93_1 =>
                        LdV m20 b14 2 fun v =>
                        UnI v .u64 fun x93_2 =>
                        LdV m20 b14 3 fun v =>
                        UnI v .u64 fun x93_3 =>
                        Br (eqL [.int .u64 x92_0, .int .u64 x92_1, .int .u64 x92_2, .int .u64 x92_3] [.int .u64 x93_0, .int .u64 x93_1, .int .u64 x93_2, .int .u64 x93_3]) (
                        Br (x73_2 == 0) (
                        Br (x73_1 == (IntKind.i64.wrap ((x5.size : Int) + 3))) (
                        LdV r21 b11 0 fun v =>
                        UnI v .u64 fun x108_0 =>
                        LdV r21 b11 1 fun v =>
                        UnI v .u64 fun x108_1 =>
                        LdV r21 b11 2 fun v =>
                        UnI v .u64 fun x108_2 =>
                        LdV r21 b11 3 fun v =>
                        UnI v .u64 fun x108_3 =>
                        LdV m20 b14 0 fun v =>
                        UnI v .u64 fun x109_0 =>
                        LdV m20 b14 1 fun v =>
                        UnI v .u64 fun x109_1 =>
                        LdV m20 b14 2 fun v =>
                        UnI v .u64 fun x109_2 =>
                        LdV m20 b14 3 fun v =>
                        UnI v .u64 fun x109_3 =>
                        HC P class_Not.id #[.agg #[.int .u64 x109_0, .int .u64 x109_1, .int .u64 x109_2, .int .u64 x109_3]] m20 (Cont (fun v m22 =>
                        UnAgg v fun l =>
                        UnCons l fun v l =>
                        UnI v .u64 fun x110_0 =>
                        UnCons l fun v l =>
                        UnI v .u64 fun x110_1 =>
                        UnCons l fun v l =>
                        UnI v .u64 fun x110_2 =>
                        UnCons l fun v l =>
                        UnI v .u64 fun x110_3 =>
                        UnNil l (
                        Lk r21 m22 fun r23 =>
                        Br (eqL [.int .u64 x108_0, .int .u64 x108_1, .int .u64 x108_2, .int .u64 x108_3] [.int .u64 x110_0, .int .u64 x110_1, .int .u64 x110_2, .int .u64 x110_3]) (
                        LdV r23 b8 0 fun v =>
                        UnI v .u64 fun x114_0 =>
                        LdV r23 b8 1 fun v =>
                        UnI v .u64 fun x114_1 =>
                        LdV r23 b8 2 fun v =>
                        UnI v .u64 fun x114_2 =>
                        LdV r23 b8 3 fun v =>
                        UnI v .u64 fun x114_3 =>
                        LdV r23 b14 0 fun v =>
                        UnI v .u64 fun x116_0 =>
                        LdV r23 b14 1 fun v =>
                        UnI v .u64 fun x116_1 =>
                        LdV r23 b14 2 fun v =>
                        UnI v .u64 fun x116_2 =>
                        LdV r23 b14 3 fun v =>
                        UnI v .u64 fun x116_3 =>
                        HC P class_Show.id #[.agg #[.int .u64 x114_0, .int .u64 x114_1, .int .u64 x114_2, .int .u64 x114_3]] m22 (Cont (fun v m24 =>
                        UnStr v fun x115 =>
                        Lk r23 m24 fun r25 =>
                        HC P eyotref8_ShowClass.id #[.agg #[.int .u64 x116_0, .int .u64 x116_1, .int .u64 x116_2, .int .u64 x116_3]] m24 (Cont (fun v m26 =>
                        UnStr v fun x117 =>
                        R (.returned (.bool (x115.toList == x117.toList))) m26) (panicR R))) (panicR R))) (
                        R (.returned (.bool false)) m22))) (panicR R))) (
                        R (.returned (.bool false)) m20)) (
                        R (.returned (.bool false)) m20)) (
                        R (.returned (.bool false)) m20)) (
                        R (.returned (.bool false)) m20)) (
                        R (.returned (.bool false)) m20))) (panicR R)))) (panicR R)))) (panicR R))))) (panicR R))))))) (panicR R))))
noncomputable def k4A  (R : Ending → Mem → Prop) : ACode := (.code (sR (sR (sR (sR (sR (sR (body))))))))
def l3E (K : Option Addr → Nat → Nat → Option Addr → Nat → Nat → ByteArray → Int → Mem → Prop) : Env → Mem → Prop := fun ρ m => UnS (ρ 0) fun x0a x0l x0c => UnS (ρ 1) fun x1a x1l x1c => UnStr (ρ 5) fun x5 => UnI (ρ 7) .i64 fun x7 => K x0a x0l x0c x1a x1l x1c x5 x7 m
def l3B  (K3 : Option Addr → Nat → Nat → Option Addr → Nat → Nat → ByteArray → Int → Mem → Prop) (x0a : Option Addr) (x0l : Nat) (x0c : Nat) (x1a : Option Addr) (x1l : Nat) (x1c : Nat) (x5 : ByteArray) (x7 : Int) (R : Ending → Mem → Prop) (m : Mem) : Prop :=
  Br (decide (x7 < ((x1l : Nat) : Int))) (
    IxS x1a x1l x7 1 fun x57b x57o =>
    LdV m x57b x57o fun v =>
    UnI v .u8 fun x58 =>
    HC P eyotlaw8_sign.id #[.int .u8 x58, .string (ByteArray.mk #[48, 49, 50, 51, 52, 53, 54, 55, 56, 57, 97, 98, 99, 100, 101, 102])] m (Cont (fun v m1 =>
        UnStr v fun x59 =>
        CatB x5 x59 (
          K3 x0a x0l x0c x1a x1l x1c (x5 ++ x59) (IntKind.i64.wrap (x7 + 1)) m1)) (panicR R))) (
    k4  x0a x0l x0c x1a x1l x1c x5 R m)
def l3  (x0a : Option Addr) (x0l : Nat) (x0c : Nat) (x1a : Option Addr) (x1l : Nat) (x1c : Nat) (x5 : ByteArray) (x7 : Int) (R : Ending → Mem → Prop) (m : Mem) : Prop :=
  ∃ (I : Nat → Option Addr → Nat → Nat → Option Addr → Nat → Nat → ByteArray → Int → Mem → Prop) (N : Nat), I N x0a x0l x0c x1a x1l x1c x5 x7 m ∧ ∀ N x0a x0l x0c x1a x1l x1c x5 x7 m, I N x0a x0l x0c x1a x1l x1c x5 x7 m → l3B  (fun x0a x0l x0c x1a x1l x1c x5 x7 m => ∃ N1, N1 < N ∧ I N1 x0a x0l x0c x1a x1l x1c x5 x7 m) x0a x0l x0c x1a x1l x1c x5 x7 R m
noncomputable def l3A  (K3 : Option Addr → Nat → Nat → Option Addr → Nat → Nat → ByteArray → Int → Mem → Prop) (R : Ending → Mem → Prop) : ACode := (.code (lP (bB (sR (sL (sR (sR (sR (sR (sR (body)))))))))))
def k2E (K : Option Addr → Nat → Nat → Option Addr → Nat → Nat → ByteArray → Mem → Prop) : Env → Mem → Prop := fun ρ m => UnS (ρ 0) fun x0a x0l x0c => UnS (ρ 1) fun x1a x1l x1c => UnStr (ρ 5) fun x5 => K x0a x0l x0c x1a x1l x1c x5 m
def k2  (x0a : Option Addr) (x0l : Nat) (x0c : Nat) (x1a : Option Addr) (x1l : Nat) (x1c : Nat) (x5 : ByteArray) (R : Ending → Mem → Prop) (m : Mem) : Prop :=
  l3  x0a x0l x0c x1a x1l x1c x5 0 R m
noncomputable def k2A  (R : Ending → Mem → Prop) : ACode := (.seq (.seq (.code (sL (sL (sR (sR (sR (sR (sR (body))))))))) (.block 2 (.cut (l3E fun x0a x0l x0c x1a x1l x1c x5 x7 m => l3  x0a x0l x0c x1a x1l x1c x5 x7 R m) (.loop (lP (bB (sR (sL (sR (sR (sR (sR (sR (body)))))))))))))) (.cut (k4E fun x0a x0l x0c x1a x1l x1c x5 m => k4  x0a x0l x0c x1a x1l x1c x5 R m) (sR (sR (sR (sR (sR (sR (body)))))))))
def l1E (K : Option Addr → Nat → Nat → Option Addr → Nat → Nat → ByteArray → Int → Mem → Prop) : Env → Mem → Prop := fun ρ m => UnS (ρ 0) fun x0a x0l x0c => UnS (ρ 1) fun x1a x1l x1c => UnStr (ρ 5) fun x5 => UnI (ρ 6) .i64 fun x6 => K x0a x0l x0c x1a x1l x1c x5 x6 m
def l1B  (K1 : Option Addr → Nat → Nat → Option Addr → Nat → Nat → ByteArray → Int → Mem → Prop) (x0a : Option Addr) (x0l : Nat) (x0c : Nat) (x1a : Option Addr) (x1l : Nat) (x1c : Nat) (x5 : ByteArray) (x6 : Int) (R : Ending → Mem → Prop) (m : Mem) : Prop :=
  Br (decide (x6 < ((x0l : Nat) : Int))) (
    IxS x0a x0l x6 1 fun x44b x44o =>
    LdV m x44b x44o fun v =>
    UnI v .u8 fun x45 =>
    HC P eyotlaw8_sign.id #[.int .u8 x45, .string (ByteArray.mk #[48, 49, 50, 51, 52, 53, 54, 55, 56, 57, 97, 98, 99, 100, 101, 102])] m (Cont (fun v m1 =>
        UnStr v fun x46 =>
        CatB x5 x46 (
          K1 x0a x0l x0c x1a x1l x1c (x5 ++ x46) (IntKind.i64.wrap (x6 + 1)) m1)) (panicR R))) (
    k2  x0a x0l x0c x1a x1l x1c x5 R m)
def l1  (x0a : Option Addr) (x0l : Nat) (x0c : Nat) (x1a : Option Addr) (x1l : Nat) (x1c : Nat) (x5 : ByteArray) (x6 : Int) (R : Ending → Mem → Prop) (m : Mem) : Prop :=
  ∃ (I : Nat → Option Addr → Nat → Nat → Option Addr → Nat → Nat → ByteArray → Int → Mem → Prop) (N : Nat), I N x0a x0l x0c x1a x1l x1c x5 x6 m ∧ ∀ N x0a x0l x0c x1a x1l x1c x5 x6 m, I N x0a x0l x0c x1a x1l x1c x5 x6 m → l1B  (fun x0a x0l x0c x1a x1l x1c x5 x6 m => ∃ N1, N1 < N ∧ I N1 x0a x0l x0c x1a x1l x1c x5 x6 m) x0a x0l x0c x1a x1l x1c x5 x6 R m
noncomputable def l1A  (K1 : Option Addr → Nat → Nat → Option Addr → Nat → Nat → ByteArray → Int → Mem → Prop) (R : Ending → Mem → Prop) : ACode := (.code (lP (bB (sR (sL (sR (sR (sR (sR (body))))))))))
def e0 (a0a : Option Addr) (a0l : Nat) (a0c : Nat) (a1a : Option Addr) (a1l : Nat) (a1c : Nat) (R : Ending → Mem → Prop) (m : Mem) : Prop :=
  HC P eyotlaw8_begun.id #[] m (Cont (fun v m1 =>
      UnB v fun x15 =>
      Br (!x15) (
        R (.returned (.bool false)) m1) (
        Br (((a0l : Nat) : Int) == 0) (
          R (.returned (.bool true)) m1) (
          Br (((a1l : Nat) : Int) == 0) (
            R (.returned (.bool true)) m1) (
            Br (decide (((a0l : Nat) : Int) > 4)) (
              R (.returned (.bool true)) m1) (
              Br (decide (((a1l : Nat) : Int) > 4)) (
                R (.returned (.bool true)) m1) (
                l1  a0a a0l a0c a1a a1l a1c (ByteArray.mk #[]) 0 R m1)))))) (panicR R))
noncomputable def e0A (R : Ending → Mem → Prop) : ACode := (.seq (.code (sL (body))) (.seq (.code (sL (sR (body)))) (.seq (.code (sL (sR (sR (body))))) (.seq (.code (sL (sR (sR (sR (body)))))) (.seq (.seq (.code (sL (sL (sR (sR (sR (sR (body)))))))) (.block 0 (.cut (l1E fun x0a x0l x0c x1a x1l x1c x5 x6 m => l1  x0a x0l x0c x1a x1l x1c x5 x6 R m) (.loop (lP (bB (sR (sL (sR (sR (sR (sR (body))))))))))))) (.cut (k2E fun x0a x0l x0c x1a x1l x1c x5 m => k2  x0a x0l x0c x1a x1l x1c x5 R m) (sR (sR (sR (sR (sR (body))))))))))))
theorem k4_eq  (R : Ending → Mem → Prop) (x0a : Option Addr) (x0l : Nat) (x0c : Nat) (x1a : Option Addr) (x1l : Nat) (x1c : Nat) (x5 : ByteArray) (ρ : Env) (m : Mem) : k4  x0a x0l x0c x1a x1l x1c x5 R m = acpt P od (panicR R) (k4A  R) (bodyQ P fn R) (upd (upd (upd ρ 5 (.string x5)) 1 (.slice x1a x1l x1c)) 0 (.slice x0a x0l x0c)) m := by kernel_rfl
theorem k4_er  (R : Ending → Mem → Prop) : (k4A  R).erase = sR (sR (sR (sR (sR (sR (body)))))) := by kernel_rfl
theorem k4_ok  (R : Ending → Mem → Prop) (ρ : Env) (m : Mem) (h : (k4E fun x0a x0l x0c x1a x1l x1c x5 m => k4  x0a x0l x0c x1a x1l x1c x5 R m) ρ m) : cpt P od (panicR R) (sR (sR (sR (sR (sR (sR (body))))))) (bodyQ P fn R) ρ m := by
  unfold k4E at h
  obtain ⟨x0a, x0l, x0c, e0, h⟩ := h.ex
  obtain ⟨x1a, x1l, x1c, e1, h⟩ := h.ex
  obtain ⟨x5, e5, h⟩ := h.ex
  rw [← upd_self e0, ← upd_self e1, ← upd_self e5]
  rw [← k4_er  R]
  refine acpt_sound (P := P) (k4A  R) _ _ _ True.intro ?_
  exact Eq.mp (k4_eq  R x0a x0l x0c x1a x1l x1c x5 ρ m) h
theorem l3_eq  (K3 : Option Addr → Nat → Nat → Option Addr → Nat → Nat → ByteArray → Int → Mem → Prop) (R : Ending → Mem → Prop) (x0a : Option Addr) (x0l : Nat) (x0c : Nat) (x1a : Option Addr) (x1l : Nat) (x1c : Nat) (x5 : ByteArray) (x7 : Int) (ρ : Env) (m : Mem) : l3B  K3 x0a x0l x0c x1a x1l x1c x5 x7 R m = acpt P od (panicR R) (l3A  K3 R) (thenQ (l3E K3) (blockQ 2 (thenQ (acpt P od (panicR R) (.cut (k4E fun x0a x0l x0c x1a x1l x1c x5 m => k4  x0a x0l x0c x1a x1l x1c x5 R m) (sR (sR (sR (sR (sR (sR (body)))))))) (bodyQ P fn R)) (bodyQ P fn R)))) (upd (upd (upd (upd ρ 7 (.int .i64 x7)) 5 (.string x5)) 1 (.slice x1a x1l x1c)) 0 (.slice x0a x0l x0c)) m := by kernel_rfl
theorem l3_er  (K3 : Option Addr → Nat → Nat → Option Addr → Nat → Nat → ByteArray → Int → Mem → Prop) (R : Ending → Mem → Prop) : (l3A  K3 R).erase = lP (bB (sR (sL (sR (sR (sR (sR (sR (body))))))))) := by kernel_rfl
theorem l3_ok  (R : Ending → Mem → Prop) (ρ : Env) (m : Mem) (h : (l3E fun x0a x0l x0c x1a x1l x1c x5 x7 m => l3  x0a x0l x0c x1a x1l x1c x5 x7 R m) ρ m) : cpt P od (panicR R) (.loop (lP (bB (sR (sL (sR (sR (sR (sR (sR (body))))))))))) (blockQ 2 (thenQ (acpt P od (panicR R) (.cut (k4E fun x0a x0l x0c x1a x1l x1c x5 m => k4  x0a x0l x0c x1a x1l x1c x5 R m) (sR (sR (sR (sR (sR (sR (body)))))))) (bodyQ P fn R)) (bodyQ P fn R))) ρ m := by
  unfold l3E at h
  obtain ⟨x0a, x0l, x0c, e0, h⟩ := h.ex
  obtain ⟨x1a, x1l, x1c, e1, h⟩ := h.ex
  obtain ⟨x5, e5, h⟩ := h.ex
  obtain ⟨x7, e7, h⟩ := h.ex
  obtain ⟨I, N, h0, hs⟩ := h
  refine ⟨fun N => l3E (I N), N, (by show l3E (I N) ρ m; unfold l3E; rw [e0, e1, e5, e7]; exact h0), ?_⟩
  clear h0 e0 e1 e5 e7
  intro N ρ m h
  unfold l3E at h
  obtain ⟨x0a, x0l, x0c, e0, h⟩ := h.ex
  obtain ⟨x1a, x1l, x1c, e1, h⟩ := h.ex
  obtain ⟨x5, e5, h⟩ := h.ex
  obtain ⟨x7, e7, h⟩ := h.ex
  refine cpt_mono (P := P) (lP (bB (sR (sL (sR (sR (sR (sR (sR (body)))))))))) (Q := thenQ (l3E fun x0a x0l x0c x1a x1l x1c x5 x7 m => ∃ N1, N1 < N ∧ I N1 x0a x0l x0c x1a x1l x1c x5 x7 m) (blockQ 2 (thenQ (acpt P od (panicR R) (.cut (k4E fun x0a x0l x0c x1a x1l x1c x5 m => k4  x0a x0l x0c x1a x1l x1c x5 R m) (sR (sR (sR (sR (sR (sR (body)))))))) (bodyQ P fn R)) (bodyQ P fn R)))) (fun e ρ m h => ?_) ρ m ?_
  · cases e with
    | normal =>
      have h : l3E (fun x0a x0l x0c x1a x1l x1c x5 x7 m => ∃ N1, N1 < N ∧ I N1 x0a x0l x0c x1a x1l x1c x5 x7 m) ρ m := h
      unfold l3E at h
      obtain ⟨x0a, x0l, x0c, e0, h⟩ := h.ex
      obtain ⟨x1a, x1l, x1c, e1, h⟩ := h.ex
      obtain ⟨x5, e5, h⟩ := h.ex
      obtain ⟨x7, e7, h⟩ := h.ex
      obtain ⟨N1, hlt, h⟩ := h
      exact ⟨N1, hlt, (by show l3E (I N1) ρ m; unfold l3E; rw [e0, e1, e5, e7]; exact h)⟩
    | _ => exact h
  have hh := hs N x0a x0l x0c x1a x1l x1c x5 x7 m h
  generalize (fun x0a x0l x0c x1a x1l x1c x5 x7 m => ∃ N1, N1 < N ∧ I N1 x0a x0l x0c x1a x1l x1c x5 x7 m : Option Addr → Nat → Nat → Option Addr → Nat → Nat → ByteArray → Int → Mem → Prop) = K3 at hh ⊢
  rw [← upd_self e0, ← upd_self e1, ← upd_self e5, ← upd_self e7]
  rw [← l3_er  K3 R]
  refine acpt_sound (P := P) (l3A  K3 R) _ _ _ True.intro ?_
  exact Eq.mp (l3_eq  K3 R x0a x0l x0c x1a x1l x1c x5 x7 ρ m) hh
theorem k2_eq  (R : Ending → Mem → Prop) (x0a : Option Addr) (x0l : Nat) (x0c : Nat) (x1a : Option Addr) (x1l : Nat) (x1c : Nat) (x5 : ByteArray) (ρ : Env) (m : Mem) : k2  x0a x0l x0c x1a x1l x1c x5 R m = acpt P od (panicR R) (k2A  R) (bodyQ P fn R) (upd (upd (upd ρ 5 (.string x5)) 1 (.slice x1a x1l x1c)) 0 (.slice x0a x0l x0c)) m := by kernel_rfl
theorem k2_er  (R : Ending → Mem → Prop) : (k2A  R).erase = sR (sR (sR (sR (sR (body))))) := by kernel_rfl
theorem k2_ok  (R : Ending → Mem → Prop) (ρ : Env) (m : Mem) (h : (k2E fun x0a x0l x0c x1a x1l x1c x5 m => k2  x0a x0l x0c x1a x1l x1c x5 R m) ρ m) : cpt P od (panicR R) (sR (sR (sR (sR (sR (body)))))) (bodyQ P fn R) ρ m := by
  unfold k2E at h
  obtain ⟨x0a, x0l, x0c, e0, h⟩ := h.ex
  obtain ⟨x1a, x1l, x1c, e1, h⟩ := h.ex
  obtain ⟨x5, e5, h⟩ := h.ex
  rw [← upd_self e0, ← upd_self e1, ← upd_self e5]
  rw [← k2_er  R]
  refine acpt_sound (P := P) (k2A  R) _ _ _ ⟨(fun ρ m h => k4_ok  R ρ m h), ⟨(fun ρ m h => l3_ok  R ρ m h), True.intro⟩⟩ ?_
  exact Eq.mp (k2_eq  R x0a x0l x0c x1a x1l x1c x5 ρ m) h
theorem l1_eq  (K1 : Option Addr → Nat → Nat → Option Addr → Nat → Nat → ByteArray → Int → Mem → Prop) (R : Ending → Mem → Prop) (x0a : Option Addr) (x0l : Nat) (x0c : Nat) (x1a : Option Addr) (x1l : Nat) (x1c : Nat) (x5 : ByteArray) (x6 : Int) (ρ : Env) (m : Mem) : l1B  K1 x0a x0l x0c x1a x1l x1c x5 x6 R m = acpt P od (panicR R) (l1A  K1 R) (thenQ (l1E K1) (blockQ 0 (thenQ (acpt P od (panicR R) (.cut (k2E fun x0a x0l x0c x1a x1l x1c x5 m => k2  x0a x0l x0c x1a x1l x1c x5 R m) (sR (sR (sR (sR (sR (body))))))) (bodyQ P fn R)) (bodyQ P fn R)))) (upd (upd (upd (upd ρ 6 (.int .i64 x6)) 5 (.string x5)) 1 (.slice x1a x1l x1c)) 0 (.slice x0a x0l x0c)) m := by kernel_rfl
theorem l1_er  (K1 : Option Addr → Nat → Nat → Option Addr → Nat → Nat → ByteArray → Int → Mem → Prop) (R : Ending → Mem → Prop) : (l1A  K1 R).erase = lP (bB (sR (sL (sR (sR (sR (sR (body)))))))) := by kernel_rfl
theorem l1_ok  (R : Ending → Mem → Prop) (ρ : Env) (m : Mem) (h : (l1E fun x0a x0l x0c x1a x1l x1c x5 x6 m => l1  x0a x0l x0c x1a x1l x1c x5 x6 R m) ρ m) : cpt P od (panicR R) (.loop (lP (bB (sR (sL (sR (sR (sR (sR (body)))))))))) (blockQ 0 (thenQ (acpt P od (panicR R) (.cut (k2E fun x0a x0l x0c x1a x1l x1c x5 m => k2  x0a x0l x0c x1a x1l x1c x5 R m) (sR (sR (sR (sR (sR (body))))))) (bodyQ P fn R)) (bodyQ P fn R))) ρ m := by
  unfold l1E at h
  obtain ⟨x0a, x0l, x0c, e0, h⟩ := h.ex
  obtain ⟨x1a, x1l, x1c, e1, h⟩ := h.ex
  obtain ⟨x5, e5, h⟩ := h.ex
  obtain ⟨x6, e6, h⟩ := h.ex
  obtain ⟨I, N, h0, hs⟩ := h
  refine ⟨fun N => l1E (I N), N, (by show l1E (I N) ρ m; unfold l1E; rw [e0, e1, e5, e6]; exact h0), ?_⟩
  clear h0 e0 e1 e5 e6
  intro N ρ m h
  unfold l1E at h
  obtain ⟨x0a, x0l, x0c, e0, h⟩ := h.ex
  obtain ⟨x1a, x1l, x1c, e1, h⟩ := h.ex
  obtain ⟨x5, e5, h⟩ := h.ex
  obtain ⟨x6, e6, h⟩ := h.ex
  refine cpt_mono (P := P) (lP (bB (sR (sL (sR (sR (sR (sR (body))))))))) (Q := thenQ (l1E fun x0a x0l x0c x1a x1l x1c x5 x6 m => ∃ N1, N1 < N ∧ I N1 x0a x0l x0c x1a x1l x1c x5 x6 m) (blockQ 0 (thenQ (acpt P od (panicR R) (.cut (k2E fun x0a x0l x0c x1a x1l x1c x5 m => k2  x0a x0l x0c x1a x1l x1c x5 R m) (sR (sR (sR (sR (sR (body))))))) (bodyQ P fn R)) (bodyQ P fn R)))) (fun e ρ m h => ?_) ρ m ?_
  · cases e with
    | normal =>
      have h : l1E (fun x0a x0l x0c x1a x1l x1c x5 x6 m => ∃ N1, N1 < N ∧ I N1 x0a x0l x0c x1a x1l x1c x5 x6 m) ρ m := h
      unfold l1E at h
      obtain ⟨x0a, x0l, x0c, e0, h⟩ := h.ex
      obtain ⟨x1a, x1l, x1c, e1, h⟩ := h.ex
      obtain ⟨x5, e5, h⟩ := h.ex
      obtain ⟨x6, e6, h⟩ := h.ex
      obtain ⟨N1, hlt, h⟩ := h
      exact ⟨N1, hlt, (by show l1E (I N1) ρ m; unfold l1E; rw [e0, e1, e5, e6]; exact h)⟩
    | _ => exact h
  have hh := hs N x0a x0l x0c x1a x1l x1c x5 x6 m h
  generalize (fun x0a x0l x0c x1a x1l x1c x5 x6 m => ∃ N1, N1 < N ∧ I N1 x0a x0l x0c x1a x1l x1c x5 x6 m : Option Addr → Nat → Nat → Option Addr → Nat → Nat → ByteArray → Int → Mem → Prop) = K1 at hh ⊢
  rw [← upd_self e0, ← upd_self e1, ← upd_self e5, ← upd_self e6]
  rw [← l1_er  K1 R]
  refine acpt_sound (P := P) (l1A  K1 R) _ _ _ True.intro ?_
  exact Eq.mp (l1_eq  K1 R x0a x0l x0c x1a x1l x1c x5 x6 ρ m) hh
theorem e0_eq (a0a : Option Addr) (a0l : Nat) (a0c : Nat) (a1a : Option Addr) (a1l : Nat) (a1c : Nat) (R : Ending → Mem → Prop) (m : Mem) : e0 a0a a0l a0c a1a a1l a1c R m = acpt P od (panicR R) (e0A R) (bodyQ P fn R) (argE (#[.slice a0a a0l a0c, .slice a1a a1l a1c] : Array Value).toList) m := by kernel_rfl
theorem ok (a0a : Option Addr) (a0l : Nat) (a0c : Nat) (a1a : Option Addr) (a1l : Nat) (a1c : Nat) (R : Ending → Mem → Prop) (m : Mem) (h : e0 a0a a0l a0c a1a a1l a1c R m) : HC P id #[.slice a0a a0l a0c, .slice a1a a1l a1c] m R := by
  refine HC_of (fn := fn) (c := body) (od := od) (tb := tb) Go.Proofs.Tryd.func5 (by kernel_rfl) (by kernel_rfl) follows (by kernel_rfl) (of_decide_eq_true (by kernel_rfl)) ?_
  have he : (e0A R).erase = body := by kernel_rfl
  rw [← he]
  refine acpt_sound (P := P) (e0A R) _ _ _ ⟨⟨⟨⟨⟨(fun ρ m h => k2_ok  R ρ m h), ⟨(fun ρ m h => l1_ok  R ρ m h), True.intro⟩⟩, True.intro⟩, True.intro⟩, True.intro⟩, True.intro⟩ ?_
  exact Eq.mp (e0_eq a0a a0l a0c a1a a1l a1c R m) h
end eyotlaw8_ClassJoins

/-! ### eyot/eyotlaw8.ClassRuns -/
namespace eyotlaw8_ClassRuns
noncomputable def fn : Func := Go.Proofs.Tryd.f6
noncomputable def body : Code := fn.body.getD .skip
def od : Nat → Ord := fun _ => .done
def tb : Nat → Tab := fun _ => (0, [], [])
def k5E (K : Int → Int → Bool → Nat → Nat → Int → Bool → Mem → Prop) : Env → Mem → Prop := fun ρ m => UnI (ρ 0) .u8 fun x0 => UnI (ρ 1) .u8 fun x1 => UnB (ρ 2) fun x2 => UnPA (ρ 9) fun x9b x9o => UnI (ρ 12) .i64 fun x12 => UnB (ρ 13) fun x13 => K x0 x1 x2 x9b x9o x12 x13 m
def k5 (K4 : Int → Int → Bool → Nat → Nat → Int → Mem → Prop) (x0 : Int) (x1 : Int) (x2 : Bool) (x9b : Nat) (x9o : Nat) (x12 : Int) (x13 : Bool) (R : Ending → Mem → Prop) (m : Mem) : Prop :=
  LdV m x9b x9o fun v =>
  UnI v .u64 fun x82_0 =>
  LdV m x9b (x9o + 1) fun v =>
  UnI v .u64 fun x82_1 =>
  LdV m x9b (x9o + 2) fun v =>
  UnI v .u64 fun x82_2 =>
  LdV m x9b (x9o + 3) fun v =>
  UnI v .u64 fun x82_3 =>
  HC P class_Has.id #[.agg #[.int .u64 x82_0, .int .u64 x82_1, .int .u64 x82_2, .int .u64 x82_3], .int .u8 (IntKind.u8.wrap x12)] m (Cont (fun v m1 =>
      UnB v fun x85 =>
      Br (!(x85 == (!(x13 == x2)))) (
        R (.returned (.bool false)) m1) (
        K4 x0 x1 x2 x9b x9o (IntKind.i64.wrap (x12 + 1)) m1)) (panicR R))
noncomputable def k5A (K4 : Int → Int → Bool → Nat → Nat → Int → Mem → Prop) (R : Ending → Mem → Prop) : ACode := (.code (sR (bB (sL (sR (lP (bB (sR (sL (sR (sR (sR (sR (sR (sR (sR (sR (body))))))))))))))))))
def l4E (K : Int → Int → Bool → Nat → Nat → Int → Mem → Prop) : Env → Mem → Prop := fun ρ m => UnI (ρ 0) .u8 fun x0 => UnI (ρ 1) .u8 fun x1 => UnB (ρ 2) fun x2 => UnPA (ρ 9) fun x9b x9o => UnI (ρ 12) .i64 fun x12 => K x0 x1 x2 x9b x9o x12 m
def l4B  (K4 : Int → Int → Bool → Nat → Nat → Int → Mem → Prop) (x0 : Int) (x1 : Int) (x2 : Bool) (x9b : Nat) (x9o : Nat) (x12 : Int) (R : Ending → Mem → Prop) (m : Mem) : Prop :=
  Br (decide (x12 < 256)) (
    Br (decide ((IntKind.u8.wrap x12) ≥ x0)) (
      k5 K4 x0 x1 x2 x9b x9o x12 (decide ((IntKind.u8.wrap x12) ≤ x1)) R m) (
      k5 K4 x0 x1 x2 x9b x9o x12 false R m)) (
    R (.returned (.bool true)) m)
def l4  (x0 : Int) (x1 : Int) (x2 : Bool) (x9b : Nat) (x9o : Nat) (x12 : Int) (R : Ending → Mem → Prop) (m : Mem) : Prop :=
  ∃ (I : Nat → Int → Int → Bool → Nat → Nat → Int → Mem → Prop) (N : Nat), I N x0 x1 x2 x9b x9o x12 m ∧ ∀ N x0 x1 x2 x9b x9o x12 m, I N x0 x1 x2 x9b x9o x12 m → l4B  (fun x0 x1 x2 x9b x9o x12 m => ∃ N1, N1 < N ∧ I N1 x0 x1 x2 x9b x9o x12 m) x0 x1 x2 x9b x9o x12 R m
noncomputable def l4A  (K4 : Int → Int → Bool → Nat → Nat → Int → Mem → Prop) (R : Ending → Mem → Prop) : ACode := (.seq (.code (sL (lP (bB (sR (sL (sR (sR (sR (sR (sR (sR (sR (sR (body))))))))))))))) (.seq (.block 1 (.seq (.code (sL (bB (sL (sR (lP (bB (sR (sL (sR (sR (sR (sR (sR (sR (sR (sR (body)))))))))))))))))) (.cut (k5E fun x0 x1 x2 x9b x9o x12 x13 m => k5 K4 x0 x1 x2 x9b x9o x12 x13 R m) (sR (bB (sL (sR (lP (bB (sR (sL (sR (sR (sR (sR (sR (sR (sR (sR (body)))))))))))))))))))) (.code (sR (sR (lP (bB (sR (sL (sR (sR (sR (sR (sR (sR (sR (sR (body))))))))))))))))))
def k3E (K : Int → Int → Bool → ByteArray → Nat → Nat → Int → Int → Mem → Prop) : Env → Mem → Prop := fun ρ m => UnI (ρ 0) .u8 fun x0 => UnI (ρ 1) .u8 fun x1 => UnB (ρ 2) fun x2 => UnStr (ρ 8) fun x8 => UnPA (ρ 9) fun x9b x9o => UnI (ρ 10) .i64 fun x10 => UnI (ρ 11) .i64 fun x11 => K x0 x1 x2 x8 x9b x9o x10 x11 m
def k3  (x0 : Int) (x1 : Int) (x2 : Bool) (x8 : ByteArray) (x9b : Nat) (x9o : Nat) (x10 : Int) (x11 : Int) (R : Ending → Mem → Prop) (m : Mem) : Prop :=
  Br (x11 != 0) (
    R (.returned (.bool false)) m) (
    Br (x10 != (x8.size : Int)) (
      R (.returned (.bool false)) m) (
      l4  x0 x1 x2 x9b x9o 0 R m))
noncomputable def k3A  (R : Ending → Mem → Prop) : ACode := (.seq (.code (sL (sR (sR (sR (sR (sR (sR (sR (body)))))))))) (.seq (.seq (.code (sL (sL (sR (sR (sR (sR (sR (sR (sR (sR (body)))))))))))) (.block 0 (.cut (l4E fun x0 x1 x2 x9b x9o x12 m => l4  x0 x1 x2 x9b x9o x12 R m) (.loop (lP (bB (sR (sL (sR (sR (sR (sR (sR (sR (sR (sR (body))))))))))))))))) (.code (sR (sR (sR (sR (sR (sR (sR (sR (sR (body)))))))))))))
def k2E (K : Int → Int → Bool → ByteArray → Nat → Nat → Int → Int → Bool → Mem → Prop) : Env → Mem → Prop := fun ρ m => UnI (ρ 0) .u8 fun x0 => UnI (ρ 1) .u8 fun x1 => UnB (ρ 2) fun x2 => UnStr (ρ 8) fun x8 => UnPA (ρ 9) fun x9b x9o => UnI (ρ 10) .i64 fun x10 => UnI (ρ 11) .i64 fun x11 => UnB (ρ 48) fun x48 => K x0 x1 x2 x8 x9b x9o x10 x11 x48 m
def k2  (x0 : Int) (x1 : Int) (x2 : Bool) (x8 : ByteArray) (x9b : Nat) (x9o : Nat) (x10 : Int) (x11 : Int) (x48 : Bool) (R : Ending → Mem → Prop) (m : Mem) : Prop :=
  Br x48 (
    Br (x11 == 2) (
      Br (x10 == 0) (
        LdV m x9b x9o fun v =>
        UnI v .u64 fun x56_0 =>
        LdV m x9b (x9o + 1) fun v =>
        UnI v .u64 fun x56_1 =>
        LdV m x9b (x9o + 2) fun v =>
        UnI v .u64 fun x56_2 =>
        LdV m x9b (x9o + 3) fun v =>
        UnI v .u64 fun x56_3 =>
        R (.returned (.bool (eqL [.int .u64 x56_0, .int .u64 x56_1, .int .u64 x56_2, .int .u64 x56_3] [.int .u64 0, .int .u64 0, .int .u64 0, .int .u64 0]))) m) (
        R (.returned (.bool false)) m)) (
      R (.returned (.bool false)) m)) (
    k3  x0 x1 x2 x8 x9b x9o x10 x11 R m)
noncomputable def k2A  (R : Ending → Mem → Prop) : ACode := (.code (sR (sL (sR (sR (sR (sR (sR (sR (body))))))))))
def k1E (K : Int → Int → Bool → ByteArray → Mem → Prop) : Env → Mem → Prop := fun ρ m => UnI (ρ 0) .u8 fun x0 => UnI (ρ 1) .u8 fun x1 => UnB (ρ 2) fun x2 => UnStr (ρ 8) fun x8 => K x0 x1 x2 x8 m
def k1  (x0 : Int) (x1 : Int) (x2 : Bool) (x8 : ByteArray) (R : Ending → Mem → Prop) (m : Mem) : Prop :=
  HC P class_Parse.id #[.string x8] m (Cont (fun v m1 =>
      UnTup v fun us0 =>
      UnCons us0 fun w us1 =>
      UnAgg w fun l =>
      UnCons l fun v l =>
      UnI v .u64 fun x31_0_0 =>
      UnCons l fun v l =>
      UnI v .u64 fun x31_0_1 =>
      UnCons l fun v l =>
      UnI v .u64 fun x31_0_2 =>
      UnCons l fun v l =>
      UnI v .u64 fun x31_0_3 =>
      UnNil l (
        UnCons us1 fun w us2 =>
        UnI w .i64 fun x31_1 =>
        UnCons us2 fun w us3 =>
        UnI w .i64 fun x31_2 =>
        UnNil us3 (
          NewC m1 #[.int .u64 0, .int .u64 0, .int .u64 0, .int .u64 0] T_api_Set fun b9 m2 =>
          St1 m2 b9 0 (.int .u64 x31_0_0) fun m3 =>
          St1 m3 b9 1 (.int .u64 x31_0_1) fun m4 =>
          St1 m4 b9 2 (.int .u64 x31_0_2) fun m5 =>
          St1 m5 b9 3 (.int .u64 x31_0_3) fun m6 =>
          Br (decide (x0 > x1)) (
            k2  x0 x1 x2 x8 b9 0 x31_1 x31_2 true R m6) (
            Br x2 (
              Br (x0 == 0) (
                k2  x0 x1 x2 x8 b9 0 x31_1 x31_2 (x1 == 255) R m6) (
                k2  x0 x1 x2 x8 b9 0 x31_1 x31_2 false R m6)) (
              k2  x0 x1 x2 x8 b9 0 x31_1 x31_2 false R m6))))) (panicR R))
noncomputable def k1A  (R : Ending → Mem → Prop) : ACode := (.seq (.code (sL (sR (sR (sR (sR (sR (body)))))))) (.seq (.seq (.code (sL (sL (sR (sR (sR (sR (sR (sR (body)))))))))) (.cut (k2E fun x0 x1 x2 x8 x9b x9o x10 x11 x48 m => k2  x0 x1 x2 x8 x9b x9o x10 x11 x48 R m) (sR (sL (sR (sR (sR (sR (sR (sR (body))))))))))) (.cut (k3E fun x0 x1 x2 x8 x9b x9o x10 x11 m => k3  x0 x1 x2 x8 x9b x9o x10 x11 R m) (sR (sR (sR (sR (sR (sR (sR (body)))))))))))
def e0 (a0 : Int) (a1 : Int) (a2 : Bool) (R : Ending → Mem → Prop) (m : Mem) : Prop :=
  HC P eyotlaw8_begun.id #[] m (Cont (fun v m1 =>
      UnB v fun x14 =>
      Br (!x14) (
        R (.returned (.bool false)) m1) (
        HC P eyotlaw8_sign.id #[.int .u8 a0, .string (ByteArray.mk #[48, 49, 50, 51, 52, 53, 54, 55, 56, 57, 97, 98, 99, 100, 101, 102])] m1 (Cont (fun v m2 =>
            UnStr v fun x17 =>
            CatB x17 (ByteArray.mk #[45]) (
              HC P eyotlaw8_sign.id #[.int .u8 a1, .string (ByteArray.mk #[48, 49, 50, 51, 52, 53, 54, 55, 56, 57, 97, 98, 99, 100, 101, 102])] m2 (Cont (fun v m3 =>
                  UnStr v fun x20 =>
                  CatB (x17 ++ (ByteArray.mk #[45])) x20 (
                    CatB (ByteArray.mk #[91]) ((x17 ++ (ByteArray.mk #[45])) ++ x20) (
                      CatB ((ByteArray.mk #[91]) ++ ((x17 ++ (ByteArray.mk #[45])) ++ x20)) (ByteArray.mk #[93]) (
                        Br a2 (
                        CatB (ByteArray.mk #[91, 94]) ((x17 ++ (ByteArray.mk #[45])) ++ x20) (
                        CatB ((ByteArray.mk #[91, 94]) ++ ((x17 ++ (ByteArray.mk #[45])) ++ x20)) (ByteArray.mk #[93]) (
                        k1  a0 a1 a2 (((ByteArray.mk #[91, 94]) ++ ((x17 ++ (ByteArray.mk #[45])) ++ x20)) ++ (ByteArray.mk #[93])) R m3))) (
                        k1  a0 a1 a2 (((ByteArray.mk #[91]) ++ ((x17 ++ (ByteArray.mk #[45])) ++ x20)) ++ (ByteArray.mk #[93])) R m3))))) (panicR R)))) (panicR R)))) (panicR R))
noncomputable def e0A (R : Ending → Mem → Prop) : ACode := (.seq (.code (sL (body))) (.seq (.code (sL (sR (body)))) (.seq (.code (sL (sR (sR (body))))) (.seq (.code (sL (sR (sR (sR (body)))))) (.seq (.code (sL (sR (sR (sR (sR (body))))))) (.cut (k1E fun x0 x1 x2 x8 m => k1  x0 x1 x2 x8 R m) (sR (sR (sR (sR (sR (body))))))))))))
theorem k5_eq (K4 : Int → Int → Bool → Nat → Nat → Int → Mem → Prop) (R : Ending → Mem → Prop) (x0 : Int) (x1 : Int) (x2 : Bool) (x9b : Nat) (x9o : Nat) (x12 : Int) (x13 : Bool) (ρ : Env) (m : Mem) : k5 K4 x0 x1 x2 x9b x9o x12 x13 R m = acpt P od (panicR R) (k5A K4 R) (blockQ 1 (thenQ (acpt P od (panicR R) (.code (sR (sR (lP (bB (sR (sL (sR (sR (sR (sR (sR (sR (sR (sR (body)))))))))))))))) (thenQ (l4E K4) (blockQ 0 (thenQ (acpt P od (panicR R) (.code (sR (sR (sR (sR (sR (sR (sR (sR (sR (body))))))))))) (bodyQ P fn R)) (bodyQ P fn R))))) (thenQ (l4E K4) (blockQ 0 (thenQ (acpt P od (panicR R) (.code (sR (sR (sR (sR (sR (sR (sR (sR (sR (body))))))))))) (bodyQ P fn R)) (bodyQ P fn R)))))) (upd (upd (upd (upd (upd (upd ρ 13 (.bool x13)) 12 (.int .i64 x12)) 9 (.pointer (some ⟨x9b, x9o, none⟩))) 2 (.bool x2)) 1 (.int .u8 x1)) 0 (.int .u8 x0)) m := by kernel_rfl
theorem k5_er (K4 : Int → Int → Bool → Nat → Nat → Int → Mem → Prop) (R : Ending → Mem → Prop) : (k5A K4 R).erase = sR (bB (sL (sR (lP (bB (sR (sL (sR (sR (sR (sR (sR (sR (sR (sR (body)))))))))))))))) := by kernel_rfl
theorem k5_ok (K4 : Int → Int → Bool → Nat → Nat → Int → Mem → Prop) (R : Ending → Mem → Prop) (ρ : Env) (m : Mem) (h : (k5E fun x0 x1 x2 x9b x9o x12 x13 m => k5 K4 x0 x1 x2 x9b x9o x12 x13 R m) ρ m) : cpt P od (panicR R) (sR (bB (sL (sR (lP (bB (sR (sL (sR (sR (sR (sR (sR (sR (sR (sR (body))))))))))))))))) (blockQ 1 (thenQ (acpt P od (panicR R) (.code (sR (sR (lP (bB (sR (sL (sR (sR (sR (sR (sR (sR (sR (sR (body)))))))))))))))) (thenQ (l4E K4) (blockQ 0 (thenQ (acpt P od (panicR R) (.code (sR (sR (sR (sR (sR (sR (sR (sR (sR (body))))))))))) (bodyQ P fn R)) (bodyQ P fn R))))) (thenQ (l4E K4) (blockQ 0 (thenQ (acpt P od (panicR R) (.code (sR (sR (sR (sR (sR (sR (sR (sR (sR (body))))))))))) (bodyQ P fn R)) (bodyQ P fn R)))))) ρ m := by
  unfold k5E at h
  obtain ⟨x0, e0, h⟩ := h.ex
  obtain ⟨x1, e1, h⟩ := h.ex
  obtain ⟨x2, e2, h⟩ := h.ex
  obtain ⟨x9b, x9o, e9, h⟩ := h.ex
  obtain ⟨x12, e12, h⟩ := h.ex
  obtain ⟨x13, e13, h⟩ := h.ex
  rw [← upd_self e0, ← upd_self e1, ← upd_self e2, ← upd_self e9, ← upd_self e12, ← upd_self e13]
  rw [← k5_er K4 R]
  refine acpt_sound (P := P) (k5A K4 R) _ _ _ True.intro ?_
  exact Eq.mp (k5_eq K4 R x0 x1 x2 x9b x9o x12 x13 ρ m) h
theorem l4_eq  (K4 : Int → Int → Bool → Nat → Nat → Int → Mem → Prop) (R : Ending → Mem → Prop) (x0 : Int) (x1 : Int) (x2 : Bool) (x9b : Nat) (x9o : Nat) (x12 : Int) (ρ : Env) (m : Mem) : l4B  K4 x0 x1 x2 x9b x9o x12 R m = acpt P od (panicR R) (l4A  K4 R) (thenQ (l4E K4) (blockQ 0 (thenQ (acpt P od (panicR R) (.code (sR (sR (sR (sR (sR (sR (sR (sR (sR (body))))))))))) (bodyQ P fn R)) (bodyQ P fn R)))) (upd (upd (upd (upd (upd ρ 12 (.int .i64 x12)) 9 (.pointer (some ⟨x9b, x9o, none⟩))) 2 (.bool x2)) 1 (.int .u8 x1)) 0 (.int .u8 x0)) m := by kernel_rfl
theorem l4_er  (K4 : Int → Int → Bool → Nat → Nat → Int → Mem → Prop) (R : Ending → Mem → Prop) : (l4A  K4 R).erase = lP (bB (sR (sL (sR (sR (sR (sR (sR (sR (sR (sR (body)))))))))))) := by kernel_rfl
theorem l4_ok  (R : Ending → Mem → Prop) (ρ : Env) (m : Mem) (h : (l4E fun x0 x1 x2 x9b x9o x12 m => l4  x0 x1 x2 x9b x9o x12 R m) ρ m) : cpt P od (panicR R) (.loop (lP (bB (sR (sL (sR (sR (sR (sR (sR (sR (sR (sR (body)))))))))))))) (blockQ 0 (thenQ (acpt P od (panicR R) (.code (sR (sR (sR (sR (sR (sR (sR (sR (sR (body))))))))))) (bodyQ P fn R)) (bodyQ P fn R))) ρ m := by
  unfold l4E at h
  obtain ⟨x0, e0, h⟩ := h.ex
  obtain ⟨x1, e1, h⟩ := h.ex
  obtain ⟨x2, e2, h⟩ := h.ex
  obtain ⟨x9b, x9o, e9, h⟩ := h.ex
  obtain ⟨x12, e12, h⟩ := h.ex
  obtain ⟨I, N, h0, hs⟩ := h
  refine ⟨fun N => l4E (I N), N, (by show l4E (I N) ρ m; unfold l4E; rw [e0, e1, e2, e9, e12]; exact h0), ?_⟩
  clear h0 e0 e1 e2 e9 e12
  intro N ρ m h
  unfold l4E at h
  obtain ⟨x0, e0, h⟩ := h.ex
  obtain ⟨x1, e1, h⟩ := h.ex
  obtain ⟨x2, e2, h⟩ := h.ex
  obtain ⟨x9b, x9o, e9, h⟩ := h.ex
  obtain ⟨x12, e12, h⟩ := h.ex
  refine cpt_mono (P := P) (lP (bB (sR (sL (sR (sR (sR (sR (sR (sR (sR (sR (body))))))))))))) (Q := thenQ (l4E fun x0 x1 x2 x9b x9o x12 m => ∃ N1, N1 < N ∧ I N1 x0 x1 x2 x9b x9o x12 m) (blockQ 0 (thenQ (acpt P od (panicR R) (.code (sR (sR (sR (sR (sR (sR (sR (sR (sR (body))))))))))) (bodyQ P fn R)) (bodyQ P fn R)))) (fun e ρ m h => ?_) ρ m ?_
  · cases e with
    | normal =>
      have h : l4E (fun x0 x1 x2 x9b x9o x12 m => ∃ N1, N1 < N ∧ I N1 x0 x1 x2 x9b x9o x12 m) ρ m := h
      unfold l4E at h
      obtain ⟨x0, e0, h⟩ := h.ex
      obtain ⟨x1, e1, h⟩ := h.ex
      obtain ⟨x2, e2, h⟩ := h.ex
      obtain ⟨x9b, x9o, e9, h⟩ := h.ex
      obtain ⟨x12, e12, h⟩ := h.ex
      obtain ⟨N1, hlt, h⟩ := h
      exact ⟨N1, hlt, (by show l4E (I N1) ρ m; unfold l4E; rw [e0, e1, e2, e9, e12]; exact h)⟩
    | _ => exact h
  have hh := hs N x0 x1 x2 x9b x9o x12 m h
  generalize (fun x0 x1 x2 x9b x9o x12 m => ∃ N1, N1 < N ∧ I N1 x0 x1 x2 x9b x9o x12 m : Int → Int → Bool → Nat → Nat → Int → Mem → Prop) = K4 at hh ⊢
  rw [← upd_self e0, ← upd_self e1, ← upd_self e2, ← upd_self e9, ← upd_self e12]
  rw [← l4_er  K4 R]
  refine acpt_sound (P := P) (l4A  K4 R) _ _ _ ⟨⟨True.intro, ⟨(fun ρ m h => k5_ok K4 R ρ m h), True.intro⟩⟩, True.intro⟩ ?_
  exact Eq.mp (l4_eq  K4 R x0 x1 x2 x9b x9o x12 ρ m) hh
theorem k3_eq  (R : Ending → Mem → Prop) (x0 : Int) (x1 : Int) (x2 : Bool) (x8 : ByteArray) (x9b : Nat) (x9o : Nat) (x10 : Int) (x11 : Int) (ρ : Env) (m : Mem) : k3  x0 x1 x2 x8 x9b x9o x10 x11 R m = acpt P od (panicR R) (k3A  R) (bodyQ P fn R) (upd (upd (upd (upd (upd (upd (upd ρ 11 (.int .i64 x11)) 10 (.int .i64 x10)) 9 (.pointer (some ⟨x9b, x9o, none⟩))) 8 (.string x8)) 2 (.bool x2)) 1 (.int .u8 x1)) 0 (.int .u8 x0)) m := by kernel_rfl
theorem k3_er  (R : Ending → Mem → Prop) : (k3A  R).erase = sR (sR (sR (sR (sR (sR (sR (body))))))) := by kernel_rfl
theorem k3_ok  (R : Ending → Mem → Prop) (ρ : Env) (m : Mem) (h : (k3E fun x0 x1 x2 x8 x9b x9o x10 x11 m => k3  x0 x1 x2 x8 x9b x9o x10 x11 R m) ρ m) : cpt P od (panicR R) (sR (sR (sR (sR (sR (sR (sR (body)))))))) (bodyQ P fn R) ρ m := by
  unfold k3E at h
  obtain ⟨x0, e0, h⟩ := h.ex
  obtain ⟨x1, e1, h⟩ := h.ex
  obtain ⟨x2, e2, h⟩ := h.ex
  obtain ⟨x8, e8, h⟩ := h.ex
  obtain ⟨x9b, x9o, e9, h⟩ := h.ex
  obtain ⟨x10, e10, h⟩ := h.ex
  obtain ⟨x11, e11, h⟩ := h.ex
  rw [← upd_self e0, ← upd_self e1, ← upd_self e2, ← upd_self e8, ← upd_self e9, ← upd_self e10, ← upd_self e11]
  rw [← k3_er  R]
  refine acpt_sound (P := P) (k3A  R) _ _ _ ⟨⟨True.intro, ⟨(fun ρ m h => l4_ok  R ρ m h), True.intro⟩⟩, True.intro⟩ ?_
  exact Eq.mp (k3_eq  R x0 x1 x2 x8 x9b x9o x10 x11 ρ m) h
theorem k2_eq  (R : Ending → Mem → Prop) (x0 : Int) (x1 : Int) (x2 : Bool) (x8 : ByteArray) (x9b : Nat) (x9o : Nat) (x10 : Int) (x11 : Int) (x48 : Bool) (ρ : Env) (m : Mem) : k2  x0 x1 x2 x8 x9b x9o x10 x11 x48 R m = acpt P od (panicR R) (k2A  R) (thenQ (acpt P od (panicR R) (.cut (k3E fun x0 x1 x2 x8 x9b x9o x10 x11 m => k3  x0 x1 x2 x8 x9b x9o x10 x11 R m) (sR (sR (sR (sR (sR (sR (sR (body))))))))) (bodyQ P fn R)) (bodyQ P fn R)) (upd (upd (upd (upd (upd (upd (upd (upd ρ 48 (.bool x48)) 11 (.int .i64 x11)) 10 (.int .i64 x10)) 9 (.pointer (some ⟨x9b, x9o, none⟩))) 8 (.string x8)) 2 (.bool x2)) 1 (.int .u8 x1)) 0 (.int .u8 x0)) m := by kernel_rfl
theorem k2_er  (R : Ending → Mem → Prop) : (k2A  R).erase = sR (sL (sR (sR (sR (sR (sR (sR (body)))))))) := by kernel_rfl
theorem k2_ok  (R : Ending → Mem → Prop) (ρ : Env) (m : Mem) (h : (k2E fun x0 x1 x2 x8 x9b x9o x10 x11 x48 m => k2  x0 x1 x2 x8 x9b x9o x10 x11 x48 R m) ρ m) : cpt P od (panicR R) (sR (sL (sR (sR (sR (sR (sR (sR (body))))))))) (thenQ (acpt P od (panicR R) (.cut (k3E fun x0 x1 x2 x8 x9b x9o x10 x11 m => k3  x0 x1 x2 x8 x9b x9o x10 x11 R m) (sR (sR (sR (sR (sR (sR (sR (body))))))))) (bodyQ P fn R)) (bodyQ P fn R)) ρ m := by
  unfold k2E at h
  obtain ⟨x0, e0, h⟩ := h.ex
  obtain ⟨x1, e1, h⟩ := h.ex
  obtain ⟨x2, e2, h⟩ := h.ex
  obtain ⟨x8, e8, h⟩ := h.ex
  obtain ⟨x9b, x9o, e9, h⟩ := h.ex
  obtain ⟨x10, e10, h⟩ := h.ex
  obtain ⟨x11, e11, h⟩ := h.ex
  obtain ⟨x48, e48, h⟩ := h.ex
  rw [← upd_self e0, ← upd_self e1, ← upd_self e2, ← upd_self e8, ← upd_self e9, ← upd_self e10, ← upd_self e11, ← upd_self e48]
  rw [← k2_er  R]
  refine acpt_sound (P := P) (k2A  R) _ _ _ True.intro ?_
  exact Eq.mp (k2_eq  R x0 x1 x2 x8 x9b x9o x10 x11 x48 ρ m) h
theorem k1_eq  (R : Ending → Mem → Prop) (x0 : Int) (x1 : Int) (x2 : Bool) (x8 : ByteArray) (ρ : Env) (m : Mem) : k1  x0 x1 x2 x8 R m = acpt P od (panicR R) (k1A  R) (bodyQ P fn R) (upd (upd (upd (upd ρ 8 (.string x8)) 2 (.bool x2)) 1 (.int .u8 x1)) 0 (.int .u8 x0)) m := by kernel_rfl
theorem k1_er  (R : Ending → Mem → Prop) : (k1A  R).erase = sR (sR (sR (sR (sR (body))))) := by kernel_rfl
theorem k1_ok  (R : Ending → Mem → Prop) (ρ : Env) (m : Mem) (h : (k1E fun x0 x1 x2 x8 m => k1  x0 x1 x2 x8 R m) ρ m) : cpt P od (panicR R) (sR (sR (sR (sR (sR (body)))))) (bodyQ P fn R) ρ m := by
  unfold k1E at h
  obtain ⟨x0, e0, h⟩ := h.ex
  obtain ⟨x1, e1, h⟩ := h.ex
  obtain ⟨x2, e2, h⟩ := h.ex
  obtain ⟨x8, e8, h⟩ := h.ex
  rw [← upd_self e0, ← upd_self e1, ← upd_self e2, ← upd_self e8]
  rw [← k1_er  R]
  refine acpt_sound (P := P) (k1A  R) _ _ _ ⟨⟨(fun ρ m h => k3_ok  R ρ m h), ⟨(fun ρ m h => k2_ok  R ρ m h), True.intro⟩⟩, True.intro⟩ ?_
  exact Eq.mp (k1_eq  R x0 x1 x2 x8 ρ m) h
theorem e0_eq (a0 : Int) (a1 : Int) (a2 : Bool) (R : Ending → Mem → Prop) (m : Mem) : e0 a0 a1 a2 R m = acpt P od (panicR R) (e0A R) (bodyQ P fn R) (argE (#[.int .u8 a0, .int .u8 a1, .bool a2] : Array Value).toList) m := by kernel_rfl
theorem ok (a0 : Int) (a1 : Int) (a2 : Bool) (R : Ending → Mem → Prop) (m : Mem) (h : e0 a0 a1 a2 R m) : HC P id #[.int .u8 a0, .int .u8 a1, .bool a2] m R := by
  refine HC_of (fn := fn) (c := body) (od := od) (tb := tb) Go.Proofs.Tryd.func6 (by kernel_rfl) (by kernel_rfl) follows (by kernel_rfl) (of_decide_eq_true (by kernel_rfl)) ?_
  have he : (e0A R).erase = body := by kernel_rfl
  rw [← he]
  refine acpt_sound (P := P) (e0A R) _ _ _ ⟨⟨⟨⟨⟨(fun ρ m h => k1_ok  R ρ m h), True.intro⟩, True.intro⟩, True.intro⟩, True.intro⟩, True.intro⟩ ?_
  exact Eq.mp (e0_eq a0 a1 a2 R m) h
end eyotlaw8_ClassRuns

/-! ### eyot/eyotlaw8.ClassSigns -/
namespace eyotlaw8_ClassSigns
noncomputable def fn : Func := Go.Proofs.Tryd.f7
noncomputable def body : Code := fn.body.getD .skip
def od : Nat → Ord := fun | 11 => ordL [(0, 3), (1, 3), (2, 3), (3, 3), (4, 3), (5, 3), (6, 3), (7, 3), (8, 3), (9, 3), (10, 3), (11, 3), (12, 3), (13, 3), (14, 1), (15, 3), (16, 0), (17, 0), (18, 3), (19, 3), (20, 3), (21, 3)] .done | 13 => ordL [(0, 3), (1, 3), (2, 3), (3, 3), (4, 3), (5, 3), (6, 3), (7, 3), (8, 3), (9, 3), (10, 3), (11, 1), (12, 3), (13, 0), (14, 0), (15, 3), (16, 3), (17, 3), (18, 3), (19, 3)] .done | _ => .done
def tb : Nat → Tab := fun | 11 => (0, [0, 0, 2, 6, 14, 30, 62, 127, 255, 511, 1023, 2047, 4095, 8191, 16383, 16383, 49151, 114687, 262143, 524287, 1048575, 2097151], [(0, 2048, 52), (0, 128, 53), (2, 4503599627370496, 54), (4, 9007199254740992, 55), (8, 18014398509481985, 56), (24, 54043195528445952, 57), (40, 90071992547409920, 58), (65, 146366987889541120, 59), (136, 288230376151711744, 60), (256, 576460752303425536, 61), (768, 1729382256910270464, 62), (1024, 2305843009213694016, 63), (3072, 6917529027641081856, 64), (5120, 11529215046068469760, 65), (8192, 18446744073709551648, 66), (8192, 18446744073709551617, 67), (40960, 92233720368547758080, 68), (73728, 166020696663385964544, 69), (155648, 350488137400481480704, 70), (271360, 611048397441628897280, 71), (525568, 1183473924478928420864, 72), (1048832, 2361759702187126030336, 73)]) | 13 => (0, [0, 0, 2, 7, 15, 31, 63, 127, 255, 511, 1023, 2047, 2047, 6143, 14335, 32767, 65535, 131071, 262143, 524287], [(0, 8, 74), (0, 1024, 75), (2, 18889465931478580854784, 76), (5, 47223664828696452136960, 77), (8, 75557863725914323419136, 78), (16, 151115727451828646838280, 79), (48, 453347182355485940514816, 80), (80, 755578637259143234191360, 81), (128, 1208925819614629174706688, 82), (384, 3626777458843887524118528, 83), (640, 6044629098073145873530880, 84), (1024, 9671406556917033397649664, 85), (1024, 9671406556917033397649409, 86), (5120, 48357032784585166988247040, 87), (9216, 87042659012253300578844672, 88), (19456, 183756724581423634555338752, 89), (33920, 320365342197876731297136640, 90), (65680, 620330061189756595271106560, 91), (131088, 1238091155012832103545962496, 92), (524287, 2475880078570760549798248448, 3)]) | _ => (0, [], [])
def k4E (K : Int → Bool → Nat → Nat → Int → Int → Mem → Prop) : Env → Mem → Prop := fun ρ m => UnI (ρ 0) .u8 fun x0 => UnB (ρ 3) fun x3 => UnPA (ρ 8) fun x8b x8o => UnI (ρ 9) .i64 fun x9 => UnI (ρ 10) .i64 fun x10 => K x0 x3 x8b x8o x9 x10 m
def k4  (x0 : Int) (x3 : Bool) (x8b : Nat) (x8o : Nat) (x9 : Int) (x10 : Int) (R : Ending → Mem → Prop) (m : Mem) : Prop :=
  Sub m fun r1 =>
  Br (x3 == (x10 == 0)) (
    Br (!x3) (
      R (.returned (.bool true)) m) (
      Br (x9 == 2) (
        LdV r1 x8b x8o fun v =>
        UnI v .u64 fun x84_0 =>
        LdV r1 x8b (x8o + 1) fun v =>
        UnI v .u64 fun x84_1 =>
        LdV r1 x8b (x8o + 2) fun v =>
        UnI v .u64 fun x84_2 =>
        LdV r1 x8b (x8o + 3) fun v =>
        UnI v .u64 fun x84_3 =>
        NewC m #[.int .u8 x0] T_uint8 fun b86 m2 =>
        Lk r1 m2 fun r3 =>
        HC P class_Of.id #[.slice (some ⟨b86, 0, none⟩) 1 1] m2 (Cont (fun v m4 =>
            UnAgg v fun l =>
            UnCons l fun v l =>
            UnI v .u64 fun x87_0 =>
            UnCons l fun v l =>
            UnI v .u64 fun x87_1 =>
            UnCons l fun v l =>
            UnI v .u64 fun x87_2 =>
            UnCons l fun v l =>
            UnI v .u64 fun x87_3 =>
            UnNil l (
              Lk r3 m4 fun r5 =>
              R (.returned (.bool (eqL [.int .u64 x84_0, .int .u64 x84_1, .int .u64 x84_2, .int .u64 x84_3] [.int .u64 x87_0, .int .u64 x87_1, .int .u64 x87_2, .int .u64 x87_3]))) m4)) (panicR R))) (
        R (.returned (.bool false)) m))) (
    R (.returned (.bool false)) m)
noncomputable def k4A  (R : Ending → Mem → Prop) : ACode := (.code (sR (sR (sR (sR (sR (sR (sR (sR (body))))))))))
def k3E (K : Int → Bool → Nat → Nat → Int → Int → Nat → Nat → Int → Int → Bool → Mem → Prop) : Env → Mem → Prop := fun ρ m => UnI (ρ 0) .u8 fun x0 => UnB (ρ 3) fun x3 => UnPA (ρ 5) fun x5b x5o => UnI (ρ 6) .i64 fun x6 => UnI (ρ 7) .i64 fun x7 => UnPA (ρ 8) fun x8b x8o => UnI (ρ 9) .i64 fun x9 => UnI (ρ 10) .i64 fun x10 => UnB (ρ 11) fun x11 => K x0 x3 x5b x5o x6 x7 x8b x8o x9 x10 x11 m
def k3  (x0 : Int) (x3 : Bool) (x5b : Nat) (x5o : Nat) (x6 : Int) (x7 : Int) (x8b : Nat) (x8o : Nat) (x9 : Int) (x10 : Int) (x11 : Bool) (R : Ending → Mem → Prop) (m : Mem) : Prop :=
  Sub m fun r1 =>
  Br (x7 == 0) (
    Br (!(x11 == (x0 != 46))) (
      R (.returned (.bool false)) m) (
      Br x11 (
        Br (x6 != 1) (
          R (.returned (.bool false)) m) (
          LdV r1 x5b x5o fun v =>
          UnI v .u64 fun x65_0 =>
          LdV r1 x5b (x5o + 1) fun v =>
          UnI v .u64 fun x65_1 =>
          LdV r1 x5b (x5o + 2) fun v =>
          UnI v .u64 fun x65_2 =>
          LdV r1 x5b (x5o + 3) fun v =>
          UnI v .u64 fun x65_3 =>
          NewC m #[.int .u8 x0] T_uint8 fun b67 m2 =>
          Lk r1 m2 fun r3 =>
          HC P class_Of.id #[.slice (some ⟨b67, 0, none⟩) 1 1] m2 (Cont (fun v m4 =>
              UnAgg v fun l =>
              UnCons l fun v l =>
              UnI v .u64 fun x68_0 =>
              UnCons l fun v l =>
              UnI v .u64 fun x68_1 =>
              UnCons l fun v l =>
              UnI v .u64 fun x68_2 =>
              UnCons l fun v l =>
              UnI v .u64 fun x68_3 =>
              UnNil l (
                Lk r3 m4 fun r5 =>
                Br (!(eqL [.int .u64 x65_0, .int .u64 x65_1, .int .u64 x65_2, .int .u64 x65_3] [.int .u64 x68_0, .int .u64 x68_1, .int .u64 x68_2, .int .u64 x68_3])) (
                  R (.returned (.bool false)) m4) (
                  k4  x0 x3 x8b x8o x9 x10 R m4))) (panicR R)))) (
        k4  x0 x3 x8b x8o x9 x10 R m))) (
    Br (!(x11 == false)) (
      R (.returned (.bool false)) m) (
      Br x11 (
        Br (x6 != 1) (
          R (.returned (.bool false)) m) (
          LdV r1 x5b x5o fun v =>
          UnI v .u64 fun x65_0 =>
          LdV r1 x5b (x5o + 1) fun v =>
          UnI v .u64 fun x65_1 =>
          LdV r1 x5b (x5o + 2) fun v =>
          UnI v .u64 fun x65_2 =>
          LdV r1 x5b (x5o + 3) fun v =>
          UnI v .u64 fun x65_3 =>
          NewC m #[.int .u8 x0] T_uint8 fun b67 m2 =>
          Lk r1 m2 fun r3 =>
          HC P class_Of.id #[.slice (some ⟨b67, 0, none⟩) 1 1] m2 (Cont (fun v m4 =>
              UnAgg v fun l =>
              UnCons l fun v l =>
              UnI v .u64 fun x68_0 =>
              UnCons l fun v l =>
              UnI v .u64 fun x68_1 =>
              UnCons l fun v l =>
              UnI v .u64 fun x68_2 =>
              UnCons l fun v l =>
              UnI v .u64 fun x68_3 =>
              UnNil l (
                Lk r3 m4 fun r5 =>
                Br (!(eqL [.int .u64 x65_0, .int .u64 x65_1, .int .u64 x65_2, .int .u64 x65_3] [.int .u64 x68_0, .int .u64 x68_1, .int .u64 x68_2, .int .u64 x68_3])) (
                  R (.returned (.bool false)) m4) (
                  k4  x0 x3 x8b x8o x9 x10 R m4))) (panicR R)))) (
        k4  x0 x3 x8b x8o x9 x10 R m)))
noncomputable def k3A  (R : Ending → Mem → Prop) : ACode := (.seq (.code (sL (sR (sR (sR (sR (sR (sR (sR (body)))))))))) (.cut (k4E fun x0 x3 x8b x8o x9 x10 m => k4  x0 x3 x8b x8o x9 x10 R m) (sR (sR (sR (sR (sR (sR (sR (sR (body)))))))))))
def k2E (K : Int → Bool → Mem → Prop) : Env → Mem → Prop := fun ρ m => UnI (ρ 0) .u8 fun x0 => UnB (ρ 3) fun x3 => K x0 x3 m
def k2  (x0 : Int) (x3 : Bool) (R : Ending → Mem → Prop) (m : Mem) : Prop :=
  NewC m #[.int .u8 x0] T_uint8 fun b27 m1 =>
  B2S m1 (some ⟨b27, 0, none⟩) 1 fun s28 =>
  HC P class_Parse.id #[.string s28] m1 (Cont (fun v m2 =>
      UnTup v fun us0 =>
      UnCons us0 fun w us1 =>
      UnAgg w fun l =>
      UnCons l fun v l =>
      UnI v .u64 fun x29_0_0 =>
      UnCons l fun v l =>
      UnI v .u64 fun x29_0_1 =>
      UnCons l fun v l =>
      UnI v .u64 fun x29_0_2 =>
      UnCons l fun v l =>
      UnI v .u64 fun x29_0_3 =>
      UnNil l (
        UnCons us1 fun w us2 =>
        UnI w .i64 fun x29_1 =>
        UnCons us2 fun w us3 =>
        UnI w .i64 fun x29_2 =>
        UnNil us3 (
          NewC m2 #[.int .u64 0, .int .u64 0, .int .u64 0, .int .u64 0] T_api_Set fun b5 m3 =>
          St1 m3 b5 0 (.int .u64 x29_0_0) fun m4 =>
          St1 m4 b5 1 (.int .u64 x29_0_1) fun m5 =>
          St1 m5 b5 2 (.int .u64 x29_0_2) fun m6 =>
          St1 m6 b5 3 (.int .u64 x29_0_3) fun m7 =>
          NewC m7 #[.int .u8 92, .int .u8 x0] T_uint8 fun b35 m8 =>
          B2S m8 (some ⟨b35, 0, none⟩) 2 fun s36 =>
          HC P class_Parse.id #[.string s36] m8 (Cont (fun v m9 =>
              UnTup v fun us0 =>
              UnCons us0 fun w us1 =>
              UnAgg w fun l =>
              UnCons l fun v l =>
              UnI v .u64 fun x37_0_0 =>
              UnCons l fun v l =>
              UnI v .u64 fun x37_0_1 =>
              UnCons l fun v l =>
              UnI v .u64 fun x37_0_2 =>
              UnCons l fun v l =>
              UnI v .u64 fun x37_0_3 =>
              UnNil l (
                UnCons us1 fun w us2 =>
                UnI w .i64 fun x37_1 =>
                UnCons us2 fun w us3 =>
                UnI w .i64 fun x37_2 =>
                UnNil us3 (
                  NewC m9 #[.int .u64 0, .int .u64 0, .int .u64 0, .int .u64 0] T_api_Set fun b8 m10 =>
                  St1 m10 b8 0 (.int .u64 x37_0_0) fun m11 =>
                  St1 m11 b8 1 (.int .u64 x37_0_1) fun m12 =>
                  St1 m12 b8 2 (.int .u64 x37_0_2) fun m13 =>
                  St1 m13 b8 3 (.int .u64 x37_0_3) fun m14 =>
                  Br (decide (x0 ≥ 33)) (
                    Br (decide (x0 ≤ 126)) (
                      k3  x0 x3 b5 0 x29_1 x29_2 b8 0 x37_1 x37_2 (!x3) R m14) (
                      k3  x0 x3 b5 0 x29_1 x29_2 b8 0 x37_1 x37_2 false R m14)) (
                    k3  x0 x3 b5 0 x29_1 x29_2 b8 0 x37_1 x37_2 false R m14)))) (panicR R))))) (panicR R))
noncomputable def k2A  (R : Ending → Mem → Prop) : ACode := (.seq (.code (sL (sR (sR (sR (sR (body))))))) (.seq (.code (sL (sR (sR (sR (sR (sR (body)))))))) (.seq (.code (sL (sR (sR (sR (sR (sR (sR (body))))))))) (.cut (k3E fun x0 x3 x5b x5o x6 x7 x8b x8o x9 x10 x11 m => k3  x0 x3 x5b x5o x6 x7 x8b x8o x9 x10 x11 R m) (sR (sR (sR (sR (sR (sR (sR (body))))))))))))
def l1E (K : Int → Bool → Int → Mem → Prop) : Env → Mem → Prop := fun ρ m => UnI (ρ 0) .u8 fun x0 => UnB (ρ 3) fun x3 => UnI (ρ 4) .i64 fun x4 => K x0 x3 x4 m
def l1B  (K1 : Int → Bool → Int → Mem → Prop) (x0 : Int) (x3 : Bool) (x4 : Int) (R : Ending → Mem → Prop) (m : Mem) : Prop :=
  Br (decide (x4 < 12)) (
    Br x3 (
      K1 x0 true (IntKind.i64.wrap (x4 + 1)) m) (
      IxB (ByteArray.mk #[92, 124, 42, 43, 63, 40, 41, 91, 93, 46, 94, 45]) x4 fun x21 =>
      K1 x0 (x21 == x0) (IntKind.i64.wrap (x4 + 1)) m)) (
    k2  x0 x3 R m)
def l1  (x0 : Int) (x3 : Bool) (x4 : Int) (R : Ending → Mem → Prop) (m : Mem) : Prop :=
  ∃ (I : Nat → Int → Bool → Int → Mem → Prop) (N : Nat), I N x0 x3 x4 m ∧ ∀ N x0 x3 x4 m, I N x0 x3 x4 m → l1B  (fun x0 x3 x4 m => ∃ N1, N1 < N ∧ I N1 x0 x3 x4 m) x0 x3 x4 R m
noncomputable def l1A  (K1 : Int → Bool → Int → Mem → Prop) (R : Ending → Mem → Prop) : ACode := (.code (lP (bB (sR (sL (sR (sR (sR (body)))))))))
def e0 (a0 : Int) (R : Ending → Mem → Prop) (m : Mem) : Prop :=
  HC P eyotlaw8_begun.id #[] m (Cont (fun v m1 =>
      UnB v fun x12 =>
      Br (!x12) (
        R (.returned (.bool false)) m1) (
        l1  a0 false 0 R m1)) (panicR R))
noncomputable def e0A (R : Ending → Mem → Prop) : ACode := (.seq (.code (sL (body))) (.seq (.code (sL (sR (body)))) (.seq (.code (sL (sR (sR (body))))) (.seq (.seq (.code (sL (sL (sR (sR (sR (body))))))) (.block 0 (.cut (l1E fun x0 x3 x4 m => l1  x0 x3 x4 R m) (.loop (lP (bB (sR (sL (sR (sR (sR (body)))))))))))) (.cut (k2E fun x0 x3 m => k2  x0 x3 R m) (sR (sR (sR (sR (body))))))))))
theorem k4_eq  (R : Ending → Mem → Prop) (x0 : Int) (x3 : Bool) (x8b : Nat) (x8o : Nat) (x9 : Int) (x10 : Int) (ρ : Env) (m : Mem) : k4  x0 x3 x8b x8o x9 x10 R m = acpt P od (panicR R) (k4A  R) (bodyQ P fn R) (upd (upd (upd (upd (upd ρ 10 (.int .i64 x10)) 9 (.int .i64 x9)) 8 (.pointer (some ⟨x8b, x8o, none⟩))) 3 (.bool x3)) 0 (.int .u8 x0)) m := by kernel_rfl
theorem k4_er  (R : Ending → Mem → Prop) : (k4A  R).erase = sR (sR (sR (sR (sR (sR (sR (sR (body)))))))) := by kernel_rfl
theorem k4_ok  (R : Ending → Mem → Prop) (ρ : Env) (m : Mem) (h : (k4E fun x0 x3 x8b x8o x9 x10 m => k4  x0 x3 x8b x8o x9 x10 R m) ρ m) : cpt P od (panicR R) (sR (sR (sR (sR (sR (sR (sR (sR (body))))))))) (bodyQ P fn R) ρ m := by
  unfold k4E at h
  obtain ⟨x0, e0, h⟩ := h.ex
  obtain ⟨x3, e3, h⟩ := h.ex
  obtain ⟨x8b, x8o, e8, h⟩ := h.ex
  obtain ⟨x9, e9, h⟩ := h.ex
  obtain ⟨x10, e10, h⟩ := h.ex
  rw [← upd_self e0, ← upd_self e3, ← upd_self e8, ← upd_self e9, ← upd_self e10]
  rw [← k4_er  R]
  refine acpt_sound (P := P) (k4A  R) _ _ _ True.intro ?_
  exact Eq.mp (k4_eq  R x0 x3 x8b x8o x9 x10 ρ m) h
theorem k3_eq  (R : Ending → Mem → Prop) (x0 : Int) (x3 : Bool) (x5b : Nat) (x5o : Nat) (x6 : Int) (x7 : Int) (x8b : Nat) (x8o : Nat) (x9 : Int) (x10 : Int) (x11 : Bool) (ρ : Env) (m : Mem) : k3  x0 x3 x5b x5o x6 x7 x8b x8o x9 x10 x11 R m = acpt P od (panicR R) (k3A  R) (bodyQ P fn R) (upd (upd (upd (upd (upd (upd (upd (upd (upd ρ 11 (.bool x11)) 10 (.int .i64 x10)) 9 (.int .i64 x9)) 8 (.pointer (some ⟨x8b, x8o, none⟩))) 7 (.int .i64 x7)) 6 (.int .i64 x6)) 5 (.pointer (some ⟨x5b, x5o, none⟩))) 3 (.bool x3)) 0 (.int .u8 x0)) m := by kernel_rfl
theorem k3_er  (R : Ending → Mem → Prop) : (k3A  R).erase = sR (sR (sR (sR (sR (sR (sR (body))))))) := by kernel_rfl
theorem k3_ok  (R : Ending → Mem → Prop) (ρ : Env) (m : Mem) (h : (k3E fun x0 x3 x5b x5o x6 x7 x8b x8o x9 x10 x11 m => k3  x0 x3 x5b x5o x6 x7 x8b x8o x9 x10 x11 R m) ρ m) : cpt P od (panicR R) (sR (sR (sR (sR (sR (sR (sR (body)))))))) (bodyQ P fn R) ρ m := by
  unfold k3E at h
  obtain ⟨x0, e0, h⟩ := h.ex
  obtain ⟨x3, e3, h⟩ := h.ex
  obtain ⟨x5b, x5o, e5, h⟩ := h.ex
  obtain ⟨x6, e6, h⟩ := h.ex
  obtain ⟨x7, e7, h⟩ := h.ex
  obtain ⟨x8b, x8o, e8, h⟩ := h.ex
  obtain ⟨x9, e9, h⟩ := h.ex
  obtain ⟨x10, e10, h⟩ := h.ex
  obtain ⟨x11, e11, h⟩ := h.ex
  rw [← upd_self e0, ← upd_self e3, ← upd_self e5, ← upd_self e6, ← upd_self e7, ← upd_self e8, ← upd_self e9, ← upd_self e10, ← upd_self e11]
  rw [← k3_er  R]
  refine acpt_sound (P := P) (k3A  R) _ _ _ ⟨(fun ρ m h => k4_ok  R ρ m h), True.intro⟩ ?_
  exact Eq.mp (k3_eq  R x0 x3 x5b x5o x6 x7 x8b x8o x9 x10 x11 ρ m) h
theorem k2_eq  (R : Ending → Mem → Prop) (x0 : Int) (x3 : Bool) (ρ : Env) (m : Mem) : k2  x0 x3 R m = acpt P od (panicR R) (k2A  R) (bodyQ P fn R) (upd (upd ρ 3 (.bool x3)) 0 (.int .u8 x0)) m := by kernel_rfl
theorem k2_er  (R : Ending → Mem → Prop) : (k2A  R).erase = sR (sR (sR (sR (body)))) := by kernel_rfl
theorem k2_ok  (R : Ending → Mem → Prop) (ρ : Env) (m : Mem) (h : (k2E fun x0 x3 m => k2  x0 x3 R m) ρ m) : cpt P od (panicR R) (sR (sR (sR (sR (body))))) (bodyQ P fn R) ρ m := by
  unfold k2E at h
  obtain ⟨x0, e0, h⟩ := h.ex
  obtain ⟨x3, e3, h⟩ := h.ex
  rw [← upd_self e0, ← upd_self e3]
  rw [← k2_er  R]
  refine acpt_sound (P := P) (k2A  R) _ _ _ ⟨⟨⟨(fun ρ m h => k3_ok  R ρ m h), True.intro⟩, True.intro⟩, True.intro⟩ ?_
  exact Eq.mp (k2_eq  R x0 x3 ρ m) h
theorem l1_eq  (K1 : Int → Bool → Int → Mem → Prop) (R : Ending → Mem → Prop) (x0 : Int) (x3 : Bool) (x4 : Int) (ρ : Env) (m : Mem) : l1B  K1 x0 x3 x4 R m = acpt P od (panicR R) (l1A  K1 R) (thenQ (l1E K1) (blockQ 0 (thenQ (acpt P od (panicR R) (.cut (k2E fun x0 x3 m => k2  x0 x3 R m) (sR (sR (sR (sR (body)))))) (bodyQ P fn R)) (bodyQ P fn R)))) (upd (upd (upd ρ 4 (.int .i64 x4)) 3 (.bool x3)) 0 (.int .u8 x0)) m := by kernel_rfl
theorem l1_er  (K1 : Int → Bool → Int → Mem → Prop) (R : Ending → Mem → Prop) : (l1A  K1 R).erase = lP (bB (sR (sL (sR (sR (sR (body))))))) := by kernel_rfl
theorem l1_ok  (R : Ending → Mem → Prop) (ρ : Env) (m : Mem) (h : (l1E fun x0 x3 x4 m => l1  x0 x3 x4 R m) ρ m) : cpt P od (panicR R) (.loop (lP (bB (sR (sL (sR (sR (sR (body))))))))) (blockQ 0 (thenQ (acpt P od (panicR R) (.cut (k2E fun x0 x3 m => k2  x0 x3 R m) (sR (sR (sR (sR (body)))))) (bodyQ P fn R)) (bodyQ P fn R))) ρ m := by
  unfold l1E at h
  obtain ⟨x0, e0, h⟩ := h.ex
  obtain ⟨x3, e3, h⟩ := h.ex
  obtain ⟨x4, e4, h⟩ := h.ex
  obtain ⟨I, N, h0, hs⟩ := h
  refine ⟨fun N => l1E (I N), N, (by show l1E (I N) ρ m; unfold l1E; rw [e0, e3, e4]; exact h0), ?_⟩
  clear h0 e0 e3 e4
  intro N ρ m h
  unfold l1E at h
  obtain ⟨x0, e0, h⟩ := h.ex
  obtain ⟨x3, e3, h⟩ := h.ex
  obtain ⟨x4, e4, h⟩ := h.ex
  refine cpt_mono (P := P) (lP (bB (sR (sL (sR (sR (sR (body)))))))) (Q := thenQ (l1E fun x0 x3 x4 m => ∃ N1, N1 < N ∧ I N1 x0 x3 x4 m) (blockQ 0 (thenQ (acpt P od (panicR R) (.cut (k2E fun x0 x3 m => k2  x0 x3 R m) (sR (sR (sR (sR (body)))))) (bodyQ P fn R)) (bodyQ P fn R)))) (fun e ρ m h => ?_) ρ m ?_
  · cases e with
    | normal =>
      have h : l1E (fun x0 x3 x4 m => ∃ N1, N1 < N ∧ I N1 x0 x3 x4 m) ρ m := h
      unfold l1E at h
      obtain ⟨x0, e0, h⟩ := h.ex
      obtain ⟨x3, e3, h⟩ := h.ex
      obtain ⟨x4, e4, h⟩ := h.ex
      obtain ⟨N1, hlt, h⟩ := h
      exact ⟨N1, hlt, (by show l1E (I N1) ρ m; unfold l1E; rw [e0, e3, e4]; exact h)⟩
    | _ => exact h
  have hh := hs N x0 x3 x4 m h
  generalize (fun x0 x3 x4 m => ∃ N1, N1 < N ∧ I N1 x0 x3 x4 m : Int → Bool → Int → Mem → Prop) = K1 at hh ⊢
  rw [← upd_self e0, ← upd_self e3, ← upd_self e4]
  rw [← l1_er  K1 R]
  refine acpt_sound (P := P) (l1A  K1 R) _ _ _ True.intro ?_
  exact Eq.mp (l1_eq  K1 R x0 x3 x4 ρ m) hh
theorem e0_eq (a0 : Int) (R : Ending → Mem → Prop) (m : Mem) : e0 a0 R m = acpt P od (panicR R) (e0A R) (bodyQ P fn R) (argE (#[.int .u8 a0] : Array Value).toList) m := by kernel_rfl
theorem ok (a0 : Int) (R : Ending → Mem → Prop) (m : Mem) (h : e0 a0 R m) : HC P id #[.int .u8 a0] m R := by
  refine HC_of (fn := fn) (c := body) (od := od) (tb := tb) Go.Proofs.Tryd.func7 (by kernel_rfl) (by kernel_rfl) follows (by kernel_rfl) (of_decide_eq_true (by kernel_rfl)) ?_
  have he : (e0A R).erase = body := by kernel_rfl
  rw [← he]
  refine acpt_sound (P := P) (e0A R) _ _ _ ⟨⟨⟨⟨(fun ρ m h => k2_ok  R ρ m h), ⟨(fun ρ m h => l1_ok  R ρ m h), True.intro⟩⟩, True.intro⟩, True.intro⟩, True.intro⟩ ?_
  exact Eq.mp (e0_eq a0 R m) h
end eyotlaw8_ClassSigns

/-! ### eyot/eyotlaw8.begun -/
namespace eyotlaw8_begun
noncomputable def fn : Func := Go.Proofs.Tryd.f10
noncomputable def body : Code := fn.body.getD .skip
def od : Nat → Ord := fun | 3 => ordL [(0, 3), (1, 3), (2, 3), (3, 3), (4, 3), (5, 3), (6, 3), (7, 0), (8, 0), (9, 3), (10, 3), (11, 0), (12, 0), (13, 3), (14, 3), (15, 3), (16, 3), (17, 3), (18, 3), (19, 3), (20, 3), (21, 3), (22, 3), (23, 0), (24, 0), (25, 3), (26, 3), (27, 3), (30, 1), (28, 0), (29, 0), (31, 3), (32, 3), (33, 3)] .done | _ => .done
def tb : Nat → Tab := fun | 3 => (0, [0, 1, 3, 7, 15, 31, 63, 127, 255, 511, 1023, 2047, 4095, 8191, 16383, 32767, 65535, 131071, 262143, 524287, 1048575, 2097151, 4194303, 8388607, 16777215, 33554431, 67108863, 134217727, 268435455, 536870911, 268435455, 2147483647, 4294967295, 8589934591], [(0, 8, 17), (1, 65536, 18), (2, 131072, 19), (4, 262148, 20), (12, 786432, 21), (20, 1310720, 22), (36, 2097152, 23), (64, 4194306, 24), (192, 12582912, 25), (320, 20971520, 26), (768, 33554432, 27), (1024, 67108866, 28), (3072, 201326592, 29), (5120, 335544320, 30), (9216, 603979776, 31), (20480, 1073741824, 32), (32768, 2147483680, 33), (98304, 6442450944, 34), (163840, 8589934592, 35), (262144, 17179869200, 36), (786432, 51539607552, 37), (1310720, 85899345920, 38), (2359296, 137438953472, 39), (4194304, 274877906946, 40), (12582912, 824633720832, 41), (20971520, 1374389534720, 42), (37748736, 2473901162496, 43), (83886080, 4398046511104, 44), (134217728, 8796093022208, 45), (402653184, 26388279066624, 46), (134217728, 8796093022210, 47), (1744830464, 114349209288704, 48), (2281701376, 149533581377536, 49), (8589934591, 281474976710656, 1)]) | _ => (0, [], [])
def e0  (R : Ending → Mem → Prop) (m : Mem) : Prop :=
  HC P class_Parse.id #[.string (ByteArray.mk #[91, 97, 45, 99, 93, 120])] m (Cont (fun v m1 =>
      UnTup v fun us0 =>
      UnCons us0 fun w us1 =>
      UnAgg w fun l =>
      UnCons l fun v l =>
      UnI v .u64 fun x7_0_0 =>
      UnCons l fun v l =>
      UnI v .u64 fun x7_0_1 =>
      UnCons l fun v l =>
      UnI v .u64 fun x7_0_2 =>
      UnCons l fun v l =>
      UnI v .u64 fun x7_0_3 =>
      UnNil l (
        UnCons us1 fun w us2 =>
        UnI w .i64 fun x7_1 =>
        UnCons us2 fun w us3 =>
        UnI w .i64 fun x7_2 =>
        UnNil us3 (
          NewC m1 #[.int .u64 0, .int .u64 0, .int .u64 0, .int .u64 0] T_api_Set fun b_s_1 m2 =>
          St1 m2 b_s_1 0 (.int .u64 x7_0_0) fun m3 =>
          St1 m3 b_s_1 1 (.int .u64 x7_0_1) fun m4 =>
          St1 m4 b_s_1 2 (.int .u64 x7_0_2) fun m5 =>
          St1 m5 b_s_1 3 (.int .u64 x7_0_3) fun m6 =>
          LdV m6 b_s_1 0 fun v =>
          UnI v .u64 fun x12_0 =>
          LdV m6 b_s_1 1 fun v =>
          UnI v .u64 fun x12_1 =>
          LdV m6 b_s_1 2 fun v =>
          UnI v .u64 fun x12_2 =>
          LdV m6 b_s_1 3 fun v =>
          UnI v .u64 fun x12_3 =>
          HC P class_Least.id #[.agg #[.int .u64 x12_0, .int .u64 x12_1, .int .u64 x12_2, .int .u64 x12_3]] m6 (Cont (fun v m7 =>
              UnTup v fun us0 =>
              UnCons us0 fun w us1 =>
              UnI w .u8 fun x13_0 =>
              UnCons us1 fun w us2 =>
              UnB w fun x13_1 =>
              UnNil us2 (
                Sub m7 fun r8 =>
                Br (x7_2 == 0) (
                  Br (x7_1 == 5) (
                    LdV m7 b_s_1 0 fun v =>
                    UnI v .u64 fun x23_0 =>
                    LdV m7 b_s_1 1 fun v =>
                    UnI v .u64 fun x23_1 =>
                    LdV m7 b_s_1 2 fun v =>
                    UnI v .u64 fun x23_2 =>
                    LdV m7 b_s_1 3 fun v =>
                    UnI v .u64 fun x23_3 =>
                    HC P class_Has.id #[.agg #[.int .u64 x23_0, .int .u64 x23_1, .int .u64 x23_2, .int .u64 x23_3], .int .u8 98] m7 (Cont (fun v m9 =>
                        UnB v fun x24 =>
                        Lk r8 m9 fun r10 =>
                        Br x24 (
                        LdV m9 b_s_1 0 fun v =>
                        UnI v .u64 fun x27_0 =>
                        LdV m9 b_s_1 1 fun v =>
                        UnI v .u64 fun x27_1 =>
                        LdV m9 b_s_1 2 fun v =>
                        UnI v .u64 fun x27_2 =>
                        LdV m9 b_s_1 3 fun v =>
                        UnI v .u64 fun x27_3 =>
                        HC P class_Has.id #[.agg #[.int .u64 x27_0, .int .u64 x27_1, .int .u64 x27_2, .int .u64 x27_3], .int .u8 100] m9 (Cont (fun v m11 =>
                        UnB v fun x28 =>
                        Lk r10 m11 fun r12 =>
                        Br (!x28) (
                        Br x13_1 (
                        Br (x13_0 == 97) (
                        LdV m11 b_s_1 0 fun v =>
                        UnI v .u64 fun x39_0 =>
                        LdV m11 b_s_1 1 fun v =>
                        UnI v .u64 fun x39_1 =>
                        LdV m11 b_s_1 2 fun v =>
                        UnI v .u64 fun x39_2 =>
                        LdV m11 b_s_1 3 fun v =>
                        UnI v .u64 fun x39_3 =>
                        HC P class_Show.id #[.agg #[.int .u64 x39_0, .int .u64 x39_1, .int .u64 x39_2, .int .u64 x39_3]] m11 (Cont (fun v m13 =>
                        UnStr v fun x40 =>
                        Lk r12 m13 fun r14 =>
                        Br (x40.toList == (ByteArray.mk #[91, 97, 45, 99, 93]).toList) (
                        LdV r14 b_s_1 0 fun v =>
                        UnI v .u64 fun x46_0 =>
                        LdV r14 b_s_1 1 fun v =>
                        UnI v .u64 fun x46_1 =>
                        LdV r14 b_s_1 2 fun v =>
                        UnI v .u64 fun x46_2 =>
                        LdV r14 b_s_1 3 fun v =>
                        UnI v .u64 fun x46_3 =>
                        NewC m13 #[.int .u8 97, .int .u8 98, .int .u8 99] T_uint8 fun b44 m15 =>
                        Lk r14 m15 fun r16 =>
                        HC P class_Of.id #[.slice (some ⟨b44, 0, none⟩) 3 3] m15 (Cont (fun v m17 =>
                        UnAgg v fun l =>
                        UnCons l fun v l =>
                        UnI v .u64 fun x45_0 =>
                        UnCons l fun v l =>
                        UnI v .u64 fun x45_1 =>
                        UnCons l fun v l =>
                        UnI v .u64 fun x45_2 =>
                        UnCons l fun v l =>
                        UnI v .u64 fun x45_3 =>
                        UnNil l (
                        Lk r16 m17 fun r18 =>
                        R (.returned (.bool (eqL [.int .u64 x45_0, .int .u64 x45_1, .int .u64 x45_2, .int .u64 x45_3] [.int .u64 x46_0, .int .u64 x46_1, .int .u64 x46_2, .int .u64 x46_3]))) m17)) (panicR R))) (
                        R (.returned (.bool false)) m13)) (panicR R))) (
                        R (.returned (.bool false)) m11)) (
                        R (.returned (.bool false)) m11)) (
                        R (.returned (.bool false)) m11)) (panicR R))) (
                        R (.returned (.bool false)) m9)) (panicR R))) (
                    R (.returned (.bool false)) m7)) (
                  R (.returned (.bool false)) m7))) (panicR R))))) (panicR R))
noncomputable def e0A (R : Ending → Mem → Prop) : ACode := (.code (body))
theorem e0_eq  (R : Ending → Mem → Prop) (m : Mem) : e0  R m = acpt P od (panicR R) (e0A R) (bodyQ P fn R) (argE (#[] : Array Value).toList) m := by kernel_rfl
theorem ok  (R : Ending → Mem → Prop) (m : Mem) (h : e0  R m) : HC P id #[] m R := by
  refine HC_of (fn := fn) (c := body) (od := od) (tb := tb) Go.Proofs.Tryd.func10 (by kernel_rfl) (by kernel_rfl) follows (by kernel_rfl) (of_decide_eq_true (by kernel_rfl)) ?_
  have he : (e0A R).erase = body := by kernel_rfl
  rw [← he]
  refine acpt_sound (P := P) (e0A R) _ _ _ True.intro ?_
  exact Eq.mp (e0_eq  R m) h
end eyotlaw8_begun

/-! ### eyot/class.Parse -/
namespace class_Parse
noncomputable def fn : Func := Go.Proofs.Tryd.f11
noncomputable def fnR : Func := { fn with results := #[] }
noncomputable def body : Code := sR (sR (fn.body.getD .skip))
def od : Nat → Ord := fun | 7 => ordL [(0, 1), (1, 3), (2, 3), (3, 3), (4, 1), (5, 0), (6, 2), (7, 2)] .done | _ => .done
def tb : Nat → Tab := fun | 7 => (192, [0, 0, 2, 6, 14, 1, 63, 127], [(0, 4, 24), (0, 32, 25), (2, 16777216, 26), (4, 33554432, 27), (8, 67108864, 28), (1, 8388612, 0), (63, 134217736, 0), (127, 16, 0)]) | _ => (0, [], [])
def e0 (s_0 : ByteArray) (d2b : Nat) (d3b : Nat) (d4b : Nat) (R : Ending → Mem → Prop) (m : Mem) : Prop :=
  NewC m #[.string s_0, .int .i64 0] T_class_reader fun b11 m1 =>
  HC P class_reader_class.id #[.pointer (some ⟨b11, 0, none⟩)] m1 (Cont (fun v m2 =>
      UnAgg v fun l =>
      UnCons l fun v l =>
      UnI v .u64 fun x13_0 =>
      UnCons l fun v l =>
      UnI v .u64 fun x13_1 =>
      UnCons l fun v l =>
      UnI v .u64 fun x13_2 =>
      UnCons l fun v l =>
      UnI v .u64 fun x13_3 =>
      UnNil l (
        St1 m2 d2b 0 (.int .u64 x13_0) fun m3 =>
        St1 m3 d2b 1 (.int .u64 x13_1) fun m4 =>
        St1 m4 d2b 2 (.int .u64 x13_2) fun m5 =>
        St1 m5 d2b 3 (.int .u64 x13_3) fun m6 =>
        LdV m6 d2b 0 fun v =>
        UnI v .u64 fun x15_0 =>
        LdV m6 d2b 1 fun v =>
        UnI v .u64 fun x15_1 =>
        LdV m6 d2b 2 fun v =>
        UnI v .u64 fun x15_2 =>
        LdV m6 d2b 3 fun v =>
        UnI v .u64 fun x15_3 =>
        HC P class_Least.id #[.agg #[.int .u64 x15_0, .int .u64 x15_1, .int .u64 x15_2, .int .u64 x15_3]] m6 (Cont (fun v m7 =>
            UnTup v fun us0 =>
            UnCons us0 fun w us1 =>
            UnI w .u8 fun x16_0 =>
            UnCons us1 fun w us2 =>
            UnB w fun x16_1 =>
            UnNil us2 (
              Br (!x16_1) (
                R (.panicked [{ v := .iface T_class_refusal (.agg #[]), recovered := false }]) m7) (
                Sub m7 fun r8 =>
                LdV r8 d2b 0 fun v =>
                UnI v .u64 fun x23_0 =>
                LdV r8 d2b 1 fun v =>
                UnI v .u64 fun x23_1 =>
                LdV r8 d2b 2 fun v =>
                UnI v .u64 fun x23_2 =>
                LdV r8 d2b 3 fun v =>
                UnI v .u64 fun x23_3 =>
                LdV r8 b11 1 fun v =>
                UnI v .i64 fun x27 =>
                St1 m7 d2b 0 (.int .u64 x23_0) fun m9 =>
                St1 m9 d2b 1 (.int .u64 x23_1) fun m10 =>
                St1 m10 d2b 2 (.int .u64 x23_2) fun m11 =>
                St1 m11 d2b 3 (.int .u64 x23_3) fun m12 =>
                Lk r8 m12 fun r13 =>
                St1 m12 d3b 0 (.int .i64 x27) fun m14 =>
                St1 m14 d4b 0 (.int .i64 0) fun m15 =>
                R (.returned (.tuple #[])) m15))) (panicR R)))) (panicR R))
noncomputable def e0A (R : Ending → Mem → Prop) : ACode := (.code (body))
def caps (d2b : Nat) (d3b : Nat) (d4b : Nat) : Array Value := #[.pointer (some ⟨d2b, 0, none⟩), .pointer (some ⟨d3b, 0, none⟩), .pointer (some ⟨d4b, 0, none⟩)]
theorem e0_eq (s_0 : ByteArray) (d2b : Nat) (d3b : Nat) (d4b : Nat) (R : Ending → Mem → Prop) (m : Mem) : e0 s_0 d2b d3b d4b R m = acpt P od (panicR R) (e0A R) (bodyQ P fnR R) (upd (upd (upd (upd (argE (#[.string s_0] : Array Value).toList) 2 (.pointer (some ⟨d2b, 0, none⟩))) 3 (.pointer (some ⟨d3b, 0, none⟩))) 4 (.pointer (some ⟨d4b, 0, none⟩))) 8 (.func (.func 28) #[] #[.pointer (some ⟨d2b, 0, none⟩), .pointer (some ⟨d3b, 0, none⟩), .pointer (some ⟨d4b, 0, none⟩)])) m := by kernel_rfl
theorem cok : codeOk P od tb 5 fn.ntmps body = true := by kernel_rfl
theorem ok (s_0 : ByteArray) (d2b : Nat) (d3b : Nat) (d4b : Nat) (R : Ending → Mem → Prop) (m : Mem) (h : e0 s_0 d2b d3b d4b R m) : cpt P od (panicR R) body (bodyQ P fnR R) (upd (upd (upd (upd (argE (#[.string s_0] : Array Value).toList) 2 (.pointer (some ⟨d2b, 0, none⟩))) 3 (.pointer (some ⟨d3b, 0, none⟩))) 4 (.pointer (some ⟨d4b, 0, none⟩))) 8 (.func (.func 28) #[] #[.pointer (some ⟨d2b, 0, none⟩), .pointer (some ⟨d3b, 0, none⟩), .pointer (some ⟨d4b, 0, none⟩)])) m := by
  have he : (e0A R).erase = body := by kernel_rfl
  rw [← he]
  refine acpt_sound (P := P) (e0A R) _ _ _ True.intro ?_
  exact Eq.mp (e0_eq s_0 d2b d3b d4b R m) h
end class_Parse

/-! ### eyot/eyotref8.Class -/
namespace eyotref8_Class
noncomputable def fn : Func := Go.Proofs.Tryd.f12
noncomputable def body : Code := fn.body.getD .skip
def od : Nat → Ord := fun _ => .done
def tb : Nat → Tab := fun _ => (0, [], [])
def l9E (K : ByteArray → Nat → Nat → Bool → Option Addr → Nat → Nat → Int → Int → Int → Mem → Prop) : Env → Mem → Prop := fun ρ m => UnStr (ρ 0) fun x0 => UnPA (ρ 2) fun x2b x2o => UnB (ρ 8) fun x8 => UnS (ρ 9) fun x9a x9l x9c => UnI (ρ 11) .i64 fun x11 => UnI (ρ 12) .u8 fun x12 => UnI (ρ 13) .i64 fun x13 => K x0 x2b x2o x8 x9a x9l x9c x11 x12 x13 m
def l9B (K5 : ByteArray → Nat → Nat → Int → Bool → Option Addr → Nat → Nat → Mem → Prop) (K9 : ByteArray → Nat → Nat → Bool → Option Addr → Nat → Nat → Int → Int → Int → Mem → Prop) (x0 : ByteArray) (x2b : Nat) (x2o : Nat) (x8 : Bool) (x9a : Option Addr) (x9l : Nat) (x9c : Nat) (x11 : Int) (x12 : Int) (x13 : Int) (R : Ending → Mem → Prop) (m : Mem) : Prop :=
  Br (decide (x13 ≤ (IntKind.i64.wrap x12))) (
    NewC m #[.int .u8 (IntKind.u8.wrap x13)] T_uint8 fun b109 m1 =>
    BiN P .append #[T_sl_uint8, T_sl_uint8] T_sl_uint8 #[false, false] #[.slice x9a x9l x9c, .slice (some ⟨b109, 0, none⟩) 1 1] m1 (fun w m2 =>
      UnS w fun x110a x110l x110c =>
      K9 x0 x2b x2o x8 x110a x110l x110c x11 x12 (IntKind.i64.wrap (x13 + 1)) m2) (panicR R)) (
    K5 x0 x2b x2o x11 x8 x9a x9l x9c m)
def l9 (K5 : ByteArray → Nat → Nat → Int → Bool → Option Addr → Nat → Nat → Mem → Prop) (x0 : ByteArray) (x2b : Nat) (x2o : Nat) (x8 : Bool) (x9a : Option Addr) (x9l : Nat) (x9c : Nat) (x11 : Int) (x12 : Int) (x13 : Int) (R : Ending → Mem → Prop) (m : Mem) : Prop :=
  ∃ (I : Nat → ByteArray → Nat → Nat → Bool → Option Addr → Nat → Nat → Int → Int → Int → Mem → Prop) (N : Nat), I N x0 x2b x2o x8 x9a x9l x9c x11 x12 x13 m ∧ ∀ N x0 x2b x2o x8 x9a x9l x9c x11 x12 x13 m, I N x0 x2b x2o x8 x9a x9l x9c x11 x12 x13 m → l9B K5 (fun x0 x2b x2o x8 x9a x9l x9c x11 x12 x13 m => ∃ N1, N1 < N ∧ I N1 x0 x2b x2o x8 x9a x9l x9c x11 x12 x13 m) x0 x2b x2o x8 x9a x9l x9c x11 x12 x13 R m
noncomputable def l9A (K5 : ByteArray → Nat → Nat → Int → Bool → Option Addr → Nat → Nat → Mem → Prop) (K9 : ByteArray → Nat → Nat → Bool → Option Addr → Nat → Nat → Int → Int → Int → Mem → Prop) (R : Ending → Mem → Prop) : ACode := (.code (lP (bB (sR (sL (sR (sR (sR (sR (bB (sR (lP (bB (sL (sR (sR (sR (sR (sR (sR (body)))))))))))))))))))))
def k8E (K : ByteArray → Nat → Nat → Bool → Option Addr → Nat → Nat → Int → Int → Int → Mem → Prop) : Env → Mem → Prop := fun ρ m => UnStr (ρ 0) fun x0 => UnPA (ρ 2) fun x2b x2o => UnB (ρ 8) fun x8 => UnS (ρ 9) fun x9a x9l x9c => UnI (ρ 10) .u8 fun x10 => UnI (ρ 11) .i64 fun x11 => UnI (ρ 12) .u8 fun x12 => K x0 x2b x2o x8 x9a x9l x9c x10 x11 x12 m
def k8 (K5 : ByteArray → Nat → Nat → Int → Bool → Option Addr → Nat → Nat → Mem → Prop) (x0 : ByteArray) (x2b : Nat) (x2o : Nat) (x8 : Bool) (x9a : Option Addr) (x9l : Nat) (x9c : Nat) (x10 : Int) (x11 : Int) (x12 : Int) (R : Ending → Mem → Prop) (m : Mem) : Prop :=
  l9 K5 x0 x2b x2o x8 x9a x9l x9c x11 x12 (IntKind.i64.wrap x10) R m
noncomputable def k8A (K5 : ByteArray → Nat → Nat → Int → Bool → Option Addr → Nat → Nat → Mem → Prop) (R : Ending → Mem → Prop) : ACode := (.seq (.seq (.code (sL (sL (sR (sR (sR (sR (bB (sR (lP (bB (sL (sR (sR (sR (sR (sR (sR (body))))))))))))))))))) (.block 2 (.cut (l9E fun x0 x2b x2o x8 x9a x9l x9c x11 x12 x13 m => l9 K5 x0 x2b x2o x8 x9a x9l x9c x11 x12 x13 R m) (.loop (lP (bB (sR (sL (sR (sR (sR (sR (bB (sR (lP (bB (sL (sR (sR (sR (sR (sR (sR (body)))))))))))))))))))))))) (.code (sR (sR (sR (sR (sR (bB (sR (lP (bB (sL (sR (sR (sR (sR (sR (sR (body)))))))))))))))))))
def k7E (K : ByteArray → Nat → Nat → Bool → Option Addr → Nat → Nat → Int → Int → Int → Bool → Mem → Prop) : Env → Mem → Prop := fun ρ m => UnStr (ρ 0) fun x0 => UnPA (ρ 2) fun x2b x2o => UnB (ρ 8) fun x8 => UnS (ρ 9) fun x9a x9l x9c => UnI (ρ 10) .u8 fun x10 => UnI (ρ 11) .i64 fun x11 => UnI (ρ 12) .u8 fun x12 => UnB (ρ 96) fun x96 => K x0 x2b x2o x8 x9a x9l x9c x10 x11 x12 x96 m
def k7 (K5 : ByteArray → Nat → Nat → Int → Bool → Option Addr → Nat → Nat → Mem → Prop) (x0 : ByteArray) (x2b : Nat) (x2o : Nat) (x8 : Bool) (x9a : Option Addr) (x9l : Nat) (x9c : Nat) (x10 : Int) (x11 : Int) (x12 : Int) (x96 : Bool) (R : Ending → Mem → Prop) (m : Mem) : Prop :=
  Br x96 (
    St1 m x2b x2o (.int .u64 0) fun m1 =>
    St1 m1 x2b (x2o + 1) (.int .u64 0) fun m2 =>
    St1 m2 x2b (x2o + 2) (.int .u64 0) fun m3 =>
    St1 m3 x2b (x2o + 3) (.int .u64 0) fun m4 =>
    LdV m4 x2b x2o fun v =>
    UnI v .u64 fun res0_0 =>
    LdV m4 x2b (x2o + 1) fun v =>
    UnI v .u64 fun res0_1 =>
    LdV m4 x2b (x2o + 2) fun v =>
    UnI v .u64 fun res0_2 =>
    LdV m4 x2b (x2o + 3) fun v =>
    UnI v .u64 fun res0_3 =>
    R (.returned (.tuple #[.agg #[.int .u64 res0_0, .int .u64 res0_1, .int .u64 res0_2, .int .u64 res0_3], .int .i64 0, .int .i64 2])) m4) (
    k8 K5 x0 x2b x2o x8 x9a x9l x9c x10 x11 x12 R m)
noncomputable def k7A (K5 : ByteArray → Nat → Nat → Int → Bool → Option Addr → Nat → Nat → Mem → Prop) (R : Ending → Mem → Prop) : ACode := (.code (sR (sR (cT (sR (sL (sR (sR (sR (bB (sR (lP (bB (sL (sR (sR (sR (sR (sR (sR (body)))))))))))))))))))))
def k6E (K : ByteArray → Nat → Nat → Bool → Option Addr → Nat → Nat → Int → Int → Int → Bool → Mem → Prop) : Env → Mem → Prop := fun ρ m => UnStr (ρ 0) fun x0 => UnPA (ρ 2) fun x2b x2o => UnB (ρ 8) fun x8 => UnS (ρ 9) fun x9a x9l x9c => UnI (ρ 10) .u8 fun x10 => UnI (ρ 11) .i64 fun x11 => UnI (ρ 12) .u8 fun x12 => UnB (ρ 82) fun x82 => K x0 x2b x2o x8 x9a x9l x9c x10 x11 x12 x82 m
def k6 (K5 : ByteArray → Nat → Nat → Int → Bool → Option Addr → Nat → Nat → Mem → Prop) (x0 : ByteArray) (x2b : Nat) (x2o : Nat) (x8 : Bool) (x9a : Option Addr) (x9l : Nat) (x9c : Nat) (x10 : Int) (x11 : Int) (x12 : Int) (x82 : Bool) (R : Ending → Mem → Prop) (m : Mem) : Prop :=
  Br x82 (
    HC P eyotref8_sign.id #[.string x0, .int .i64 (IntKind.i64.wrap (x11 + 1))] m (Cont (fun v m1 =>
        UnTup v fun us0 =>
        UnCons us0 fun w us1 =>
        UnI w .u8 fun x87_0 =>
        UnCons us1 fun w us2 =>
        UnI w .i64 fun x87_1 =>
        UnNil us2 (
          Br (decide (x87_1 < 0)) (
            k7 K5 x0 x2b x2o x8 x9a x9l x9c x10 x87_1 x87_0 true R m1) (
            k7 K5 x0 x2b x2o x8 x9a x9l x9c x10 x87_1 x87_0 (decide (x87_0 < x10)) R m1))) (panicR R))) (
    k8 K5 x0 x2b x2o x8 x9a x9l x9c x10 x11 x12 R m)
noncomputable def k6A (K5 : ByteArray → Nat → Nat → Int → Bool → Option Addr → Nat → Nat → Mem → Prop) (R : Ending → Mem → Prop) : ACode := (.cond (.tmp 82) (.seq (.code (sL (cT (sR (sL (sR (sR (sR (bB (sR (lP (bB (sL (sR (sR (sR (sR (sR (sR (body)))))))))))))))))))) (.seq (.code (sL (sR (cT (sR (sL (sR (sR (sR (bB (sR (lP (bB (sL (sR (sR (sR (sR (sR (sR (body))))))))))))))))))))) (.cut (k7E fun x0 x2b x2o x8 x9a x9l x9c x10 x11 x12 x96 m => k7 K5 x0 x2b x2o x8 x9a x9l x9c x10 x11 x12 x96 R m) (sR (sR (cT (sR (sL (sR (sR (sR (bB (sR (lP (bB (sL (sR (sR (sR (sR (sR (sR (body))))))))))))))))))))))) (.code (cE (sR (sL (sR (sR (sR (bB (sR (lP (bB (sL (sR (sR (sR (sR (sR (sR (body))))))))))))))))))))
def k12E (K : Nat → Nat → Int → Nat → Nat → Mem → Prop) : Env → Mem → Prop := fun ρ m => UnPA (ρ 2) fun x2b x2o => UnI (ρ 7) .i64 fun x7 => UnPA (ρ 14) fun x14b x14o => K x2b x2o x7 x14b x14o m
def k12  (x2b : Nat) (x2o : Nat) (x7 : Int) (x14b : Nat) (x14o : Nat) (R : Ending → Mem → Prop) (m : Mem) : Prop :=
  LdV m x14b x14o fun v =>
  UnI v .u64 fun x127_0 =>
  LdV m x14b (x14o + 1) fun v =>
  UnI v .u64 fun x127_1 =>
  LdV m x14b (x14o + 2) fun v =>
  UnI v .u64 fun x127_2 =>
  LdV m x14b (x14o + 3) fun v =>
  UnI v .u64 fun x127_3 =>
  HC P eyotref8_Empty.id #[.agg #[.int .u64 x127_0, .int .u64 x127_1, .int .u64 x127_2, .int .u64 x127_3]] m (Cont (fun v m1 =>
      UnB v fun x128 =>
      Br x128 (
        St1 m1 x2b x2o (.int .u64 0) fun m2 =>
        St1 m2 x2b (x2o + 1) (.int .u64 0) fun m3 =>
        St1 m3 x2b (x2o + 2) (.int .u64 0) fun m4 =>
        St1 m4 x2b (x2o + 3) (.int .u64 0) fun m5 =>
        LdV m5 x2b x2o fun v =>
        UnI v .u64 fun res0_0 =>
        LdV m5 x2b (x2o + 1) fun v =>
        UnI v .u64 fun res0_1 =>
        LdV m5 x2b (x2o + 2) fun v =>
        UnI v .u64 fun res0_2 =>
        LdV m5 x2b (x2o + 3) fun v =>
        UnI v .u64 fun res0_3 =>
        R (.returned (.tuple #[.agg #[.int .u64 res0_0, .int .u64 res0_1, .int .u64 res0_2, .int .u64 res0_3], .int .i64 0, .int .i64 2])) m5) (
        LdV m1 x14b x14o fun v =>
        UnI v .u64 fun x130_0 =>
        LdV m1 x14b (x14o + 1) fun v =>
        UnI v .u64 fun x130_1 =>
        LdV m1 x14b (x14o + 2) fun v =>
        UnI v .u64 fun x130_2 =>
        LdV m1 x14b (x14o + 3) fun v =>
        UnI v .u64 fun x130_3 =>
        St1 m1 x2b x2o (.int .u64 x130_0) fun m2 =>
        St1 m2 x2b (x2o + 1) (.int .u64 x130_1) fun m3 =>
        St1 m3 x2b (x2o + 2) (.int .u64 x130_2) fun m4 =>
        St1 m4 x2b (x2o + 3) (.int .u64 x130_3) fun m5 =>
        LdV m5 x2b x2o fun v =>
        UnI v .u64 fun res0_0 =>
        LdV m5 x2b (x2o + 1) fun v =>
        UnI v .u64 fun res0_1 =>
        LdV m5 x2b (x2o + 2) fun v =>
        UnI v .u64 fun res0_2 =>
        LdV m5 x2b (x2o + 3) fun v =>
        UnI v .u64 fun res0_3 =>
        R (.returned (.tuple #[.agg #[.int .u64 res0_0, .int .u64 res0_1, .int .u64 res0_2, .int .u64 res0_3], .int .i64 (IntKind.i64.wrap (x7 + 1)), .int .i64 0])) m5)) (panicR R))
noncomputable def k12A  (R : Ending → Mem → Prop) : ACode := (.code (sR (sR (sR (sR (sR (sR (sR (sR (sR (sR (body))))))))))))
def k11E (K : Nat → Nat → Int → Bool → Option Addr → Nat → Nat → Bool → Mem → Prop) : Env → Mem → Prop := fun ρ m => UnPA (ρ 2) fun x2b x2o => UnI (ρ 7) .i64 fun x7 => UnB (ρ 8) fun x8 => UnS (ρ 9) fun x9a x9l x9c => UnB (ρ 120) fun x120 => K x2b x2o x7 x8 x9a x9l x9c x120 m
def k11  (x2b : Nat) (x2o : Nat) (x7 : Int) (x8 : Bool) (x9a : Option Addr) (x9l : Nat) (x9c : Nat) (x120 : Bool) (R : Ending → Mem → Prop) (m : Mem) : Prop :=
  Br x120 (
    St1 m x2b x2o (.int .u64 0) fun m1 =>
    St1 m1 x2b (x2o + 1) (.int .u64 0) fun m2 =>
    St1 m2 x2b (x2o + 2) (.int .u64 0) fun m3 =>
    St1 m3 x2b (x2o + 3) (.int .u64 0) fun m4 =>
    LdV m4 x2b x2o fun v =>
    UnI v .u64 fun res0_0 =>
    LdV m4 x2b (x2o + 1) fun v =>
    UnI v .u64 fun res0_1 =>
    LdV m4 x2b (x2o + 2) fun v =>
    UnI v .u64 fun res0_2 =>
    LdV m4 x2b (x2o + 3) fun v =>
    UnI v .u64 fun res0_3 =>
    R (.returned (.tuple #[.agg #[.int .u64 res0_0, .int .u64 res0_1, .int .u64 res0_2, .int .u64 res0_3], .int .i64 0, .int .i64 2])) m4) (
    HC P eyotref8_Of.id #[.slice x9a x9l x9c] m (Cont (fun v m1 =>
        UnAgg v fun l =>
        UnCons l fun v l =>
        UnI v .u64 fun x123_0 =>
        UnCons l fun v l =>
        UnI v .u64 fun x123_1 =>
        UnCons l fun v l =>
        UnI v .u64 fun x123_2 =>
        UnCons l fun v l =>
        UnI v .u64 fun x123_3 =>
        UnNil l (
          NewC m1 #[.int .u64 0, .int .u64 0, .int .u64 0, .int .u64 0] T_api_Set fun b14 m2 =>
          St1 m2 b14 0 (.int .u64 x123_0) fun m3 =>
          St1 m3 b14 1 (.int .u64 x123_1) fun m4 =>
          St1 m4 b14 2 (.int .u64 x123_2) fun m5 =>
          St1 m5 b14 3 (.int .u64 x123_3) fun m6 =>
          Br x8 (
            LdV m6 b14 0 fun v =>
            UnI v .u64 fun x125_0 =>
            LdV m6 b14 1 fun v =>
            UnI v .u64 fun x125_1 =>
            LdV m6 b14 2 fun v =>
            UnI v .u64 fun x125_2 =>
            LdV m6 b14 3 fun v =>
            UnI v .u64 fun x125_3 =>
            HC P eyotref8_Not.id #[.agg #[.int .u64 x125_0, .int .u64 x125_1, .int .u64 x125_2, .int .u64 x125_3]] m6 (Cont (fun v m7 =>
                UnAgg v fun l =>
                UnCons l fun v l =>
                UnI v .u64 fun x126_0 =>
                UnCons l fun v l =>
                UnI v .u64 fun x126_1 =>
                UnCons l fun v l =>
                UnI v .u64 fun x126_2 =>
                UnCons l fun v l =>
                UnI v .u64 fun x126_3 =>
                UnNil l (
                  St1 m7 b14 0 (.int .u64 x126_0) fun m8 =>
                  St1 m8 b14 1 (.int .u64 x126_1) fun m9 =>
                  St1 m9 b14 2 (.int .u64 x126_2) fun m10 =>
                  St1 m10 b14 3 (.int .u64 x126_3) fun m11 =>
                  k12  x2b x2o x7 b14 0 R m11)) (panicR R))) (
            k12  x2b x2o x7 b14 0 R m6))) (panicR R)))
noncomputable def k11A  (R : Ending → Mem → Prop) : ACode := (.code (sR (sL (sR (sR (sR (sR (sR (sR (sR (body)))))))))))
def k10E (K : ByteArray → Nat → Nat → Int → Bool → Option Addr → Nat → Nat → Mem → Prop) : Env → Mem → Prop := fun ρ m => UnStr (ρ 0) fun x0 => UnPA (ρ 2) fun x2b x2o => UnI (ρ 7) .i64 fun x7 => UnB (ρ 8) fun x8 => UnS (ρ 9) fun x9a x9l x9c => K x0 x2b x2o x7 x8 x9a x9l x9c m
def k10  (x0 : ByteArray) (x2b : Nat) (x2o : Nat) (x7 : Int) (x8 : Bool) (x9a : Option Addr) (x9l : Nat) (x9c : Nat) (R : Ending → Mem → Prop) (m : Mem) : Prop :=
  Br (decide (x7 ≥ (x0.size : Int))) (
    k11  x2b x2o x7 x8 x9a x9l x9c true R m) (
    k11  x2b x2o x7 x8 x9a x9l x9c (((x9l : Nat) : Int) == 0) R m)
noncomputable def k10A  (R : Ending → Mem → Prop) : ACode := (.seq (.seq (.code (sL (sL (sR (sR (sR (sR (sR (sR (sR (body))))))))))) (.cut (k11E fun x2b x2o x7 x8 x9a x9l x9c x120 m => k11  x2b x2o x7 x8 x9a x9l x9c x120 R m) (sR (sL (sR (sR (sR (sR (sR (sR (sR (body)))))))))))) (.seq (.code (sL (sR (sR (sR (sR (sR (sR (sR (sR (body))))))))))) (.seq (.code (sL (sR (sR (sR (sR (sR (sR (sR (sR (sR (body)))))))))))) (.cut (k12E fun x2b x2o x7 x14b x14o m => k12  x2b x2o x7 x14b x14o R m) (sR (sR (sR (sR (sR (sR (sR (sR (sR (sR (body)))))))))))))))
def l5E (K : ByteArray → Nat → Nat → Int → Bool → Option Addr → Nat → Nat → Mem → Prop) : Env → Mem → Prop := fun ρ m => UnStr (ρ 0) fun x0 => UnPA (ρ 2) fun x2b x2o => UnI (ρ 7) .i64 fun x7 => UnB (ρ 8) fun x8 => UnS (ρ 9) fun x9a x9l x9c => K x0 x2b x2o x7 x8 x9a x9l x9c m
def l5B  (K5 : ByteArray → Nat → Nat → Int → Bool → Option Addr → Nat → Nat → Mem → Prop) (x0 : ByteArray) (x2b : Nat) (x2o : Nat) (x7 : Int) (x8 : Bool) (x9a : Option Addr) (x9l : Nat) (x9c : Nat) (R : Ending → Mem → Prop) (m : Mem) : Prop :=
  Br (decide (x7 < (x0.size : Int))) (
    IxB x0 x7 fun x60 =>
    Br (x60 != 93) (
      HC P eyotref8_sign.id #[.string x0, .int .i64 x7] m (Cont (fun v m1 =>
          UnTup v fun us0 =>
          UnCons us0 fun w us1 =>
          UnI w .u8 fun x66_0 =>
          UnCons us1 fun w us2 =>
          UnI w .i64 fun x66_1 =>
          UnNil us2 (
            Br (decide (x66_1 < 0)) (
              St1 m1 x2b x2o (.int .u64 0) fun m2 =>
              St1 m2 x2b (x2o + 1) (.int .u64 0) fun m3 =>
              St1 m3 x2b (x2o + 2) (.int .u64 0) fun m4 =>
              St1 m4 x2b (x2o + 3) (.int .u64 0) fun m5 =>
              LdV m5 x2b x2o fun v =>
              UnI v .u64 fun res0_0 =>
              LdV m5 x2b (x2o + 1) fun v =>
              UnI v .u64 fun res0_1 =>
              LdV m5 x2b (x2o + 2) fun v =>
              UnI v .u64 fun res0_2 =>
              LdV m5 x2b (x2o + 3) fun v =>
              UnI v .u64 fun res0_3 =>
              R (.returned (.tuple #[.agg #[.int .u64 res0_0, .int .u64 res0_1, .int .u64 res0_2, .int .u64 res0_3], .int .i64 0, .int .i64 2])) m5) (
              Br (decide (x66_1 < (x0.size : Int))) (
                IxB x0 x66_1 fun x80 =>
                k6 K5 x0 x2b x2o x8 x9a x9l x9c x66_0 x66_1 x66_0 (x80 == 45) R m1) (
                k6 K5 x0 x2b x2o x8 x9a x9l x9c x66_0 x66_1 x66_0 false R m1)))) (panicR R))) (
      k10  x0 x2b x2o x7 x8 x9a x9l x9c R m)) (
    k10  x0 x2b x2o x7 x8 x9a x9l x9c R m)
def l5  (x0 : ByteArray) (x2b : Nat) (x2o : Nat) (x7 : Int) (x8 : Bool) (x9a : Option Addr) (x9l : Nat) (x9c : Nat) (R : Ending → Mem → Prop) (m : Mem) : Prop :=
  ∃ (I : Nat → ByteArray → Nat → Nat → Int → Bool → Option Addr → Nat → Nat → Mem → Prop) (N : Nat), I N x0 x2b x2o x7 x8 x9a x9l x9c m ∧ ∀ N x0 x2b x2o x7 x8 x9a x9l x9c m, I N x0 x2b x2o x7 x8 x9a x9l x9c m → l5B  (fun x0 x2b x2o x7 x8 x9a x9l x9c m => ∃ N1, N1 < N ∧ I N1 x0 x2b x2o x7 x8 x9a x9l x9c m) x0 x2b x2o x7 x8 x9a x9l x9c R m
noncomputable def l5A  (K5 : ByteArray → Nat → Nat → Int → Bool → Option Addr → Nat → Nat → Mem → Prop) (R : Ending → Mem → Prop) : ACode := (.seq (.code (sL (lP (bB (sL (sR (sR (sR (sR (sR (sR (body)))))))))))) (.block 1 (.seq (.code (sL (bB (sR (lP (bB (sL (sR (sR (sR (sR (sR (sR (body)))))))))))))) (.seq (.code (sL (sR (bB (sR (lP (bB (sL (sR (sR (sR (sR (sR (sR (body))))))))))))))) (.seq (.code (sL (sR (sR (bB (sR (lP (bB (sL (sR (sR (sR (sR (sR (sR (body)))))))))))))))) (.seq (.seq (.code (sL (sL (sR (sR (sR (bB (sR (lP (bB (sL (sR (sR (sR (sR (sR (sR (body)))))))))))))))))) (.cut (k6E fun x0 x2b x2o x8 x9a x9l x9c x10 x11 x12 x82 m => k6 K5 x0 x2b x2o x8 x9a x9l x9c x10 x11 x12 x82 R m) (sR (sL (sR (sR (sR (bB (sR (lP (bB (sL (sR (sR (sR (sR (sR (sR (body))))))))))))))))))) (.cut (k8E fun x0 x2b x2o x8 x9a x9l x9c x10 x11 x12 m => k8 K5 x0 x2b x2o x8 x9a x9l x9c x10 x11 x12 R m) (sR (sR (sR (sR (bB (sR (lP (bB (sL (sR (sR (sR (sR (sR (sR (body)))))))))))))))))))))))
def k4E (K : ByteArray → Nat → Nat → Int → Bool → Mem → Prop) : Env → Mem → Prop := fun ρ m => UnStr (ρ 0) fun x0 => UnPA (ρ 2) fun x2b x2o => UnI (ρ 7) .i64 fun x7 => UnB (ρ 8) fun x8 => K x0 x2b x2o x7 x8 m
def k4  (x0 : ByteArray) (x2b : Nat) (x2o : Nat) (x7 : Int) (x8 : Bool) (R : Ending → Mem → Prop) (m : Mem) : Prop :=
  l5  x0 x2b x2o x7 x8 none 0 0 R m
noncomputable def k4A  (R : Ending → Mem → Prop) : ACode := (.seq (.code (sL (sR (sR (sR (sR (sR (body)))))))) (.seq (.block 0 (.cut (l5E fun x0 x2b x2o x7 x8 x9a x9l x9c m => l5  x0 x2b x2o x7 x8 x9a x9l x9c R m) (.loop (lP (bB (sL (sR (sR (sR (sR (sR (sR (body))))))))))))) (.cut (k10E fun x0 x2b x2o x7 x8 x9a x9l x9c m => k10  x0 x2b x2o x7 x8 x9a x9l x9c R m) (sR (sR (sR (sR (sR (sR (sR (body)))))))))))
def k3E (K : ByteArray → Nat → Nat → Bool → Mem → Prop) : Env → Mem → Prop := fun ρ m => UnStr (ρ 0) fun x0 => UnPA (ρ 2) fun x2b x2o => UnB (ρ 32) fun x32 => K x0 x2b x2o x32 m
def k3  (x0 : ByteArray) (x2b : Nat) (x2o : Nat) (x32 : Bool) (R : Ending → Mem → Prop) (m : Mem) : Prop :=
  Br x32 (
    HC P eyotref8_sign.id #[.string x0, .int .i64 0] m (Cont (fun v m1 =>
        UnTup v fun us0 =>
        UnCons us0 fun w us1 =>
        UnI w .u8 fun x35_0 =>
        UnCons us1 fun w us2 =>
        UnI w .i64 fun x35_1 =>
        UnNil us2 (
          Br (decide (x35_1 < 0)) (
            St1 m1 x2b x2o (.int .u64 0) fun m2 =>
            St1 m2 x2b (x2o + 1) (.int .u64 0) fun m3 =>
            St1 m3 x2b (x2o + 2) (.int .u64 0) fun m4 =>
            St1 m4 x2b (x2o + 3) (.int .u64 0) fun m5 =>
            LdV m5 x2b x2o fun v =>
            UnI v .u64 fun res0_0 =>
            LdV m5 x2b (x2o + 1) fun v =>
            UnI v .u64 fun res0_1 =>
            LdV m5 x2b (x2o + 2) fun v =>
            UnI v .u64 fun res0_2 =>
            LdV m5 x2b (x2o + 3) fun v =>
            UnI v .u64 fun res0_3 =>
            R (.returned (.tuple #[.agg #[.int .u64 res0_0, .int .u64 res0_1, .int .u64 res0_2, .int .u64 res0_3], .int .i64 0, .int .i64 2])) m5) (
            NewC m1 #[.int .u8 x35_0] T_uint8 fun b42 m2 =>
            HC P eyotref8_Of.id #[.slice (some ⟨b42, 0, none⟩) 1 1] m2 (Cont (fun v m3 =>
                UnAgg v fun l =>
                UnCons l fun v l =>
                UnI v .u64 fun x43_0 =>
                UnCons l fun v l =>
                UnI v .u64 fun x43_1 =>
                UnCons l fun v l =>
                UnI v .u64 fun x43_2 =>
                UnCons l fun v l =>
                UnI v .u64 fun x43_3 =>
                UnNil l (
                  St1 m3 x2b x2o (.int .u64 x43_0) fun m4 =>
                  St1 m4 x2b (x2o + 1) (.int .u64 x43_1) fun m5 =>
                  St1 m5 x2b (x2o + 2) (.int .u64 x43_2) fun m6 =>
                  St1 m6 x2b (x2o + 3) (.int .u64 x43_3) fun m7 =>
                  LdV m7 x2b x2o fun v =>
                  UnI v .u64 fun res0_0 =>
                  LdV m7 x2b (x2o + 1) fun v =>
                  UnI v .u64 fun res0_1 =>
                  LdV m7 x2b (x2o + 2) fun v =>
                  UnI v .u64 fun res0_2 =>
                  LdV m7 x2b (x2o + 3) fun v =>
                  UnI v .u64 fun res0_3 =>
                  R (.returned (.tuple #[.agg #[.int .u64 res0_0, .int .u64 res0_1, .int .u64 res0_2, .int .u64 res0_3], .int .i64 x35_1, .int .i64 0])) m7)) (panicR R))))) (panicR R))) (
    Br (decide ((x0.size : Int) > 1)) (
      IxB x0 1 fun x50 =>
      Br (x50 == 94) (
        k4  x0 x2b x2o 2 true R m) (
        k4  x0 x2b x2o 1 false R m)) (
      k4  x0 x2b x2o 1 false R m))
noncomputable def k3A  (R : Ending → Mem → Prop) : ACode := (.code (sR (sL (sR (sR (body))))))
def k2E (K : ByteArray → Nat → Nat → Mem → Prop) : Env → Mem → Prop := fun ρ m => UnStr (ρ 0) fun x0 => UnPA (ρ 2) fun x2b x2o => K x0 x2b x2o m
def k2  (x0 : ByteArray) (x2b : Nat) (x2o : Nat) (R : Ending → Mem → Prop) (m : Mem) : Prop :=
  Br ((x0.size : Int) == 0) (
    k3  x0 x2b x2o true R m) (
    IxB x0 0 fun x30 =>
    k3  x0 x2b x2o (x30 != 91) R m)
noncomputable def k2A  (R : Ending → Mem → Prop) : ACode := (.seq (.seq (.code (sL (sL (sR (sR (body)))))) (.cut (k3E fun x0 x2b x2o x32 m => k3  x0 x2b x2o x32 R m) (sR (sL (sR (sR (body))))))) (.seq (.code (sL (sR (sR (sR (body)))))) (.seq (.code (sL (sR (sR (sR (sR (body))))))) (.cut (k4E fun x0 x2b x2o x7 x8 m => k4  x0 x2b x2o x7 x8 R m) (sR (sR (sR (sR (sR (body))))))))))
def k1E (K : ByteArray → Nat → Nat → Bool → Mem → Prop) : Env → Mem → Prop := fun ρ m => UnStr (ρ 0) fun x0 => UnPA (ρ 2) fun x2b x2o => UnB (ρ 22) fun x22 => K x0 x2b x2o x22 m
def k1  (x0 : ByteArray) (x2b : Nat) (x2o : Nat) (x22 : Bool) (R : Ending → Mem → Prop) (m : Mem) : Prop :=
  Br x22 (
    HC P eyotref8_Not.id #[.agg #[.int .u64 0, .int .u64 0, .int .u64 0, .int .u64 0]] m (Cont (fun v m1 =>
        UnAgg v fun l =>
        UnCons l fun v l =>
        UnI v .u64 fun x24_0 =>
        UnCons l fun v l =>
        UnI v .u64 fun x24_1 =>
        UnCons l fun v l =>
        UnI v .u64 fun x24_2 =>
        UnCons l fun v l =>
        UnI v .u64 fun x24_3 =>
        UnNil l (
          St1 m1 x2b x2o (.int .u64 x24_0) fun m2 =>
          St1 m2 x2b (x2o + 1) (.int .u64 x24_1) fun m3 =>
          St1 m3 x2b (x2o + 2) (.int .u64 x24_2) fun m4 =>
          St1 m4 x2b (x2o + 3) (.int .u64 x24_3) fun m5 =>
          LdV m5 x2b x2o fun v =>
          UnI v .u64 fun res0_0 =>
          LdV m5 x2b (x2o + 1) fun v =>
          UnI v .u64 fun res0_1 =>
          LdV m5 x2b (x2o + 2) fun v =>
          UnI v .u64 fun res0_2 =>
          LdV m5 x2b (x2o + 3) fun v =>
          UnI v .u64 fun res0_3 =>
          R (.returned (.tuple #[.agg #[.int .u64 res0_0, .int .u64 res0_1, .int .u64 res0_2, .int .u64 res0_3], .int .i64 1, .int .i64 0])) m5)) (panicR R))) (
    k2  x0 x2b x2o R m)
noncomputable def k1A  (R : Ending → Mem → Prop) : ACode := (.code (sR (sL (sR (body)))))
def e0 (a0 : ByteArray) (R : Ending → Mem → Prop) (m : Mem) : Prop :=
  NewC m #[.int .u64 0, .int .u64 0, .int .u64 0, .int .u64 0] T_api_Set fun b2 m1 =>
  Br (decide ((a0.size : Int) > 0)) (
    IxB a0 0 fun x20 =>
    k1  a0 b2 0 (x20 == 46) R m1) (
    k1  a0 b2 0 false R m1)
noncomputable def e0A (R : Ending → Mem → Prop) : ACode := (.seq (.code (sL (body))) (.seq (.seq (.code (sL (sL (sR (body))))) (.cut (k1E fun x0 x2b x2o x22 m => k1  x0 x2b x2o x22 R m) (sR (sL (sR (body)))))) (.cut (k2E fun x0 x2b x2o m => k2  x0 x2b x2o R m) (sR (sR (body))))))
theorem l9_eq (K5 : ByteArray → Nat → Nat → Int → Bool → Option Addr → Nat → Nat → Mem → Prop) (K9 : ByteArray → Nat → Nat → Bool → Option Addr → Nat → Nat → Int → Int → Int → Mem → Prop) (R : Ending → Mem → Prop) (x0 : ByteArray) (x2b : Nat) (x2o : Nat) (x8 : Bool) (x9a : Option Addr) (x9l : Nat) (x9c : Nat) (x11 : Int) (x12 : Int) (x13 : Int) (ρ : Env) (m : Mem) : l9B K5 K9 x0 x2b x2o x8 x9a x9l x9c x11 x12 x13 R m = acpt P od (panicR R) (l9A K5 K9 R) (thenQ (l9E K9) (blockQ 2 (thenQ (acpt P od (panicR R) (.code (sR (sR (sR (sR (sR (bB (sR (lP (bB (sL (sR (sR (sR (sR (sR (sR (body)))))))))))))))))) (blockQ 1 (thenQ (l5E K5) (blockQ 0 (thenQ (acpt P od (panicR R) (.cut (k10E fun x0 x2b x2o x7 x8 x9a x9l x9c m => k10  x0 x2b x2o x7 x8 x9a x9l x9c R m) (sR (sR (sR (sR (sR (sR (sR (body))))))))) (bodyQ P fn R)) (bodyQ P fn R)))))) (blockQ 1 (thenQ (l5E K5) (blockQ 0 (thenQ (acpt P od (panicR R) (.cut (k10E fun x0 x2b x2o x7 x8 x9a x9l x9c m => k10  x0 x2b x2o x7 x8 x9a x9l x9c R m) (sR (sR (sR (sR (sR (sR (sR (body))))))))) (bodyQ P fn R)) (bodyQ P fn R)))))))) (upd (upd (upd (upd (upd (upd (upd ρ 13 (.int .i64 x13)) 12 (.int .u8 x12)) 11 (.int .i64 x11)) 9 (.slice x9a x9l x9c)) 8 (.bool x8)) 2 (.pointer (some ⟨x2b, x2o, none⟩))) 0 (.string x0)) m := by kernel_rfl
theorem l9_er (K5 : ByteArray → Nat → Nat → Int → Bool → Option Addr → Nat → Nat → Mem → Prop) (K9 : ByteArray → Nat → Nat → Bool → Option Addr → Nat → Nat → Int → Int → Int → Mem → Prop) (R : Ending → Mem → Prop) : (l9A K5 K9 R).erase = lP (bB (sR (sL (sR (sR (sR (sR (bB (sR (lP (bB (sL (sR (sR (sR (sR (sR (sR (body))))))))))))))))))) := by kernel_rfl
theorem l9_ok (K5 : ByteArray → Nat → Nat → Int → Bool → Option Addr → Nat → Nat → Mem → Prop) (R : Ending → Mem → Prop) (ρ : Env) (m : Mem) (h : (l9E fun x0 x2b x2o x8 x9a x9l x9c x11 x12 x13 m => l9 K5 x0 x2b x2o x8 x9a x9l x9c x11 x12 x13 R m) ρ m) : cpt P od (panicR R) (.loop (lP (bB (sR (sL (sR (sR (sR (sR (bB (sR (lP (bB (sL (sR (sR (sR (sR (sR (sR (body))))))))))))))))))))) (blockQ 2 (thenQ (acpt P od (panicR R) (.code (sR (sR (sR (sR (sR (bB (sR (lP (bB (sL (sR (sR (sR (sR (sR (sR (body)))))))))))))))))) (blockQ 1 (thenQ (l5E K5) (blockQ 0 (thenQ (acpt P od (panicR R) (.cut (k10E fun x0 x2b x2o x7 x8 x9a x9l x9c m => k10  x0 x2b x2o x7 x8 x9a x9l x9c R m) (sR (sR (sR (sR (sR (sR (sR (body))))))))) (bodyQ P fn R)) (bodyQ P fn R)))))) (blockQ 1 (thenQ (l5E K5) (blockQ 0 (thenQ (acpt P od (panicR R) (.cut (k10E fun x0 x2b x2o x7 x8 x9a x9l x9c m => k10  x0 x2b x2o x7 x8 x9a x9l x9c R m) (sR (sR (sR (sR (sR (sR (sR (body))))))))) (bodyQ P fn R)) (bodyQ P fn R))))))) ρ m := by
  unfold l9E at h
  obtain ⟨x0, e0, h⟩ := h.ex
  obtain ⟨x2b, x2o, e2, h⟩ := h.ex
  obtain ⟨x8, e8, h⟩ := h.ex
  obtain ⟨x9a, x9l, x9c, e9, h⟩ := h.ex
  obtain ⟨x11, e11, h⟩ := h.ex
  obtain ⟨x12, e12, h⟩ := h.ex
  obtain ⟨x13, e13, h⟩ := h.ex
  obtain ⟨I, N, h0, hs⟩ := h
  refine ⟨fun N => l9E (I N), N, (by show l9E (I N) ρ m; unfold l9E; rw [e0, e2, e8, e9, e11, e12, e13]; exact h0), ?_⟩
  clear h0 e0 e2 e8 e9 e11 e12 e13
  intro N ρ m h
  unfold l9E at h
  obtain ⟨x0, e0, h⟩ := h.ex
  obtain ⟨x2b, x2o, e2, h⟩ := h.ex
  obtain ⟨x8, e8, h⟩ := h.ex
  obtain ⟨x9a, x9l, x9c, e9, h⟩ := h.ex
  obtain ⟨x11, e11, h⟩ := h.ex
  obtain ⟨x12, e12, h⟩ := h.ex
  obtain ⟨x13, e13, h⟩ := h.ex
  refine cpt_mono (P := P) (lP (bB (sR (sL (sR (sR (sR (sR (bB (sR (lP (bB (sL (sR (sR (sR (sR (sR (sR (body)))))))))))))))))))) (Q := thenQ (l9E fun x0 x2b x2o x8 x9a x9l x9c x11 x12 x13 m => ∃ N1, N1 < N ∧ I N1 x0 x2b x2o x8 x9a x9l x9c x11 x12 x13 m) (blockQ 2 (thenQ (acpt P od (panicR R) (.code (sR (sR (sR (sR (sR (bB (sR (lP (bB (sL (sR (sR (sR (sR (sR (sR (body)))))))))))))))))) (blockQ 1 (thenQ (l5E K5) (blockQ 0 (thenQ (acpt P od (panicR R) (.cut (k10E fun x0 x2b x2o x7 x8 x9a x9l x9c m => k10  x0 x2b x2o x7 x8 x9a x9l x9c R m) (sR (sR (sR (sR (sR (sR (sR (body))))))))) (bodyQ P fn R)) (bodyQ P fn R)))))) (blockQ 1 (thenQ (l5E K5) (blockQ 0 (thenQ (acpt P od (panicR R) (.cut (k10E fun x0 x2b x2o x7 x8 x9a x9l x9c m => k10  x0 x2b x2o x7 x8 x9a x9l x9c R m) (sR (sR (sR (sR (sR (sR (sR (body))))))))) (bodyQ P fn R)) (bodyQ P fn R)))))))) (fun e ρ m h => ?_) ρ m ?_
  · cases e with
    | normal =>
      have h : l9E (fun x0 x2b x2o x8 x9a x9l x9c x11 x12 x13 m => ∃ N1, N1 < N ∧ I N1 x0 x2b x2o x8 x9a x9l x9c x11 x12 x13 m) ρ m := h
      unfold l9E at h
      obtain ⟨x0, e0, h⟩ := h.ex
      obtain ⟨x2b, x2o, e2, h⟩ := h.ex
      obtain ⟨x8, e8, h⟩ := h.ex
      obtain ⟨x9a, x9l, x9c, e9, h⟩ := h.ex
      obtain ⟨x11, e11, h⟩ := h.ex
      obtain ⟨x12, e12, h⟩ := h.ex
      obtain ⟨x13, e13, h⟩ := h.ex
      obtain ⟨N1, hlt, h⟩ := h
      exact ⟨N1, hlt, (by show l9E (I N1) ρ m; unfold l9E; rw [e0, e2, e8, e9, e11, e12, e13]; exact h)⟩
    | _ => exact h
  have hh := hs N x0 x2b x2o x8 x9a x9l x9c x11 x12 x13 m h
  generalize (fun x0 x2b x2o x8 x9a x9l x9c x11 x12 x13 m => ∃ N1, N1 < N ∧ I N1 x0 x2b x2o x8 x9a x9l x9c x11 x12 x13 m : ByteArray → Nat → Nat → Bool → Option Addr → Nat → Nat → Int → Int → Int → Mem → Prop) = K9 at hh ⊢
  rw [← upd_self e0, ← upd_self e2, ← upd_self e8, ← upd_self e9, ← upd_self e11, ← upd_self e12, ← upd_self e13]
  rw [← l9_er K5 K9 R]
  refine acpt_sound (P := P) (l9A K5 K9 R) _ _ _ True.intro ?_
  exact Eq.mp (l9_eq K5 K9 R x0 x2b x2o x8 x9a x9l x9c x11 x12 x13 ρ m) hh
theorem k8_eq (K5 : ByteArray → Nat → Nat → Int → Bool → Option Addr → Nat → Nat → Mem → Prop) (R : Ending → Mem → Prop) (x0 : ByteArray) (x2b : Nat) (x2o : Nat) (x8 : Bool) (x9a : Option Addr) (x9l : Nat) (x9c : Nat) (x10 : Int) (x11 : Int) (x12 : Int) (ρ : Env) (m : Mem) : k8 K5 x0 x2b x2o x8 x9a x9l x9c x10 x11 x12 R m = acpt P od (panicR R) (k8A K5 R) (blockQ 1 (thenQ (l5E K5) (blockQ 0 (thenQ (acpt P od (panicR R) (.cut (k10E fun x0 x2b x2o x7 x8 x9a x9l x9c m => k10  x0 x2b x2o x7 x8 x9a x9l x9c R m) (sR (sR (sR (sR (sR (sR (sR (body))))))))) (bodyQ P fn R)) (bodyQ P fn R))))) (upd (upd (upd (upd (upd (upd (upd ρ 12 (.int .u8 x12)) 11 (.int .i64 x11)) 10 (.int .u8 x10)) 9 (.slice x9a x9l x9c)) 8 (.bool x8)) 2 (.pointer (some ⟨x2b, x2o, none⟩))) 0 (.string x0)) m := by kernel_rfl
theorem k8_er (K5 : ByteArray → Nat → Nat → Int → Bool → Option Addr → Nat → Nat → Mem → Prop) (R : Ending → Mem → Prop) : (k8A K5 R).erase = sR (sR (sR (sR (bB (sR (lP (bB (sL (sR (sR (sR (sR (sR (sR (body))))))))))))))) := by kernel_rfl
theorem k8_ok (K5 : ByteArray → Nat → Nat → Int → Bool → Option Addr → Nat → Nat → Mem → Prop) (R : Ending → Mem → Prop) (ρ : Env) (m : Mem) (h : (k8E fun x0 x2b x2o x8 x9a x9l x9c x10 x11 x12 m => k8 K5 x0 x2b x2o x8 x9a x9l x9c x10 x11 x12 R m) ρ m) : cpt P od (panicR R) (sR (sR (sR (sR (bB (sR (lP (bB (sL (sR (sR (sR (sR (sR (sR (body)))))))))))))))) (blockQ 1 (thenQ (l5E K5) (blockQ 0 (thenQ (acpt P od (panicR R) (.cut (k10E fun x0 x2b x2o x7 x8 x9a x9l x9c m => k10  x0 x2b x2o x7 x8 x9a x9l x9c R m) (sR (sR (sR (sR (sR (sR (sR (body))))))))) (bodyQ P fn R)) (bodyQ P fn R))))) ρ m := by
  unfold k8E at h
  obtain ⟨x0, e0, h⟩ := h.ex
  obtain ⟨x2b, x2o, e2, h⟩ := h.ex
  obtain ⟨x8, e8, h⟩ := h.ex
  obtain ⟨x9a, x9l, x9c, e9, h⟩ := h.ex
  obtain ⟨x10, e10, h⟩ := h.ex
  obtain ⟨x11, e11, h⟩ := h.ex
  obtain ⟨x12, e12, h⟩ := h.ex
  rw [← upd_self e0, ← upd_self e2, ← upd_self e8, ← upd_self e9, ← upd_self e10, ← upd_self e11, ← upd_self e12]
  rw [← k8_er K5 R]
  refine acpt_sound (P := P) (k8A K5 R) _ _ _ ⟨True.intro, ⟨(fun ρ m h => l9_ok K5 R ρ m h), True.intro⟩⟩ ?_
  exact Eq.mp (k8_eq K5 R x0 x2b x2o x8 x9a x9l x9c x10 x11 x12 ρ m) h
theorem k7_eq (K5 : ByteArray → Nat → Nat → Int → Bool → Option Addr → Nat → Nat → Mem → Prop) (R : Ending → Mem → Prop) (x0 : ByteArray) (x2b : Nat) (x2o : Nat) (x8 : Bool) (x9a : Option Addr) (x9l : Nat) (x9c : Nat) (x10 : Int) (x11 : Int) (x12 : Int) (x96 : Bool) (ρ : Env) (m : Mem) : k7 K5 x0 x2b x2o x8 x9a x9l x9c x10 x11 x12 x96 R m = acpt P od (panicR R) (k7A K5 R) (thenQ (acpt P od (panicR R) (.cut (k8E fun x0 x2b x2o x8 x9a x9l x9c x10 x11 x12 m => k8 K5 x0 x2b x2o x8 x9a x9l x9c x10 x11 x12 R m) (sR (sR (sR (sR (bB (sR (lP (bB (sL (sR (sR (sR (sR (sR (sR (body))))))))))))))))) (blockQ 1 (thenQ (l5E K5) (blockQ 0 (thenQ (acpt P od (panicR R) (.cut (k10E fun x0 x2b x2o x7 x8 x9a x9l x9c m => k10  x0 x2b x2o x7 x8 x9a x9l x9c R m) (sR (sR (sR (sR (sR (sR (sR (body))))))))) (bodyQ P fn R)) (bodyQ P fn R)))))) (blockQ 1 (thenQ (l5E K5) (blockQ 0 (thenQ (acpt P od (panicR R) (.cut (k10E fun x0 x2b x2o x7 x8 x9a x9l x9c m => k10  x0 x2b x2o x7 x8 x9a x9l x9c R m) (sR (sR (sR (sR (sR (sR (sR (body))))))))) (bodyQ P fn R)) (bodyQ P fn R)))))) (upd (upd (upd (upd (upd (upd (upd (upd ρ 96 (.bool x96)) 12 (.int .u8 x12)) 11 (.int .i64 x11)) 10 (.int .u8 x10)) 9 (.slice x9a x9l x9c)) 8 (.bool x8)) 2 (.pointer (some ⟨x2b, x2o, none⟩))) 0 (.string x0)) m := by kernel_rfl
theorem k7_er (K5 : ByteArray → Nat → Nat → Int → Bool → Option Addr → Nat → Nat → Mem → Prop) (R : Ending → Mem → Prop) : (k7A K5 R).erase = sR (sR (cT (sR (sL (sR (sR (sR (bB (sR (lP (bB (sL (sR (sR (sR (sR (sR (sR (body))))))))))))))))))) := by kernel_rfl
theorem k7_ok (K5 : ByteArray → Nat → Nat → Int → Bool → Option Addr → Nat → Nat → Mem → Prop) (R : Ending → Mem → Prop) (ρ : Env) (m : Mem) (h : (k7E fun x0 x2b x2o x8 x9a x9l x9c x10 x11 x12 x96 m => k7 K5 x0 x2b x2o x8 x9a x9l x9c x10 x11 x12 x96 R m) ρ m) : cpt P od (panicR R) (sR (sR (cT (sR (sL (sR (sR (sR (bB (sR (lP (bB (sL (sR (sR (sR (sR (sR (sR (body)))))))))))))))))))) (thenQ (acpt P od (panicR R) (.cut (k8E fun x0 x2b x2o x8 x9a x9l x9c x10 x11 x12 m => k8 K5 x0 x2b x2o x8 x9a x9l x9c x10 x11 x12 R m) (sR (sR (sR (sR (bB (sR (lP (bB (sL (sR (sR (sR (sR (sR (sR (body))))))))))))))))) (blockQ 1 (thenQ (l5E K5) (blockQ 0 (thenQ (acpt P od (panicR R) (.cut (k10E fun x0 x2b x2o x7 x8 x9a x9l x9c m => k10  x0 x2b x2o x7 x8 x9a x9l x9c R m) (sR (sR (sR (sR (sR (sR (sR (body))))))))) (bodyQ P fn R)) (bodyQ P fn R)))))) (blockQ 1 (thenQ (l5E K5) (blockQ 0 (thenQ (acpt P od (panicR R) (.cut (k10E fun x0 x2b x2o x7 x8 x9a x9l x9c m => k10  x0 x2b x2o x7 x8 x9a x9l x9c R m) (sR (sR (sR (sR (sR (sR (sR (body))))))))) (bodyQ P fn R)) (bodyQ P fn R)))))) ρ m := by
  unfold k7E at h
  obtain ⟨x0, e0, h⟩ := h.ex
  obtain ⟨x2b, x2o, e2, h⟩ := h.ex
  obtain ⟨x8, e8, h⟩ := h.ex
  obtain ⟨x9a, x9l, x9c, e9, h⟩ := h.ex
  obtain ⟨x10, e10, h⟩ := h.ex
  obtain ⟨x11, e11, h⟩ := h.ex
  obtain ⟨x12, e12, h⟩ := h.ex
  obtain ⟨x96, e96, h⟩ := h.ex
  rw [← upd_self e0, ← upd_self e2, ← upd_self e8, ← upd_self e9, ← upd_self e10, ← upd_self e11, ← upd_self e12, ← upd_self e96]
  rw [← k7_er K5 R]
  refine acpt_sound (P := P) (k7A K5 R) _ _ _ True.intro ?_
  exact Eq.mp (k7_eq K5 R x0 x2b x2o x8 x9a x9l x9c x10 x11 x12 x96 ρ m) h
theorem k6_eq (K5 : ByteArray → Nat → Nat → Int → Bool → Option Addr → Nat → Nat → Mem → Prop) (R : Ending → Mem → Prop) (x0 : ByteArray) (x2b : Nat) (x2o : Nat) (x8 : Bool) (x9a : Option Addr) (x9l : Nat) (x9c : Nat) (x10 : Int) (x11 : Int) (x12 : Int) (x82 : Bool) (ρ : Env) (m : Mem) : k6 K5 x0 x2b x2o x8 x9a x9l x9c x10 x11 x12 x82 R m = acpt P od (panicR R) (k6A K5 R) (thenQ (acpt P od (panicR R) (.cut (k8E fun x0 x2b x2o x8 x9a x9l x9c x10 x11 x12 m => k8 K5 x0 x2b x2o x8 x9a x9l x9c x10 x11 x12 R m) (sR (sR (sR (sR (bB (sR (lP (bB (sL (sR (sR (sR (sR (sR (sR (body))))))))))))))))) (blockQ 1 (thenQ (l5E K5) (blockQ 0 (thenQ (acpt P od (panicR R) (.cut (k10E fun x0 x2b x2o x7 x8 x9a x9l x9c m => k10  x0 x2b x2o x7 x8 x9a x9l x9c R m) (sR (sR (sR (sR (sR (sR (sR (body))))))))) (bodyQ P fn R)) (bodyQ P fn R)))))) (blockQ 1 (thenQ (l5E K5) (blockQ 0 (thenQ (acpt P od (panicR R) (.cut (k10E fun x0 x2b x2o x7 x8 x9a x9l x9c m => k10  x0 x2b x2o x7 x8 x9a x9l x9c R m) (sR (sR (sR (sR (sR (sR (sR (body))))))))) (bodyQ P fn R)) (bodyQ P fn R)))))) (upd (upd (upd (upd (upd (upd (upd (upd ρ 82 (.bool x82)) 12 (.int .u8 x12)) 11 (.int .i64 x11)) 10 (.int .u8 x10)) 9 (.slice x9a x9l x9c)) 8 (.bool x8)) 2 (.pointer (some ⟨x2b, x2o, none⟩))) 0 (.string x0)) m := by kernel_rfl
theorem k6_er (K5 : ByteArray → Nat → Nat → Int → Bool → Option Addr → Nat → Nat → Mem → Prop) (R : Ending → Mem → Prop) : (k6A K5 R).erase = sR (sL (sR (sR (sR (bB (sR (lP (bB (sL (sR (sR (sR (sR (sR (sR (body)))))))))))))))) := by kernel_rfl
theorem k6_ok (K5 : ByteArray → Nat → Nat → Int → Bool → Option Addr → Nat → Nat → Mem → Prop) (R : Ending → Mem → Prop) (ρ : Env) (m : Mem) (h : (k6E fun x0 x2b x2o x8 x9a x9l x9c x10 x11 x12 x82 m => k6 K5 x0 x2b x2o x8 x9a x9l x9c x10 x11 x12 x82 R m) ρ m) : cpt P od (panicR R) (sR (sL (sR (sR (sR (bB (sR (lP (bB (sL (sR (sR (sR (sR (sR (sR (body))))))))))))))))) (thenQ (acpt P od (panicR R) (.cut (k8E fun x0 x2b x2o x8 x9a x9l x9c x10 x11 x12 m => k8 K5 x0 x2b x2o x8 x9a x9l x9c x10 x11 x12 R m) (sR (sR (sR (sR (bB (sR (lP (bB (sL (sR (sR (sR (sR (sR (sR (body))))))))))))))))) (blockQ 1 (thenQ (l5E K5) (blockQ 0 (thenQ (acpt P od (panicR R) (.cut (k10E fun x0 x2b x2o x7 x8 x9a x9l x9c m => k10  x0 x2b x2o x7 x8 x9a x9l x9c R m) (sR (sR (sR (sR (sR (sR (sR (body))))))))) (bodyQ P fn R)) (bodyQ P fn R)))))) (blockQ 1 (thenQ (l5E K5) (blockQ 0 (thenQ (acpt P od (panicR R) (.cut (k10E fun x0 x2b x2o x7 x8 x9a x9l x9c m => k10  x0 x2b x2o x7 x8 x9a x9l x9c R m) (sR (sR (sR (sR (sR (sR (sR (body))))))))) (bodyQ P fn R)) (bodyQ P fn R)))))) ρ m := by
  unfold k6E at h
  obtain ⟨x0, e0, h⟩ := h.ex
  obtain ⟨x2b, x2o, e2, h⟩ := h.ex
  obtain ⟨x8, e8, h⟩ := h.ex
  obtain ⟨x9a, x9l, x9c, e9, h⟩ := h.ex
  obtain ⟨x10, e10, h⟩ := h.ex
  obtain ⟨x11, e11, h⟩ := h.ex
  obtain ⟨x12, e12, h⟩ := h.ex
  obtain ⟨x82, e82, h⟩ := h.ex
  rw [← upd_self e0, ← upd_self e2, ← upd_self e8, ← upd_self e9, ← upd_self e10, ← upd_self e11, ← upd_self e12, ← upd_self e82]
  rw [← k6_er K5 R]
  refine acpt_sound (P := P) (k6A K5 R) _ _ _ ⟨⟨⟨(fun ρ m h => k7_ok K5 R ρ m h), True.intro⟩, True.intro⟩, True.intro⟩ ?_
  exact Eq.mp (k6_eq K5 R x0 x2b x2o x8 x9a x9l x9c x10 x11 x12 x82 ρ m) h
theorem k12_eq  (R : Ending → Mem → Prop) (x2b : Nat) (x2o : Nat) (x7 : Int) (x14b : Nat) (x14o : Nat) (ρ : Env) (m : Mem) : k12  x2b x2o x7 x14b x14o R m = acpt P od (panicR R) (k12A  R) (bodyQ P fn R) (upd (upd (upd ρ 14 (.pointer (some ⟨x14b, x14o, none⟩))) 7 (.int .i64 x7)) 2 (.pointer (some ⟨x2b, x2o, none⟩))) m := by kernel_rfl
theorem k12_er  (R : Ending → Mem → Prop) : (k12A  R).erase = sR (sR (sR (sR (sR (sR (sR (sR (sR (sR (body)))))))))) := by kernel_rfl
theorem k12_ok  (R : Ending → Mem → Prop) (ρ : Env) (m : Mem) (h : (k12E fun x2b x2o x7 x14b x14o m => k12  x2b x2o x7 x14b x14o R m) ρ m) : cpt P od (panicR R) (sR (sR (sR (sR (sR (sR (sR (sR (sR (sR (body))))))))))) (bodyQ P fn R) ρ m := by
  unfold k12E at h
  obtain ⟨x2b, x2o, e2, h⟩ := h.ex
  obtain ⟨x7, e7, h⟩ := h.ex
  obtain ⟨x14b, x14o, e14, h⟩ := h.ex
  rw [← upd_self e2, ← upd_self e7, ← upd_self e14]
  rw [← k12_er  R]
  refine acpt_sound (P := P) (k12A  R) _ _ _ True.intro ?_
  exact Eq.mp (k12_eq  R x2b x2o x7 x14b x14o ρ m) h
theorem k11_eq  (R : Ending → Mem → Prop) (x2b : Nat) (x2o : Nat) (x7 : Int) (x8 : Bool) (x9a : Option Addr) (x9l : Nat) (x9c : Nat) (x120 : Bool) (ρ : Env) (m : Mem) : k11  x2b x2o x7 x8 x9a x9l x9c x120 R m = acpt P od (panicR R) (k11A  R) (thenQ (acpt P od (panicR R) (.seq (.code (sL (sR (sR (sR (sR (sR (sR (sR (sR (body))))))))))) (.seq (.code (sL (sR (sR (sR (sR (sR (sR (sR (sR (sR (body)))))))))))) (.cut (k12E fun x2b x2o x7 x14b x14o m => k12  x2b x2o x7 x14b x14o R m) (sR (sR (sR (sR (sR (sR (sR (sR (sR (sR (body)))))))))))))) (bodyQ P fn R)) (bodyQ P fn R)) (upd (upd (upd (upd (upd ρ 120 (.bool x120)) 9 (.slice x9a x9l x9c)) 8 (.bool x8)) 7 (.int .i64 x7)) 2 (.pointer (some ⟨x2b, x2o, none⟩))) m := by kernel_rfl
theorem k11_er  (R : Ending → Mem → Prop) : (k11A  R).erase = sR (sL (sR (sR (sR (sR (sR (sR (sR (body))))))))) := by kernel_rfl
theorem k11_ok  (R : Ending → Mem → Prop) (ρ : Env) (m : Mem) (h : (k11E fun x2b x2o x7 x8 x9a x9l x9c x120 m => k11  x2b x2o x7 x8 x9a x9l x9c x120 R m) ρ m) : cpt P od (panicR R) (sR (sL (sR (sR (sR (sR (sR (sR (sR (body)))))))))) (thenQ (acpt P od (panicR R) (.seq (.code (sL (sR (sR (sR (sR (sR (sR (sR (sR (body))))))))))) (.seq (.code (sL (sR (sR (sR (sR (sR (sR (sR (sR (sR (body)))))))))))) (.cut (k12E fun x2b x2o x7 x14b x14o m => k12  x2b x2o x7 x14b x14o R m) (sR (sR (sR (sR (sR (sR (sR (sR (sR (sR (body)))))))))))))) (bodyQ P fn R)) (bodyQ P fn R)) ρ m := by
  unfold k11E at h
  obtain ⟨x2b, x2o, e2, h⟩ := h.ex
  obtain ⟨x7, e7, h⟩ := h.ex
  obtain ⟨x8, e8, h⟩ := h.ex
  obtain ⟨x9a, x9l, x9c, e9, h⟩ := h.ex
  obtain ⟨x120, e120, h⟩ := h.ex
  rw [← upd_self e2, ← upd_self e7, ← upd_self e8, ← upd_self e9, ← upd_self e120]
  rw [← k11_er  R]
  refine acpt_sound (P := P) (k11A  R) _ _ _ True.intro ?_
  exact Eq.mp (k11_eq  R x2b x2o x7 x8 x9a x9l x9c x120 ρ m) h
theorem k10_eq  (R : Ending → Mem → Prop) (x0 : ByteArray) (x2b : Nat) (x2o : Nat) (x7 : Int) (x8 : Bool) (x9a : Option Addr) (x9l : Nat) (x9c : Nat) (ρ : Env) (m : Mem) : k10  x0 x2b x2o x7 x8 x9a x9l x9c R m = acpt P od (panicR R) (k10A  R) (bodyQ P fn R) (upd (upd (upd (upd (upd ρ 9 (.slice x9a x9l x9c)) 8 (.bool x8)) 7 (.int .i64 x7)) 2 (.pointer (some ⟨x2b, x2o, none⟩))) 0 (.string x0)) m := by kernel_rfl
theorem k10_er  (R : Ending → Mem → Prop) : (k10A  R).erase = sR (sR (sR (sR (sR (sR (sR (body))))))) := by kernel_rfl
theorem k10_ok  (R : Ending → Mem → Prop) (ρ : Env) (m : Mem) (h : (k10E fun x0 x2b x2o x7 x8 x9a x9l x9c m => k10  x0 x2b x2o x7 x8 x9a x9l x9c R m) ρ m) : cpt P od (panicR R) (sR (sR (sR (sR (sR (sR (sR (body)))))))) (bodyQ P fn R) ρ m := by
  unfold k10E at h
  obtain ⟨x0, e0, h⟩ := h.ex
  obtain ⟨x2b, x2o, e2, h⟩ := h.ex
  obtain ⟨x7, e7, h⟩ := h.ex
  obtain ⟨x8, e8, h⟩ := h.ex
  obtain ⟨x9a, x9l, x9c, e9, h⟩ := h.ex
  rw [← upd_self e0, ← upd_self e2, ← upd_self e7, ← upd_self e8, ← upd_self e9]
  rw [← k10_er  R]
  refine acpt_sound (P := P) (k10A  R) _ _ _ ⟨⟨⟨(fun ρ m h => k12_ok  R ρ m h), True.intro⟩, True.intro⟩, ⟨(fun ρ m h => k11_ok  R ρ m h), True.intro⟩⟩ ?_
  exact Eq.mp (k10_eq  R x0 x2b x2o x7 x8 x9a x9l x9c ρ m) h
theorem l5_eq  (K5 : ByteArray → Nat → Nat → Int → Bool → Option Addr → Nat → Nat → Mem → Prop) (R : Ending → Mem → Prop) (x0 : ByteArray) (x2b : Nat) (x2o : Nat) (x7 : Int) (x8 : Bool) (x9a : Option Addr) (x9l : Nat) (x9c : Nat) (ρ : Env) (m : Mem) : l5B  K5 x0 x2b x2o x7 x8 x9a x9l x9c R m = acpt P od (panicR R) (l5A  K5 R) (thenQ (l5E K5) (blockQ 0 (thenQ (acpt P od (panicR R) (.cut (k10E fun x0 x2b x2o x7 x8 x9a x9l x9c m => k10  x0 x2b x2o x7 x8 x9a x9l x9c R m) (sR (sR (sR (sR (sR (sR (sR (body))))))))) (bodyQ P fn R)) (bodyQ P fn R)))) (upd (upd (upd (upd (upd ρ 9 (.slice x9a x9l x9c)) 8 (.bool x8)) 7 (.int .i64 x7)) 2 (.pointer (some ⟨x2b, x2o, none⟩))) 0 (.string x0)) m := by kernel_rfl
theorem l5_er  (K5 : ByteArray → Nat → Nat → Int → Bool → Option Addr → Nat → Nat → Mem → Prop) (R : Ending → Mem → Prop) : (l5A  K5 R).erase = lP (bB (sL (sR (sR (sR (sR (sR (sR (body))))))))) := by kernel_rfl
theorem l5_ok  (R : Ending → Mem → Prop) (ρ : Env) (m : Mem) (h : (l5E fun x0 x2b x2o x7 x8 x9a x9l x9c m => l5  x0 x2b x2o x7 x8 x9a x9l x9c R m) ρ m) : cpt P od (panicR R) (.loop (lP (bB (sL (sR (sR (sR (sR (sR (sR (body))))))))))) (blockQ 0 (thenQ (acpt P od (panicR R) (.cut (k10E fun x0 x2b x2o x7 x8 x9a x9l x9c m => k10  x0 x2b x2o x7 x8 x9a x9l x9c R m) (sR (sR (sR (sR (sR (sR (sR (body))))))))) (bodyQ P fn R)) (bodyQ P fn R))) ρ m := by
  unfold l5E at h
  obtain ⟨x0, e0, h⟩ := h.ex
  obtain ⟨x2b, x2o, e2, h⟩ := h.ex
  obtain ⟨x7, e7, h⟩ := h.ex
  obtain ⟨x8, e8, h⟩ := h.ex
  obtain ⟨x9a, x9l, x9c, e9, h⟩ := h.ex
  obtain ⟨I, N, h0, hs⟩ := h
  refine ⟨fun N => l5E (I N), N, (by show l5E (I N) ρ m; unfold l5E; rw [e0, e2, e7, e8, e9]; exact h0), ?_⟩
  clear h0 e0 e2 e7 e8 e9
  intro N ρ m h
  unfold l5E at h
  obtain ⟨x0, e0, h⟩ := h.ex
  obtain ⟨x2b, x2o, e2, h⟩ := h.ex
  obtain ⟨x7, e7, h⟩ := h.ex
  obtain ⟨x8, e8, h⟩ := h.ex
  obtain ⟨x9a, x9l, x9c, e9, h⟩ := h.ex
  refine cpt_mono (P := P) (lP (bB (sL (sR (sR (sR (sR (sR (sR (body)))))))))) (Q := thenQ (l5E fun x0 x2b x2o x7 x8 x9a x9l x9c m => ∃ N1, N1 < N ∧ I N1 x0 x2b x2o x7 x8 x9a x9l x9c m) (blockQ 0 (thenQ (acpt P od (panicR R) (.cut (k10E fun x0 x2b x2o x7 x8 x9a x9l x9c m => k10  x0 x2b x2o x7 x8 x9a x9l x9c R m) (sR (sR (sR (sR (sR (sR (sR (body))))))))) (bodyQ P fn R)) (bodyQ P fn R)))) (fun e ρ m h => ?_) ρ m ?_
  · cases e with
    | normal =>
      have h : l5E (fun x0 x2b x2o x7 x8 x9a x9l x9c m => ∃ N1, N1 < N ∧ I N1 x0 x2b x2o x7 x8 x9a x9l x9c m) ρ m := h
      unfold l5E at h
      obtain ⟨x0, e0, h⟩ := h.ex
      obtain ⟨x2b, x2o, e2, h⟩ := h.ex
      obtain ⟨x7, e7, h⟩ := h.ex
      obtain ⟨x8, e8, h⟩ := h.ex
      obtain ⟨x9a, x9l, x9c, e9, h⟩ := h.ex
      obtain ⟨N1, hlt, h⟩ := h
      exact ⟨N1, hlt, (by show l5E (I N1) ρ m; unfold l5E; rw [e0, e2, e7, e8, e9]; exact h)⟩
    | _ => exact h
  have hh := hs N x0 x2b x2o x7 x8 x9a x9l x9c m h
  generalize (fun x0 x2b x2o x7 x8 x9a x9l x9c m => ∃ N1, N1 < N ∧ I N1 x0 x2b x2o x7 x8 x9a x9l x9c m : ByteArray → Nat → Nat → Int → Bool → Option Addr → Nat → Nat → Mem → Prop) = K5 at hh ⊢
  rw [← upd_self e0, ← upd_self e2, ← upd_self e7, ← upd_self e8, ← upd_self e9]
  rw [← l5_er  K5 R]
  refine acpt_sound (P := P) (l5A  K5 R) _ _ _ ⟨⟨⟨⟨⟨(fun ρ m h => k8_ok K5 R ρ m h), ⟨(fun ρ m h => k6_ok K5 R ρ m h), True.intro⟩⟩, True.intro⟩, True.intro⟩, True.intro⟩, True.intro⟩ ?_
  exact Eq.mp (l5_eq  K5 R x0 x2b x2o x7 x8 x9a x9l x9c ρ m) hh
theorem k4_eq  (R : Ending → Mem → Prop) (x0 : ByteArray) (x2b : Nat) (x2o : Nat) (x7 : Int) (x8 : Bool) (ρ : Env) (m : Mem) : k4  x0 x2b x2o x7 x8 R m = acpt P od (panicR R) (k4A  R) (bodyQ P fn R) (upd (upd (upd (upd ρ 8 (.bool x8)) 7 (.int .i64 x7)) 2 (.pointer (some ⟨x2b, x2o, none⟩))) 0 (.string x0)) m := by kernel_rfl
theorem k4_er  (R : Ending → Mem → Prop) : (k4A  R).erase = sR (sR (sR (sR (sR (body))))) := by kernel_rfl
theorem k4_ok  (R : Ending → Mem → Prop) (ρ : Env) (m : Mem) (h : (k4E fun x0 x2b x2o x7 x8 m => k4  x0 x2b x2o x7 x8 R m) ρ m) : cpt P od (panicR R) (sR (sR (sR (sR (sR (body)))))) (bodyQ P fn R) ρ m := by
  unfold k4E at h
  obtain ⟨x0, e0, h⟩ := h.ex
  obtain ⟨x2b, x2o, e2, h⟩ := h.ex
  obtain ⟨x7, e7, h⟩ := h.ex
  obtain ⟨x8, e8, h⟩ := h.ex
  rw [← upd_self e0, ← upd_self e2, ← upd_self e7, ← upd_self e8]
  rw [← k4_er  R]
  refine acpt_sound (P := P) (k4A  R) _ _ _ ⟨⟨(fun ρ m h => k10_ok  R ρ m h), (fun ρ m h => l5_ok  R ρ m h)⟩, True.intro⟩ ?_
  exact Eq.mp (k4_eq  R x0 x2b x2o x7 x8 ρ m) h
theorem k3_eq  (R : Ending → Mem → Prop) (x0 : ByteArray) (x2b : Nat) (x2o : Nat) (x32 : Bool) (ρ : Env) (m : Mem) : k3  x0 x2b x2o x32 R m = acpt P od (panicR R) (k3A  R) (thenQ (acpt P od (panicR R) (.seq (.code (sL (sR (sR (sR (body)))))) (.seq (.code (sL (sR (sR (sR (sR (body))))))) (.cut (k4E fun x0 x2b x2o x7 x8 m => k4  x0 x2b x2o x7 x8 R m) (sR (sR (sR (sR (sR (body))))))))) (bodyQ P fn R)) (bodyQ P fn R)) (upd (upd (upd ρ 32 (.bool x32)) 2 (.pointer (some ⟨x2b, x2o, none⟩))) 0 (.string x0)) m := by kernel_rfl
theorem k3_er  (R : Ending → Mem → Prop) : (k3A  R).erase = sR (sL (sR (sR (body)))) := by kernel_rfl
theorem k3_ok  (R : Ending → Mem → Prop) (ρ : Env) (m : Mem) (h : (k3E fun x0 x2b x2o x32 m => k3  x0 x2b x2o x32 R m) ρ m) : cpt P od (panicR R) (sR (sL (sR (sR (body))))) (thenQ (acpt P od (panicR R) (.seq (.code (sL (sR (sR (sR (body)))))) (.seq (.code (sL (sR (sR (sR (sR (body))))))) (.cut (k4E fun x0 x2b x2o x7 x8 m => k4  x0 x2b x2o x7 x8 R m) (sR (sR (sR (sR (sR (body))))))))) (bodyQ P fn R)) (bodyQ P fn R)) ρ m := by
  unfold k3E at h
  obtain ⟨x0, e0, h⟩ := h.ex
  obtain ⟨x2b, x2o, e2, h⟩ := h.ex
  obtain ⟨x32, e32, h⟩ := h.ex
  rw [← upd_self e0, ← upd_self e2, ← upd_self e32]
  rw [← k3_er  R]
  refine acpt_sound (P := P) (k3A  R) _ _ _ True.intro ?_
  exact Eq.mp (k3_eq  R x0 x2b x2o x32 ρ m) h
theorem k2_eq  (R : Ending → Mem → Prop) (x0 : ByteArray) (x2b : Nat) (x2o : Nat) (ρ : Env) (m : Mem) : k2  x0 x2b x2o R m = acpt P od (panicR R) (k2A  R) (bodyQ P fn R) (upd (upd ρ 2 (.pointer (some ⟨x2b, x2o, none⟩))) 0 (.string x0)) m := by kernel_rfl
theorem k2_er  (R : Ending → Mem → Prop) : (k2A  R).erase = sR (sR (body)) := by kernel_rfl
theorem k2_ok  (R : Ending → Mem → Prop) (ρ : Env) (m : Mem) (h : (k2E fun x0 x2b x2o m => k2  x0 x2b x2o R m) ρ m) : cpt P od (panicR R) (sR (sR (body))) (bodyQ P fn R) ρ m := by
  unfold k2E at h
  obtain ⟨x0, e0, h⟩ := h.ex
  obtain ⟨x2b, x2o, e2, h⟩ := h.ex
  rw [← upd_self e0, ← upd_self e2]
  rw [← k2_er  R]
  refine acpt_sound (P := P) (k2A  R) _ _ _ ⟨⟨⟨(fun ρ m h => k4_ok  R ρ m h), True.intro⟩, True.intro⟩, ⟨(fun ρ m h => k3_ok  R ρ m h), True.intro⟩⟩ ?_
  exact Eq.mp (k2_eq  R x0 x2b x2o ρ m) h
theorem k1_eq  (R : Ending → Mem → Prop) (x0 : ByteArray) (x2b : Nat) (x2o : Nat) (x22 : Bool) (ρ : Env) (m : Mem) : k1  x0 x2b x2o x22 R m = acpt P od (panicR R) (k1A  R) (thenQ (acpt P od (panicR R) (.cut (k2E fun x0 x2b x2o m => k2  x0 x2b x2o R m) (sR (sR (body)))) (bodyQ P fn R)) (bodyQ P fn R)) (upd (upd (upd ρ 22 (.bool x22)) 2 (.pointer (some ⟨x2b, x2o, none⟩))) 0 (.string x0)) m := by kernel_rfl
theorem k1_er  (R : Ending → Mem → Prop) : (k1A  R).erase = sR (sL (sR (body))) := by kernel_rfl
theorem k1_ok  (R : Ending → Mem → Prop) (ρ : Env) (m : Mem) (h : (k1E fun x0 x2b x2o x22 m => k1  x0 x2b x2o x22 R m) ρ m) : cpt P od (panicR R) (sR (sL (sR (body)))) (thenQ (acpt P od (panicR R) (.cut (k2E fun x0 x2b x2o m => k2  x0 x2b x2o R m) (sR (sR (body)))) (bodyQ P fn R)) (bodyQ P fn R)) ρ m := by
  unfold k1E at h
  obtain ⟨x0, e0, h⟩ := h.ex
  obtain ⟨x2b, x2o, e2, h⟩ := h.ex
  obtain ⟨x22, e22, h⟩ := h.ex
  rw [← upd_self e0, ← upd_self e2, ← upd_self e22]
  rw [← k1_er  R]
  refine acpt_sound (P := P) (k1A  R) _ _ _ True.intro ?_
  exact Eq.mp (k1_eq  R x0 x2b x2o x22 ρ m) h
theorem e0_eq (a0 : ByteArray) (R : Ending → Mem → Prop) (m : Mem) : e0 a0 R m = acpt P od (panicR R) (e0A R) (bodyQ P fn R) (argE (#[.string a0] : Array Value).toList) m := by kernel_rfl
theorem ok (a0 : ByteArray) (R : Ending → Mem → Prop) (m : Mem) (h : e0 a0 R m) : HC P id #[.string a0] m R := by
  refine HC_of (fn := fn) (c := body) (od := od) (tb := tb) Go.Proofs.Tryd.func12 (by kernel_rfl) (by kernel_rfl) follows (by kernel_rfl) (of_decide_eq_true (by kernel_rfl)) ?_
  have he : (e0A R).erase = body := by kernel_rfl
  rw [← he]
  refine acpt_sound (P := P) (e0A R) _ _ _ ⟨⟨(fun ρ m h => k2_ok  R ρ m h), ⟨(fun ρ m h => k1_ok  R ρ m h), True.intro⟩⟩, True.intro⟩ ?_
  exact Eq.mp (e0_eq a0 R m) h
end eyotref8_Class

/-! ### eyot/eyotref8.Empty -/
namespace eyotref8_Empty
noncomputable def fn : Func := Go.Proofs.Tryd.f13
noncomputable def body : Code := fn.body.getD .skip
def od : Nat → Ord := fun _ => .done
def tb : Nat → Tab := fun _ => (0, [], [])
def e0 (s_0_0 : Int) (s_0_1 : Int) (s_0_2 : Int) (s_0_3 : Int) (R : Ending → Mem → Prop) (m : Mem) : Prop :=
  NewC m #[.int .u64 s_0_0, .int .u64 s_0_1, .int .u64 s_0_2, .int .u64 s_0_3] T_api_Set fun b_s_1 m1 =>
  LdV m1 b_s_1 0 fun v =>
  UnI v .u64 fun x3_0 =>
  LdV m1 b_s_1 1 fun v =>
  UnI v .u64 fun x3_1 =>
  LdV m1 b_s_1 2 fun v =>
  UnI v .u64 fun x3_2 =>
  LdV m1 b_s_1 3 fun v =>
  UnI v .u64 fun x3_3 =>
  R (.returned (.bool (eqL [.int .u64 x3_0, .int .u64 x3_1, .int .u64 x3_2, .int .u64 x3_3] [.int .u64 0, .int .u64 0, .int .u64 0, .int .u64 0]))) m1
noncomputable def e0A (R : Ending → Mem → Prop) : ACode := (.code (body))
theorem e0_eq (s_0_0 : Int) (s_0_1 : Int) (s_0_2 : Int) (s_0_3 : Int) (R : Ending → Mem → Prop) (m : Mem) : e0 s_0_0 s_0_1 s_0_2 s_0_3 R m = acpt P od (panicR R) (e0A R) (bodyQ P fn R) (argE (#[.agg #[.int .u64 s_0_0, .int .u64 s_0_1, .int .u64 s_0_2, .int .u64 s_0_3]] : Array Value).toList) m := by kernel_rfl
theorem ok (s_0_0 : Int) (s_0_1 : Int) (s_0_2 : Int) (s_0_3 : Int) (R : Ending → Mem → Prop) (m : Mem) (h : e0 s_0_0 s_0_1 s_0_2 s_0_3 R m) : HC P id #[.agg #[.int .u64 s_0_0, .int .u64 s_0_1, .int .u64 s_0_2, .int .u64 s_0_3]] m R := by
  refine HC_of (fn := fn) (c := body) (od := od) (tb := tb) Go.Proofs.Tryd.func13 (by kernel_rfl) (by kernel_rfl) follows (by kernel_rfl) (of_decide_eq_true (by kernel_rfl)) ?_
  have he : (e0A R).erase = body := by kernel_rfl
  rw [← he]
  refine acpt_sound (P := P) (e0A R) _ _ _ True.intro ?_
  exact Eq.mp (e0_eq s_0_0 s_0_1 s_0_2 s_0_3 R m) h
end eyotref8_Empty

/-! ### eyot/class.Show -/
namespace class_Show
noncomputable def fn : Func := Go.Proofs.Tryd.f14
noncomputable def body : Code := fn.body.getD .skip
def od : Nat → Ord := fun | 4 => ordL [(0, 1), (1, 3), (2, 0), (3, 3), (4, 3)] .done | 6 => ordL [(0, 3), (1, 3), (2, 3), (3, 3), (4, 3), (5, 3), (6, 3), (7, 1), (8, 3), (9, 3), (10, 3), (11, 0), (12, 3), (13, 3), (14, 3)] .done | _ => .done
def tb : Nat → Tab := fun | 4 => (0, [0, 0, 2, 7, 15], [(0, 2, 15), (0, 0, 16), (2, 32768, 17), (5, 81920, 18), (12, 131072, 14)]) | 6 => (0, [0, 1, 3, 7, 15, 31, 63, 127, 15, 271, 783, 1807, 4095, 8191, 16383], [(0, 8, 20), (1, 524288, 21), (2, 1048576, 22), (4, 2097152, 23), (8, 4194312, 24), (24, 12582912, 25), (40, 20971520, 26), (72, 37748736, 27), (8, 4194312, 28), (264, 138412032, 29), (520, 272629760, 30), (1032, 541065216, 31), (2184, 1145044992, 32), (4104, 2151677952, 33), (8200, 4294967296, 19)]) | _ => (0, [], [])
def l3E (K : ByteArray → Option Addr → Nat → Nat → Int → Int → Mem → Prop) : Env → Mem → Prop := fun ρ m => UnStr (ρ 4) fun out_4 => UnS (ρ 38) fun x38a x38l x38c => UnI (ρ 39) .i64 fun x39 => UnI (ρ 40) .i64 fun x40 => K out_4 x38a x38l x38c x39 x40 m
def l3B  (K3 : ByteArray → Option Addr → Nat → Nat → Int → Int → Mem → Prop) (out_4 : ByteArray) (x38a : Option Addr) (x38l : Nat) (x38c : Nat) (x39 : Int) (x40 : Int) (R : Ending → Mem → Prop) (m : Mem) : Prop :=
  Br (decide (x40 < x39)) (
    IxS x38a x38l x40 2 fun x42b x42o =>
    LdV m x42b x42o fun v =>
    UnI v .u8 fun x43_0 =>
    LdV m x42b (x42o + 1) fun v =>
    UnI v .u8 fun x43_1 =>
    NewC m #[.int .u8 0, .int .u8 0] T_arr2_uint8 fun b_r_6 m1 =>
    St1 m1 b_r_6 0 (.int .u8 x43_0) fun m2 =>
    St1 m2 b_r_6 1 (.int .u8 x43_1) fun m3 =>
    LdV m3 b_r_6 0 fun v =>
    UnI v .u8 fun x45_0 =>
    LdV m3 b_r_6 1 fun v =>
    UnI v .u8 fun x45_1 =>
    HC P class_shown.id #[.agg #[.int .u8 x45_0, .int .u8 x45_1]] m3 (Cont (fun v m4 =>
        UnStr v fun x46 =>
        CatB out_4 x46 (
          K3 (out_4 ++ x46) x38a x38l x38c x39 (IntKind.i64.wrap (x40 + 1)) m4)) (panicR R))) (
    CatB out_4 (ByteArray.mk #[93]) (
      R (.returned (.string (out_4 ++ (ByteArray.mk #[93])))) m))
def l3  (out_4 : ByteArray) (x38a : Option Addr) (x38l : Nat) (x38c : Nat) (x39 : Int) (x40 : Int) (R : Ending → Mem → Prop) (m : Mem) : Prop :=
  ∃ (I : Nat → ByteArray → Option Addr → Nat → Nat → Int → Int → Mem → Prop) (N : Nat), I N out_4 x38a x38l x38c x39 x40 m ∧ ∀ N out_4 x38a x38l x38c x39 x40 m, I N out_4 x38a x38l x38c x39 x40 m → l3B  (fun out_4 x38a x38l x38c x39 x40 m => ∃ N1, N1 < N ∧ I N1 out_4 x38a x38l x38c x39 x40 m) out_4 x38a x38l x38c x39 x40 R m
noncomputable def l3A  (K3 : ByteArray → Option Addr → Nat → Nat → Int → Int → Mem → Prop) (R : Ending → Mem → Prop) : ACode := (.code (lP (bB (sR (sL (sR (sR (sR (sR (body))))))))))
def k2E (K : Option Addr → Nat → Nat → Mem → Prop) : Env → Mem → Prop := fun ρ m => UnS (ρ 3) fun l_3a l_3l l_3c => K l_3a l_3l l_3c m
def k2  (l_3a : Option Addr) (l_3l : Nat) (l_3c : Nat) (R : Ending → Mem → Prop) (m : Mem) : Prop :=
  l3  (ByteArray.mk #[91]) l_3a l_3l l_3c ((l_3l : Nat) : Int) 0 R m
noncomputable def k2A  (R : Ending → Mem → Prop) : ACode := (.seq (.code (sL (sR (sR (sR (body)))))) (.seq (.seq (.code (sL (sL (sR (sR (sR (sR (body)))))))) (.block 1 (.cut (l3E fun out_4 x38a x38l x38c x39 x40 m => l3  out_4 x38a x38l x38c x39 x40 R m) (.loop (lP (bB (sR (sL (sR (sR (sR (sR (body))))))))))))) (.code (sR (sR (sR (sR (sR (body)))))))))
def k1E (K : Option Addr → Nat → Nat → Bool → Mem → Prop) : Env → Mem → Prop := fun ρ m => UnS (ρ 3) fun l_3a l_3l l_3c => UnB (ρ 18) fun x18 => K l_3a l_3l l_3c x18 m
def k1  (l_3a : Option Addr) (l_3l : Nat) (l_3c : Nat) (x18 : Bool) (R : Ending → Mem → Prop) (m : Mem) : Prop :=
  Br x18 (
    IxS l_3a l_3l 0 2 fun x34b x34o =>
    0 ≤ (0 : Int) ∧ (0 : Int) < (2 : Nat) ∧ (
      LdV m x34b (x34o + (0 : Int).toNat * 1) fun v =>
      UnI v .u8 fun x36 =>
      HC P class_sign.id #[.int .u8 x36] m (Cont (fun v m1 =>
          UnStr v fun x37 =>
          R (.returned (.string x37)) m1) (panicR R)))) (
    k2  l_3a l_3l l_3c R m)
noncomputable def k1A  (R : Ending → Mem → Prop) : ACode := (.code (sR (cE (sR (cE (sR (bB (sL (sR (sR (body)))))))))))
def e0 (s_0_0 : Int) (s_0_1 : Int) (s_0_2 : Int) (s_0_3 : Int) (R : Ending → Mem → Prop) (m : Mem) : Prop :=
  NewC m #[.int .u64 s_0_0, .int .u64 s_0_1, .int .u64 s_0_2, .int .u64 s_0_3] T_api_Set fun b_s_1 m1 =>
  LdV m1 b_s_1 0 fun v =>
  UnI v .u64 fun x7_0 =>
  LdV m1 b_s_1 1 fun v =>
  UnI v .u64 fun x7_1 =>
  LdV m1 b_s_1 2 fun v =>
  UnI v .u64 fun x7_2 =>
  LdV m1 b_s_1 3 fun v =>
  UnI v .u64 fun x7_3 =>
  HC P class_runs.id #[.agg #[.int .u64 x7_0, .int .u64 x7_1, .int .u64 x7_2, .int .u64 x7_3]] m1 (Cont (fun v m2 =>
      UnS v fun x8a x8l x8c =>
      Br (((x8l : Nat) : Int) == 0) (
        R (.returned (.string (ByteArray.mk #[]))) m2) (
        Sub m2 fun r3 =>
        LdV r3 b_s_1 0 fun v =>
        UnI v .u64 fun x14_0 =>
        LdV r3 b_s_1 1 fun v =>
        UnI v .u64 fun x14_1 =>
        LdV r3 b_s_1 2 fun v =>
        UnI v .u64 fun x14_2 =>
        LdV r3 b_s_1 3 fun v =>
        UnI v .u64 fun x14_3 =>
        HC P class_Not.id #[.agg #[.int .u64 0, .int .u64 0, .int .u64 0, .int .u64 0]] m2 (Cont (fun v m4 =>
            UnAgg v fun l =>
            UnCons l fun v l =>
            UnI v .u64 fun x16_0 =>
            UnCons l fun v l =>
            UnI v .u64 fun x16_1 =>
            UnCons l fun v l =>
            UnI v .u64 fun x16_2 =>
            UnCons l fun v l =>
            UnI v .u64 fun x16_3 =>
            UnNil l (
              Lk r3 m4 fun r5 =>
              Br (eqL [.int .u64 x14_0, .int .u64 x14_1, .int .u64 x14_2, .int .u64 x14_3] [.int .u64 x16_0, .int .u64 x16_1, .int .u64 x16_2, .int .u64 x16_3]) (
                R (.returned (.string (ByteArray.mk #[46]))) m4) (
                Sub m4 fun r6 =>
                Br (((x8l : Nat) : Int) == 1) (
                  IxS x8a x8l 0 2 fun x24b x24o =>
                  0 ≤ (0 : Int) ∧ (0 : Int) < (2 : Nat) ∧ (
                    LdV r6 x24b (x24o + (0 : Int).toNat * 1) fun v =>
                    UnI v .u8 fun x26 =>
                    IxS x8a x8l 0 2 fun x28b x28o =>
                    0 ≤ (1 : Int) ∧ (1 : Int) < (2 : Nat) ∧ (
                      LdV m4 x28b (x28o + (1 : Int).toNat * 1) fun v =>
                      UnI v .u8 fun x30 =>
                      k1  x8a x8l x8c (x26 == x30) R m4))) (
                  k1  x8a x8l x8c false R m4)))) (panicR R)))) (panicR R))
noncomputable def e0A (R : Ending → Mem → Prop) : ACode := (.seq (.code (sL (body))) (.seq (.code (sL (sR (body)))) (.seq (.block 0 (.seq (.code (sL (bB (sL (sR (sR (body))))))) (.cond (.tmp 9) (.code (cT (sR (bB (sL (sR (sR (body)))))))) (.seq (.code (sL (cE (sR (bB (sL (sR (sR (body))))))))) (.cond (.tmp 13) (.code (cT (sR (cE (sR (bB (sL (sR (sR (body)))))))))) (.seq (.code (sL (cE (sR (cE (sR (bB (sL (sR (sR (body))))))))))) (.cut (k1E fun l_3a l_3l l_3c x18 m => k1  l_3a l_3l l_3c x18 R m) (sR (cE (sR (cE (sR (bB (sL (sR (sR (body))))))))))))))))) (.cut (k2E fun l_3a l_3l l_3c m => k2  l_3a l_3l l_3c R m) (sR (sR (sR (body))))))))
theorem l3_eq  (K3 : ByteArray → Option Addr → Nat → Nat → Int → Int → Mem → Prop) (R : Ending → Mem → Prop) (out_4 : ByteArray) (x38a : Option Addr) (x38l : Nat) (x38c : Nat) (x39 : Int) (x40 : Int) (ρ : Env) (m : Mem) : l3B  K3 out_4 x38a x38l x38c x39 x40 R m = acpt P od (panicR R) (l3A  K3 R) (thenQ (l3E K3) (blockQ 1 (thenQ (acpt P od (panicR R) (.code (sR (sR (sR (sR (sR (body))))))) (bodyQ P fn R)) (bodyQ P fn R)))) (upd (upd (upd (upd ρ 40 (.int .i64 x40)) 39 (.int .i64 x39)) 38 (.slice x38a x38l x38c)) 4 (.string out_4)) m := by kernel_rfl
theorem l3_er  (K3 : ByteArray → Option Addr → Nat → Nat → Int → Int → Mem → Prop) (R : Ending → Mem → Prop) : (l3A  K3 R).erase = lP (bB (sR (sL (sR (sR (sR (sR (body)))))))) := by kernel_rfl
theorem l3_ok  (R : Ending → Mem → Prop) (ρ : Env) (m : Mem) (h : (l3E fun out_4 x38a x38l x38c x39 x40 m => l3  out_4 x38a x38l x38c x39 x40 R m) ρ m) : cpt P od (panicR R) (.loop (lP (bB (sR (sL (sR (sR (sR (sR (body)))))))))) (blockQ 1 (thenQ (acpt P od (panicR R) (.code (sR (sR (sR (sR (sR (body))))))) (bodyQ P fn R)) (bodyQ P fn R))) ρ m := by
  unfold l3E at h
  obtain ⟨out_4, e4, h⟩ := h.ex
  obtain ⟨x38a, x38l, x38c, e38, h⟩ := h.ex
  obtain ⟨x39, e39, h⟩ := h.ex
  obtain ⟨x40, e40, h⟩ := h.ex
  obtain ⟨I, N, h0, hs⟩ := h
  refine ⟨fun N => l3E (I N), N, (by show l3E (I N) ρ m; unfold l3E; rw [e4, e38, e39, e40]; exact h0), ?_⟩
  clear h0 e4 e38 e39 e40
  intro N ρ m h
  unfold l3E at h
  obtain ⟨out_4, e4, h⟩ := h.ex
  obtain ⟨x38a, x38l, x38c, e38, h⟩ := h.ex
  obtain ⟨x39, e39, h⟩ := h.ex
  obtain ⟨x40, e40, h⟩ := h.ex
  refine cpt_mono (P := P) (lP (bB (sR (sL (sR (sR (sR (sR (body))))))))) (Q := thenQ (l3E fun out_4 x38a x38l x38c x39 x40 m => ∃ N1, N1 < N ∧ I N1 out_4 x38a x38l x38c x39 x40 m) (blockQ 1 (thenQ (acpt P od (panicR R) (.code (sR (sR (sR (sR (sR (body))))))) (bodyQ P fn R)) (bodyQ P fn R)))) (fun e ρ m h => ?_) ρ m ?_
  · cases e with
    | normal =>
      have h : l3E (fun out_4 x38a x38l x38c x39 x40 m => ∃ N1, N1 < N ∧ I N1 out_4 x38a x38l x38c x39 x40 m) ρ m := h
      unfold l3E at h
      obtain ⟨out_4, e4, h⟩ := h.ex
      obtain ⟨x38a, x38l, x38c, e38, h⟩ := h.ex
      obtain ⟨x39, e39, h⟩ := h.ex
      obtain ⟨x40, e40, h⟩ := h.ex
      obtain ⟨N1, hlt, h⟩ := h
      exact ⟨N1, hlt, (by show l3E (I N1) ρ m; unfold l3E; rw [e4, e38, e39, e40]; exact h)⟩
    | _ => exact h
  have hh := hs N out_4 x38a x38l x38c x39 x40 m h
  generalize (fun out_4 x38a x38l x38c x39 x40 m => ∃ N1, N1 < N ∧ I N1 out_4 x38a x38l x38c x39 x40 m : ByteArray → Option Addr → Nat → Nat → Int → Int → Mem → Prop) = K3 at hh ⊢
  rw [← upd_self e4, ← upd_self e38, ← upd_self e39, ← upd_self e40]
  rw [← l3_er  K3 R]
  refine acpt_sound (P := P) (l3A  K3 R) _ _ _ True.intro ?_
  exact Eq.mp (l3_eq  K3 R out_4 x38a x38l x38c x39 x40 ρ m) hh
theorem k2_eq  (R : Ending → Mem → Prop) (l_3a : Option Addr) (l_3l : Nat) (l_3c : Nat) (ρ : Env) (m : Mem) : k2  l_3a l_3l l_3c R m = acpt P od (panicR R) (k2A  R) (bodyQ P fn R) (upd ρ 3 (.slice l_3a l_3l l_3c)) m := by kernel_rfl
theorem k2_er  (R : Ending → Mem → Prop) : (k2A  R).erase = sR (sR (sR (body))) := by kernel_rfl
theorem k2_ok  (R : Ending → Mem → Prop) (ρ : Env) (m : Mem) (h : (k2E fun l_3a l_3l l_3c m => k2  l_3a l_3l l_3c R m) ρ m) : cpt P od (panicR R) (sR (sR (sR (body)))) (bodyQ P fn R) ρ m := by
  unfold k2E at h
  obtain ⟨l_3a, l_3l, l_3c, e3, h⟩ := h.ex
  rw [← upd_self e3]
  rw [← k2_er  R]
  refine acpt_sound (P := P) (k2A  R) _ _ _ ⟨⟨True.intro, ⟨(fun ρ m h => l3_ok  R ρ m h), True.intro⟩⟩, True.intro⟩ ?_
  exact Eq.mp (k2_eq  R l_3a l_3l l_3c ρ m) h
theorem k1_eq  (R : Ending → Mem → Prop) (l_3a : Option Addr) (l_3l : Nat) (l_3c : Nat) (x18 : Bool) (ρ : Env) (m : Mem) : k1  l_3a l_3l l_3c x18 R m = acpt P od (panicR R) (k1A  R) (blockQ 0 (thenQ (acpt P od (panicR R) (.cut (k2E fun l_3a l_3l l_3c m => k2  l_3a l_3l l_3c R m) (sR (sR (sR (body))))) (bodyQ P fn R)) (bodyQ P fn R))) (upd (upd ρ 18 (.bool x18)) 3 (.slice l_3a l_3l l_3c)) m := by kernel_rfl
theorem k1_er  (R : Ending → Mem → Prop) : (k1A  R).erase = sR (cE (sR (cE (sR (bB (sL (sR (sR (body))))))))) := by kernel_rfl
theorem k1_ok  (R : Ending → Mem → Prop) (ρ : Env) (m : Mem) (h : (k1E fun l_3a l_3l l_3c x18 m => k1  l_3a l_3l l_3c x18 R m) ρ m) : cpt P od (panicR R) (sR (cE (sR (cE (sR (bB (sL (sR (sR (body)))))))))) (blockQ 0 (thenQ (acpt P od (panicR R) (.cut (k2E fun l_3a l_3l l_3c m => k2  l_3a l_3l l_3c R m) (sR (sR (sR (body))))) (bodyQ P fn R)) (bodyQ P fn R))) ρ m := by
  unfold k1E at h
  obtain ⟨l_3a, l_3l, l_3c, e3, h⟩ := h.ex
  obtain ⟨x18, e18, h⟩ := h.ex
  rw [← upd_self e3, ← upd_self e18]
  rw [← k1_er  R]
  refine acpt_sound (P := P) (k1A  R) _ _ _ True.intro ?_
  exact Eq.mp (k1_eq  R l_3a l_3l l_3c x18 ρ m) h
theorem e0_eq (s_0_0 : Int) (s_0_1 : Int) (s_0_2 : Int) (s_0_3 : Int) (R : Ending → Mem → Prop) (m : Mem) : e0 s_0_0 s_0_1 s_0_2 s_0_3 R m = acpt P od (panicR R) (e0A R) (bodyQ P fn R) (argE (#[.agg #[.int .u64 s_0_0, .int .u64 s_0_1, .int .u64 s_0_2, .int .u64 s_0_3]] : Array Value).toList) m := by kernel_rfl
theorem ok (s_0_0 : Int) (s_0_1 : Int) (s_0_2 : Int) (s_0_3 : Int) (R : Ending → Mem → Prop) (m : Mem) (h : e0 s_0_0 s_0_1 s_0_2 s_0_3 R m) : HC P id #[.agg #[.int .u64 s_0_0, .int .u64 s_0_1, .int .u64 s_0_2, .int .u64 s_0_3]] m R := by
  refine HC_of (fn := fn) (c := body) (od := od) (tb := tb) Go.Proofs.Tryd.func14 (by kernel_rfl) (by kernel_rfl) follows (by kernel_rfl) (of_decide_eq_true (by kernel_rfl)) ?_
  have he : (e0A R).erase = body := by kernel_rfl
  rw [← he]
  refine acpt_sound (P := P) (e0A R) _ _ _ ⟨⟨⟨(fun ρ m h => k2_ok  R ρ m h), ⟨⟨True.intro, ⟨⟨True.intro, ⟨(fun ρ m h => k1_ok  R ρ m h), True.intro⟩⟩, True.intro⟩⟩, True.intro⟩⟩, True.intro⟩, True.intro⟩ ?_
  exact Eq.mp (e0_eq s_0_0 s_0_1 s_0_2 s_0_3 R m) h
end class_Show

/-! ### eyot/eyotlaw8.sign -/
namespace eyotlaw8_sign
noncomputable def fn : Func := Go.Proofs.Tryd.f15
noncomputable def body : Code := fn.body.getD .skip
def od : Nat → Ord := fun | 1 => ordL [(0, 3), (1, 3), (2, 3), (3, 3), (4, 3), (5, 3), (6, 3), (7, 3), (8, 2), (9, 2), (10, 3)] .done | _ => .done
def tb : Nat → Tab := fun | 1 => (768, [0, 0, 2, 7, 0, 0, 32, 112, 255, 511, 1023], [(0, 2, 6), (0, 1, 7), (2, 64, 8), (5, 160, 9), (0, 2, 10), (0, 1, 11), (32, 1024, 12), (80, 2560, 13), (136, 4352, 14), (256, 8192, 15), (1023, 16384, 5)]) | _ => (0, [], [])
def e0 (a_0 : Int) (digits_1 : ByteArray) (R : Ending → Mem → Prop) (m : Mem) : Prop :=
  Sub m fun r1 =>
  IxB digits_1 (IntKind.u8.wrap (Int.tdiv a_0 16)) fun x8 =>
  IxB digits_1 (Int.tmod a_0 16) fun x12 =>
  NewC m #[.int .u8 92, .int .u8 120, .int .u8 x8, .int .u8 x12] T_uint8 fun b13 m2 =>
  B2S m2 (some ⟨b13, 0, none⟩) 4 fun s14 =>
  R (.returned (.string s14)) m2
noncomputable def e0A (R : Ending → Mem → Prop) : ACode := (.code (body))
theorem e0_eq (a_0 : Int) (digits_1 : ByteArray) (R : Ending → Mem → Prop) (m : Mem) : e0 a_0 digits_1 R m = acpt P od (panicR R) (e0A R) (bodyQ P fn R) (argE (#[.int .u8 a_0, .string digits_1] : Array Value).toList) m := by kernel_rfl
theorem ok (a_0 : Int) (digits_1 : ByteArray) (R : Ending → Mem → Prop) (m : Mem) (h : e0 a_0 digits_1 R m) : HC P id #[.int .u8 a_0, .string digits_1] m R := by
  refine HC_of (fn := fn) (c := body) (od := od) (tb := tb) Go.Proofs.Tryd.func15 (by kernel_rfl) (by kernel_rfl) follows (by kernel_rfl) (of_decide_eq_true (by kernel_rfl)) ?_
  have he : (e0A R).erase = body := by kernel_rfl
  rw [← he]
  refine acpt_sound (P := P) (e0A R) _ _ _ True.intro ?_
  exact Eq.mp (e0_eq a_0 digits_1 R m) h
end eyotlaw8_sign

/-! ### eyot/class.Or -/
namespace class_Or
noncomputable def fn : Func := Go.Proofs.Tryd.f16
noncomputable def body : Code := fn.body.getD .skip
def od : Nat → Ord := fun _ => .done
def tb : Nat → Tab := fun _ => (0, [], [])
def e0 (a_0_0 : Int) (a_0_1 : Int) (a_0_2 : Int) (a_0_3 : Int) (b_1_0 : Int) (b_1_1 : Int) (b_1_2 : Int) (b_1_3 : Int) (R : Ending → Mem → Prop) (m : Mem) : Prop :=
  NewC m #[.int .u64 a_0_0, .int .u64 a_0_1, .int .u64 a_0_2, .int .u64 a_0_3] T_api_Set fun b_a_2 m1 =>
  NewC m1 #[.int .u64 b_1_0, .int .u64 b_1_1, .int .u64 b_1_2, .int .u64 b_1_3] T_api_Set fun b_3 m2 =>
  NewC m2 #[.int .u64 0, .int .u64 0, .int .u64 0, .int .u64 0] T_api_Set fun b4 m3 =>
  LdV m3 b_a_2 0 fun v =>
  UnI v .u64 fun x5_0 =>
  LdV m3 b_a_2 1 fun v =>
  UnI v .u64 fun x5_1 =>
  LdV m3 b_a_2 2 fun v =>
  UnI v .u64 fun x5_2 =>
  LdV m3 b_a_2 3 fun v =>
  UnI v .u64 fun x5_3 =>
  LdV m3 b_3 0 fun v =>
  UnI v .u64 fun x6_0 =>
  LdV m3 b_3 1 fun v =>
  UnI v .u64 fun x6_1 =>
  LdV m3 b_3 2 fun v =>
  UnI v .u64 fun x6_2 =>
  LdV m3 b_3 3 fun v =>
  UnI v .u64 fun x6_3 =>
  HC P class_with.id #[.agg #[.int .u64 x5_0, .int .u64 x5_1, .int .u64 x5_2, .int .u64 x5_3], .agg #[.int .u64 x6_0, .int .u64 x6_1, .int .u64 x6_2, .int .u64 x6_3], .func (.func class_Or_1.id) #[] #[]] m3 (Cont (fun v m4 =>
      UnAgg v fun l =>
      UnCons l fun v l =>
      UnI v .u64 fun x7_0 =>
      UnCons l fun v l =>
      UnI v .u64 fun x7_1 =>
      UnCons l fun v l =>
      UnI v .u64 fun x7_2 =>
      UnCons l fun v l =>
      UnI v .u64 fun x7_3 =>
      UnNil l (
        St1 m4 b4 0 (.int .u64 x7_0) fun m5 =>
        St1 m5 b4 1 (.int .u64 x7_1) fun m6 =>
        St1 m6 b4 2 (.int .u64 x7_2) fun m7 =>
        St1 m7 b4 3 (.int .u64 x7_3) fun m8 =>
        LdV m8 b4 0 fun v =>
        UnI v .u64 fun res0_0 =>
        LdV m8 b4 1 fun v =>
        UnI v .u64 fun res0_1 =>
        LdV m8 b4 2 fun v =>
        UnI v .u64 fun res0_2 =>
        LdV m8 b4 3 fun v =>
        UnI v .u64 fun res0_3 =>
        R (.returned (.agg #[.int .u64 res0_0, .int .u64 res0_1, .int .u64 res0_2, .int .u64 res0_3])) m8)) (panicR R))
noncomputable def e0A (R : Ending → Mem → Prop) : ACode := (.code (body))
theorem e0_eq (a_0_0 : Int) (a_0_1 : Int) (a_0_2 : Int) (a_0_3 : Int) (b_1_0 : Int) (b_1_1 : Int) (b_1_2 : Int) (b_1_3 : Int) (R : Ending → Mem → Prop) (m : Mem) : e0 a_0_0 a_0_1 a_0_2 a_0_3 b_1_0 b_1_1 b_1_2 b_1_3 R m = acpt P od (panicR R) (e0A R) (bodyQ P fn R) (argE (#[.agg #[.int .u64 a_0_0, .int .u64 a_0_1, .int .u64 a_0_2, .int .u64 a_0_3], .agg #[.int .u64 b_1_0, .int .u64 b_1_1, .int .u64 b_1_2, .int .u64 b_1_3]] : Array Value).toList) m := by kernel_rfl
theorem ok (a_0_0 : Int) (a_0_1 : Int) (a_0_2 : Int) (a_0_3 : Int) (b_1_0 : Int) (b_1_1 : Int) (b_1_2 : Int) (b_1_3 : Int) (R : Ending → Mem → Prop) (m : Mem) (h : e0 a_0_0 a_0_1 a_0_2 a_0_3 b_1_0 b_1_1 b_1_2 b_1_3 R m) : HC P id #[.agg #[.int .u64 a_0_0, .int .u64 a_0_1, .int .u64 a_0_2, .int .u64 a_0_3], .agg #[.int .u64 b_1_0, .int .u64 b_1_1, .int .u64 b_1_2, .int .u64 b_1_3]] m R := by
  refine HC_of (fn := fn) (c := body) (od := od) (tb := tb) Go.Proofs.Tryd.func16 (by kernel_rfl) (by kernel_rfl) follows (by kernel_rfl) (of_decide_eq_true (by kernel_rfl)) ?_
  have he : (e0A R).erase = body := by kernel_rfl
  rw [← he]
  refine acpt_sound (P := P) (e0A R) _ _ _ True.intro ?_
  exact Eq.mp (e0_eq a_0_0 a_0_1 a_0_2 a_0_3 b_1_0 b_1_1 b_1_2 b_1_3 R m) h
end class_Or

/-! ### eyot/class.Of -/
namespace class_Of
noncomputable def fn : Func := Go.Proofs.Tryd.f17
noncomputable def body : Code := fn.body.getD .skip
def od : Nat → Ord := fun _ => .done
def tb : Nat → Tab := fun _ => (0, [], [])
def l1E (K : Nat → Nat → Nat → Nat → Option Addr → Nat → Nat → Int → Int → Mem → Prop) : Env → Mem → Prop := fun ρ m => UnPA (ρ 2) fun x2b x2o => UnPA (ρ 3) fun s_3b s_3o => UnS (ρ 6) fun x6a x6l x6c => UnI (ρ 7) .i64 fun x7 => UnI (ρ 8) .i64 fun x8 => K x2b x2o s_3b s_3o x6a x6l x6c x7 x8 m
def l1B  (K1 : Nat → Nat → Nat → Nat → Option Addr → Nat → Nat → Int → Int → Mem → Prop) (x2b : Nat) (x2o : Nat) (s_3b : Nat) (s_3o : Nat) (x6a : Option Addr) (x6l : Nat) (x6c : Nat) (x7 : Int) (x8 : Int) (R : Ending → Mem → Prop) (m : Mem) : Prop :=
  Br (decide (x8 < x7)) (
    IxS x6a x6l x8 1 fun x10b x10o =>
    LdV m x10b x10o fun v =>
    UnI v .u8 fun x11 =>
    0 ≤ (IntKind.u8.wrap (Int.tdiv x11 64) : Int) ∧ (IntKind.u8.wrap (Int.tdiv x11 64) : Int) < (4 : Nat) ∧ (
      LdV m s_3b (s_3o + (IntKind.u8.wrap (Int.tdiv x11 64) : Int).toNat * 1) fun v =>
      UnI v .u64 fun x15 =>
      NnI (Int.tmod x11 64) (
        0 ≤ (IntKind.u8.wrap (Int.tdiv x11 64) : Int) ∧ (IntKind.u8.wrap (Int.tdiv x11 64) : Int) < (4 : Nat) ∧ (
          St1 m s_3b (s_3o + (IntKind.u8.wrap (Int.tdiv x11 64) : Int).toNat * 1) (.int .u64 (bitsV .or .u64 x15 (shlV .u64 1 (Int.tmod x11 64)))) fun m1 =>
          K1 x2b x2o s_3b s_3o x6a x6l x6c x7 (IntKind.i64.wrap (x8 + 1)) m1)))) (
    LdV m s_3b s_3o fun v =>
    UnI v .u64 fun x22_0 =>
    LdV m s_3b (s_3o + 1) fun v =>
    UnI v .u64 fun x22_1 =>
    LdV m s_3b (s_3o + 2) fun v =>
    UnI v .u64 fun x22_2 =>
    LdV m s_3b (s_3o + 3) fun v =>
    UnI v .u64 fun x22_3 =>
    St1 m x2b x2o (.int .u64 x22_0) fun m1 =>
    St1 m1 x2b (x2o + 1) (.int .u64 x22_1) fun m2 =>
    St1 m2 x2b (x2o + 2) (.int .u64 x22_2) fun m3 =>
    St1 m3 x2b (x2o + 3) (.int .u64 x22_3) fun m4 =>
    LdV m4 x2b x2o fun v =>
    UnI v .u64 fun res0_0 =>
    LdV m4 x2b (x2o + 1) fun v =>
    UnI v .u64 fun res0_1 =>
    LdV m4 x2b (x2o + 2) fun v =>
    UnI v .u64 fun res0_2 =>
    LdV m4 x2b (x2o + 3) fun v =>
    UnI v .u64 fun res0_3 =>
    R (.returned (.agg #[.int .u64 res0_0, .int .u64 res0_1, .int .u64 res0_2, .int .u64 res0_3])) m4)
def l1  (x2b : Nat) (x2o : Nat) (s_3b : Nat) (s_3o : Nat) (x6a : Option Addr) (x6l : Nat) (x6c : Nat) (x7 : Int) (x8 : Int) (R : Ending → Mem → Prop) (m : Mem) : Prop :=
  ∃ (I : Nat → Nat → Nat → Nat → Nat → Option Addr → Nat → Nat → Int → Int → Mem → Prop) (N : Nat), I N x2b x2o s_3b s_3o x6a x6l x6c x7 x8 m ∧ ∀ N x2b x2o s_3b s_3o x6a x6l x6c x7 x8 m, I N x2b x2o s_3b s_3o x6a x6l x6c x7 x8 m → l1B  (fun x2b x2o s_3b s_3o x6a x6l x6c x7 x8 m => ∃ N1, N1 < N ∧ I N1 x2b x2o s_3b s_3o x6a x6l x6c x7 x8 m) x2b x2o s_3b s_3o x6a x6l x6c x7 x8 R m
noncomputable def l1A  (K1 : Nat → Nat → Nat → Nat → Option Addr → Nat → Nat → Int → Int → Mem → Prop) (R : Ending → Mem → Prop) : ACode := (.code (lP (bB (sR (sL (sR (sR (body))))))))
def e0 (l_0a : Option Addr) (l_0l : Nat) (l_0c : Nat) (R : Ending → Mem → Prop) (m : Mem) : Prop :=
  NewC m #[.int .u64 0, .int .u64 0, .int .u64 0, .int .u64 0] T_api_Set fun b2 m1 =>
  NewC m1 #[.int .u64 0, .int .u64 0, .int .u64 0, .int .u64 0] T_api_Set fun b_s_3 m2 =>
  l1  b2 0 b_s_3 0 l_0a l_0l l_0c ((l_0l : Nat) : Int) 0 R m2
noncomputable def e0A (R : Ending → Mem → Prop) : ACode := (.seq (.code (sL (body))) (.seq (.code (sL (sR (body)))) (.seq (.seq (.code (sL (sL (sR (sR (body)))))) (.block 0 (.cut (l1E fun x2b x2o s_3b s_3o x6a x6l x6c x7 x8 m => l1  x2b x2o s_3b s_3o x6a x6l x6c x7 x8 R m) (.loop (lP (bB (sR (sL (sR (sR (body))))))))))) (.code (sR (sR (sR (body))))))))
theorem l1_eq  (K1 : Nat → Nat → Nat → Nat → Option Addr → Nat → Nat → Int → Int → Mem → Prop) (R : Ending → Mem → Prop) (x2b : Nat) (x2o : Nat) (s_3b : Nat) (s_3o : Nat) (x6a : Option Addr) (x6l : Nat) (x6c : Nat) (x7 : Int) (x8 : Int) (ρ : Env) (m : Mem) : l1B  K1 x2b x2o s_3b s_3o x6a x6l x6c x7 x8 R m = acpt P od (panicR R) (l1A  K1 R) (thenQ (l1E K1) (blockQ 0 (thenQ (acpt P od (panicR R) (.code (sR (sR (sR (body))))) (bodyQ P fn R)) (bodyQ P fn R)))) (upd (upd (upd (upd (upd ρ 8 (.int .i64 x8)) 7 (.int .i64 x7)) 6 (.slice x6a x6l x6c)) 3 (.pointer (some ⟨s_3b, s_3o, none⟩))) 2 (.pointer (some ⟨x2b, x2o, none⟩))) m := by kernel_rfl
theorem l1_er  (K1 : Nat → Nat → Nat → Nat → Option Addr → Nat → Nat → Int → Int → Mem → Prop) (R : Ending → Mem → Prop) : (l1A  K1 R).erase = lP (bB (sR (sL (sR (sR (body)))))) := by kernel_rfl
theorem l1_ok  (R : Ending → Mem → Prop) (ρ : Env) (m : Mem) (h : (l1E fun x2b x2o s_3b s_3o x6a x6l x6c x7 x8 m => l1  x2b x2o s_3b s_3o x6a x6l x6c x7 x8 R m) ρ m) : cpt P od (panicR R) (.loop (lP (bB (sR (sL (sR (sR (body)))))))) (blockQ 0 (thenQ (acpt P od (panicR R) (.code (sR (sR (sR (body))))) (bodyQ P fn R)) (bodyQ P fn R))) ρ m := by
  unfold l1E at h
  obtain ⟨x2b, x2o, e2, h⟩ := h.ex
  obtain ⟨s_3b, s_3o, e3, h⟩ := h.ex
  obtain ⟨x6a, x6l, x6c, e6, h⟩ := h.ex
  obtain ⟨x7, e7, h⟩ := h.ex
  obtain ⟨x8, e8, h⟩ := h.ex
  obtain ⟨I, N, h0, hs⟩ := h
  refine ⟨fun N => l1E (I N), N, (by show l1E (I N) ρ m; unfold l1E; rw [e2, e3, e6, e7, e8]; exact h0), ?_⟩
  clear h0 e2 e3 e6 e7 e8
  intro N ρ m h
  unfold l1E at h
  obtain ⟨x2b, x2o, e2, h⟩ := h.ex
  obtain ⟨s_3b, s_3o, e3, h⟩ := h.ex
  obtain ⟨x6a, x6l, x6c, e6, h⟩ := h.ex
  obtain ⟨x7, e7, h⟩ := h.ex
  obtain ⟨x8, e8, h⟩ := h.ex
  refine cpt_mono (P := P) (lP (bB (sR (sL (sR (sR (body))))))) (Q := thenQ (l1E fun x2b x2o s_3b s_3o x6a x6l x6c x7 x8 m => ∃ N1, N1 < N ∧ I N1 x2b x2o s_3b s_3o x6a x6l x6c x7 x8 m) (blockQ 0 (thenQ (acpt P od (panicR R) (.code (sR (sR (sR (body))))) (bodyQ P fn R)) (bodyQ P fn R)))) (fun e ρ m h => ?_) ρ m ?_
  · cases e with
    | normal =>
      have h : l1E (fun x2b x2o s_3b s_3o x6a x6l x6c x7 x8 m => ∃ N1, N1 < N ∧ I N1 x2b x2o s_3b s_3o x6a x6l x6c x7 x8 m) ρ m := h
      unfold l1E at h
      obtain ⟨x2b, x2o, e2, h⟩ := h.ex
      obtain ⟨s_3b, s_3o, e3, h⟩ := h.ex
      obtain ⟨x6a, x6l, x6c, e6, h⟩ := h.ex
      obtain ⟨x7, e7, h⟩ := h.ex
      obtain ⟨x8, e8, h⟩ := h.ex
      obtain ⟨N1, hlt, h⟩ := h
      exact ⟨N1, hlt, (by show l1E (I N1) ρ m; unfold l1E; rw [e2, e3, e6, e7, e8]; exact h)⟩
    | _ => exact h
  have hh := hs N x2b x2o s_3b s_3o x6a x6l x6c x7 x8 m h
  generalize (fun x2b x2o s_3b s_3o x6a x6l x6c x7 x8 m => ∃ N1, N1 < N ∧ I N1 x2b x2o s_3b s_3o x6a x6l x6c x7 x8 m : Nat → Nat → Nat → Nat → Option Addr → Nat → Nat → Int → Int → Mem → Prop) = K1 at hh ⊢
  rw [← upd_self e2, ← upd_self e3, ← upd_self e6, ← upd_self e7, ← upd_self e8]
  rw [← l1_er  K1 R]
  refine acpt_sound (P := P) (l1A  K1 R) _ _ _ True.intro ?_
  exact Eq.mp (l1_eq  K1 R x2b x2o s_3b s_3o x6a x6l x6c x7 x8 ρ m) hh
theorem e0_eq (l_0a : Option Addr) (l_0l : Nat) (l_0c : Nat) (R : Ending → Mem → Prop) (m : Mem) : e0 l_0a l_0l l_0c R m = acpt P od (panicR R) (e0A R) (bodyQ P fn R) (argE (#[.slice l_0a l_0l l_0c] : Array Value).toList) m := by kernel_rfl
theorem ok (l_0a : Option Addr) (l_0l : Nat) (l_0c : Nat) (R : Ending → Mem → Prop) (m : Mem) (h : e0 l_0a l_0l l_0c R m) : HC P id #[.slice l_0a l_0l l_0c] m R := by
  refine HC_of (fn := fn) (c := body) (od := od) (tb := tb) Go.Proofs.Tryd.func17 (by kernel_rfl) (by kernel_rfl) follows (by kernel_rfl) (of_decide_eq_true (by kernel_rfl)) ?_
  have he : (e0A R).erase = body := by kernel_rfl
  rw [← he]
  refine acpt_sound (P := P) (e0A R) _ _ _ ⟨⟨⟨True.intro, ⟨(fun ρ m h => l1_ok  R ρ m h), True.intro⟩⟩, True.intro⟩, True.intro⟩ ?_
  exact Eq.mp (e0_eq l_0a l_0l l_0c R m) h
end class_Of

/-! ### eyot/class.Not -/
namespace class_Not
noncomputable def fn : Func := Go.Proofs.Tryd.f18
noncomputable def body : Code := fn.body.getD .skip
def od : Nat → Ord := fun _ => .done
def tb : Nat → Tab := fun _ => (0, [], [])
def e0 (a_0_0 : Int) (a_0_1 : Int) (a_0_2 : Int) (a_0_3 : Int) (R : Ending → Mem → Prop) (m : Mem) : Prop :=
  NewC m #[.int .u64 a_0_0, .int .u64 a_0_1, .int .u64 a_0_2, .int .u64 a_0_3] T_api_Set fun b_a_1 m1 =>
  NewC m1 #[.int .u64 0, .int .u64 0, .int .u64 0, .int .u64 0] T_api_Set fun b2 m2 =>
  LdV m2 b_a_1 0 fun v =>
  UnI v .u64 fun x3_0 =>
  LdV m2 b_a_1 1 fun v =>
  UnI v .u64 fun x3_1 =>
  LdV m2 b_a_1 2 fun v =>
  UnI v .u64 fun x3_2 =>
  LdV m2 b_a_1 3 fun v =>
  UnI v .u64 fun x3_3 =>
  LdV m2 b_a_1 0 fun v =>
  UnI v .u64 fun x4_0 =>
  LdV m2 b_a_1 1 fun v =>
  UnI v .u64 fun x4_1 =>
  LdV m2 b_a_1 2 fun v =>
  UnI v .u64 fun x4_2 =>
  LdV m2 b_a_1 3 fun v =>
  UnI v .u64 fun x4_3 =>
  HC P class_with.id #[.agg #[.int .u64 x3_0, .int .u64 x3_1, .int .u64 x3_2, .int .u64 x3_3], .agg #[.int .u64 x4_0, .int .u64 x4_1, .int .u64 x4_2, .int .u64 x4_3], .func (.func class_Not_1.id) #[] #[]] m2 (Cont (fun v m3 =>
      UnAgg v fun l =>
      UnCons l fun v l =>
      UnI v .u64 fun x5_0 =>
      UnCons l fun v l =>
      UnI v .u64 fun x5_1 =>
      UnCons l fun v l =>
      UnI v .u64 fun x5_2 =>
      UnCons l fun v l =>
      UnI v .u64 fun x5_3 =>
      UnNil l (
        St1 m3 b2 0 (.int .u64 x5_0) fun m4 =>
        St1 m4 b2 1 (.int .u64 x5_1) fun m5 =>
        St1 m5 b2 2 (.int .u64 x5_2) fun m6 =>
        St1 m6 b2 3 (.int .u64 x5_3) fun m7 =>
        LdV m7 b2 0 fun v =>
        UnI v .u64 fun res0_0 =>
        LdV m7 b2 1 fun v =>
        UnI v .u64 fun res0_1 =>
        LdV m7 b2 2 fun v =>
        UnI v .u64 fun res0_2 =>
        LdV m7 b2 3 fun v =>
        UnI v .u64 fun res0_3 =>
        R (.returned (.agg #[.int .u64 res0_0, .int .u64 res0_1, .int .u64 res0_2, .int .u64 res0_3])) m7)) (panicR R))
noncomputable def e0A (R : Ending → Mem → Prop) : ACode := (.code (body))
theorem e0_eq (a_0_0 : Int) (a_0_1 : Int) (a_0_2 : Int) (a_0_3 : Int) (R : Ending → Mem → Prop) (m : Mem) : e0 a_0_0 a_0_1 a_0_2 a_0_3 R m = acpt P od (panicR R) (e0A R) (bodyQ P fn R) (argE (#[.agg #[.int .u64 a_0_0, .int .u64 a_0_1, .int .u64 a_0_2, .int .u64 a_0_3]] : Array Value).toList) m := by kernel_rfl
theorem ok (a_0_0 : Int) (a_0_1 : Int) (a_0_2 : Int) (a_0_3 : Int) (R : Ending → Mem → Prop) (m : Mem) (h : e0 a_0_0 a_0_1 a_0_2 a_0_3 R m) : HC P id #[.agg #[.int .u64 a_0_0, .int .u64 a_0_1, .int .u64 a_0_2, .int .u64 a_0_3]] m R := by
  refine HC_of (fn := fn) (c := body) (od := od) (tb := tb) Go.Proofs.Tryd.func18 (by kernel_rfl) (by kernel_rfl) follows (by kernel_rfl) (of_decide_eq_true (by kernel_rfl)) ?_
  have he : (e0A R).erase = body := by kernel_rfl
  rw [← he]
  refine acpt_sound (P := P) (e0A R) _ _ _ True.intro ?_
  exact Eq.mp (e0_eq a_0_0 a_0_1 a_0_2 a_0_3 R m) h
end class_Not

/-! ### eyot/eyotref8.ShowClass -/
namespace eyotref8_ShowClass
noncomputable def fn : Func := Go.Proofs.Tryd.f19
noncomputable def body : Code := fn.body.getD .skip
def od : Nat → Ord := fun | 13 => ordL [(0, 3), (1, 3), (2, 3), (3, 3), (4, 3), (5, 3), (6, 3), (7, 3), (8, 3), (9, 3), (10, 1), (11, 3), (12, 3), (13, 3), (14, 0), (15, 3), (16, 3), (17, 3)] .done | _ => .done
def tb : Nat → Tab := fun | 13 => (0, [0, 1, 0, 4, 15, 31, 63, 63, 191, 511, 1023, 63, 63, 6207, 14399, 30783, 65535, 131071], [(0, 64, 27), (1, 67108864, 28), (0, 8, 29), (4, 268435456, 30), (10, 671088640, 31), (16, 1073741824, 32), (32, 2147483656, 33), (32, 2147483712, 34), (160, 10737418240, 35), (352, 23622320128, 36), (544, 36507222016, 37), (32, 2147483656, 38), (32, 2147483712, 39), (6176, 414464344064, 40), (8224, 551903297536, 41), (16416, 1101659111424, 42), (33824, 2269890215936, 43), (65568, 4400193994752, 44)]) | _ => (0, [], [])
def k4E (K : Option Addr → Nat → Nat → ByteArray → Int → Int → Mem → Prop) : Env → Mem → Prop := fun ρ m => UnS (ρ 3) fun x3a x3l x3c => UnStr (ρ 4) fun x4 => UnI (ρ 5) .i64 fun x5 => UnI (ρ 6) .i64 fun x6 => K x3a x3l x3c x4 x5 x6 m
def k4 (K1 : Option Addr → Nat → Nat → ByteArray → Int → Mem → Prop) (x3a : Option Addr) (x3l : Nat) (x3c : Nat) (x4 : ByteArray) (x5 : Int) (x6 : Int) (R : Ending → Mem → Prop) (m : Mem) : Prop :=
  Br (decide (x6 > x5)) (
    IxS x3a x3l x6 1 fun x65b x65o =>
    LdV m x65b x65o fun v =>
    UnI v .u8 fun x66 =>
    HC P eyotref8_shown.id #[.int .u8 x66] m (Cont (fun v m1 =>
        UnStr v fun x67 =>
        CatB x4 x67 (
          K1 x3a x3l x3c (x4 ++ x67) (IntKind.i64.wrap (x6 + 1)) m1)) (panicR R))) (
    K1 x3a x3l x3c x4 (IntKind.i64.wrap (x6 + 1)) m)
noncomputable def k4A (K1 : Option Addr → Nat → Nat → ByteArray → Int → Mem → Prop) (R : Ending → Mem → Prop) : ACode := (.code (sR (sR (sR (sR (bB (sR (lP (bB (sR (sL (sR (sR (sR (sR (body))))))))))))))))
def k3E (K : Option Addr → Nat → Nat → ByteArray → Int → Int → Mem → Prop) : Env → Mem → Prop := fun ρ m => UnS (ρ 3) fun x3a x3l x3c => UnStr (ρ 4) fun x4 => UnI (ρ 5) .i64 fun x5 => UnI (ρ 6) .i64 fun x6 => K x3a x3l x3c x4 x5 x6 m
def k3 (K1 : Option Addr → Nat → Nat → ByteArray → Int → Mem → Prop) (x3a : Option Addr) (x3l : Nat) (x3c : Nat) (x4 : ByteArray) (x5 : Int) (x6 : Int) (R : Ending → Mem → Prop) (m : Mem) : Prop :=
  IxS x3a x3l x5 1 fun x49b x49o =>
  LdV m x49b x49o fun v =>
  UnI v .u8 fun x50 =>
  HC P eyotref8_shown.id #[.int .u8 x50] m (Cont (fun v m1 =>
      UnStr v fun x51 =>
      CatB x4 x51 (
        Br (decide (x6 > (IntKind.i64.wrap (x5 + 1)))) (
          CatB (x4 ++ x51) (ByteArray.mk #[45]) (
            k4 K1 x3a x3l x3c ((x4 ++ x51) ++ (ByteArray.mk #[45])) x5 x6 R m1)) (
          k4 K1 x3a x3l x3c (x4 ++ x51) x5 x6 R m1))) (panicR R))
noncomputable def k3A (K1 : Option Addr → Nat → Nat → ByteArray → Int → Mem → Prop) (R : Ending → Mem → Prop) : ACode := (.seq (.code (sL (sR (sR (bB (sR (lP (bB (sR (sL (sR (sR (sR (sR (body))))))))))))))) (.seq (.code (sL (sR (sR (sR (bB (sR (lP (bB (sR (sL (sR (sR (sR (sR (body)))))))))))))))) (.cut (k4E fun x3a x3l x3c x4 x5 x6 m => k4 K1 x3a x3l x3c x4 x5 x6 R m) (sR (sR (sR (sR (bB (sR (lP (bB (sR (sL (sR (sR (sR (sR (body))))))))))))))))))
def l2E (K : Option Addr → Nat → Nat → ByteArray → Int → Int → Mem → Prop) : Env → Mem → Prop := fun ρ m => UnS (ρ 3) fun x3a x3l x3c => UnStr (ρ 4) fun x4 => UnI (ρ 5) .i64 fun x5 => UnI (ρ 6) .i64 fun x6 => K x3a x3l x3c x4 x5 x6 m
def l2B (K1 : Option Addr → Nat → Nat → ByteArray → Int → Mem → Prop) (K2 : Option Addr → Nat → Nat → ByteArray → Int → Int → Mem → Prop) (x3a : Option Addr) (x3l : Nat) (x3c : Nat) (x4 : ByteArray) (x5 : Int) (x6 : Int) (R : Ending → Mem → Prop) (m : Mem) : Prop :=
  Sub m fun r1 =>
  Br (decide ((IntKind.i64.wrap (x6 + 1)) < ((x3l : Nat) : Int))) (
    IxS x3a x3l (IntKind.i64.wrap (x6 + 1)) 1 fun x35b x35o =>
    LdV r1 x35b x35o fun v =>
    UnI v .u8 fun x36 =>
    IxS x3a x3l x6 1 fun x39b x39o =>
    LdV m x39b x39o fun v =>
    UnI v .u8 fun x40 =>
    Br (x36 == (IntKind.u8.wrap (x40 + 1))) (
      K2 x3a x3l x3c x4 x5 (IntKind.i64.wrap (x6 + 1)) m) (
      k3 K1 x3a x3l x3c x4 x5 x6 R m)) (
    k3 K1 x3a x3l x3c x4 x5 x6 R m)
def l2 (K1 : Option Addr → Nat → Nat → ByteArray → Int → Mem → Prop) (x3a : Option Addr) (x3l : Nat) (x3c : Nat) (x4 : ByteArray) (x5 : Int) (x6 : Int) (R : Ending → Mem → Prop) (m : Mem) : Prop :=
  ∃ (I : Nat → Option Addr → Nat → Nat → ByteArray → Int → Int → Mem → Prop) (N : Nat), I N x3a x3l x3c x4 x5 x6 m ∧ ∀ N x3a x3l x3c x4 x5 x6 m, I N x3a x3l x3c x4 x5 x6 m → l2B K1 (fun x3a x3l x3c x4 x5 x6 m => ∃ N1, N1 < N ∧ I N1 x3a x3l x3c x4 x5 x6 m) x3a x3l x3c x4 x5 x6 R m
noncomputable def l2A (K1 : Option Addr → Nat → Nat → ByteArray → Int → Mem → Prop) (K2 : Option Addr → Nat → Nat → ByteArray → Int → Int → Mem → Prop) (R : Ending → Mem → Prop) : ACode := (.code (lP (bB (sL (sR (bB (sR (lP (bB (sR (sL (sR (sR (sR (sR (body))))))))))))))))
def l1E (K : Option Addr → Nat → Nat → ByteArray → Int → Mem → Prop) : Env → Mem → Prop := fun ρ m => UnS (ρ 3) fun x3a x3l x3c => UnStr (ρ 4) fun x4 => UnI (ρ 5) .i64 fun x5 => K x3a x3l x3c x4 x5 m
def l1B  (K1 : Option Addr → Nat → Nat → ByteArray → Int → Mem → Prop) (x3a : Option Addr) (x3l : Nat) (x3c : Nat) (x4 : ByteArray) (x5 : Int) (R : Ending → Mem → Prop) (m : Mem) : Prop :=
  Br (decide (x5 < ((x3l : Nat) : Int))) (
    l2 K1 x3a x3l x3c x4 x5 x5 R m) (
    CatB x4 (ByteArray.mk #[93]) (
      R (.returned (.string (x4 ++ (ByteArray.mk #[93])))) m))
def l1  (x3a : Option Addr) (x3l : Nat) (x3c : Nat) (x4 : ByteArray) (x5 : Int) (R : Ending → Mem → Prop) (m : Mem) : Prop :=
  ∃ (I : Nat → Option Addr → Nat → Nat → ByteArray → Int → Mem → Prop) (N : Nat), I N x3a x3l x3c x4 x5 m ∧ ∀ N x3a x3l x3c x4 x5 m, I N x3a x3l x3c x4 x5 m → l1B  (fun x3a x3l x3c x4 x5 m => ∃ N1, N1 < N ∧ I N1 x3a x3l x3c x4 x5 m) x3a x3l x3c x4 x5 R m
noncomputable def l1A  (K1 : Option Addr → Nat → Nat → ByteArray → Int → Mem → Prop) (R : Ending → Mem → Prop) : ACode := (.seq (.code (sL (lP (bB (sR (sL (sR (sR (sR (sR (body))))))))))) (.block 2 (.seq (.code (sL (bB (sR (lP (bB (sR (sL (sR (sR (sR (sR (body))))))))))))) (.seq (.block 3 (.cut (l2E fun x3a x3l x3c x4 x5 x6 m => l2 K1 x3a x3l x3c x4 x5 x6 R m) (.loop (lP (bB (sL (sR (bB (sR (lP (bB (sR (sL (sR (sR (sR (sR (body)))))))))))))))))) (.cut (k3E fun x3a x3l x3c x4 x5 x6 m => k3 K1 x3a x3l x3c x4 x5 x6 R m) (sR (sR (bB (sR (lP (bB (sR (sL (sR (sR (sR (sR (body))))))))))))))))))
def e0 (a0_0 : Int) (a0_1 : Int) (a0_2 : Int) (a0_3 : Int) (R : Ending → Mem → Prop) (m : Mem) : Prop :=
  NewC m #[.int .u64 a0_0, .int .u64 a0_1, .int .u64 a0_2, .int .u64 a0_3] T_api_Set fun b1 m1 =>
  LdV m1 b1 0 fun v =>
  UnI v .u64 fun x7_0 =>
  LdV m1 b1 1 fun v =>
  UnI v .u64 fun x7_1 =>
  LdV m1 b1 2 fun v =>
  UnI v .u64 fun x7_2 =>
  LdV m1 b1 3 fun v =>
  UnI v .u64 fun x7_3 =>
  HC P eyotref8_list.id #[.agg #[.int .u64 x7_0, .int .u64 x7_1, .int .u64 x7_2, .int .u64 x7_3]] m1 (Cont (fun v m2 =>
      UnS v fun x8a x8l x8c =>
      Br (((x8l : Nat) : Int) == 0) (
        R (.returned (.string (ByteArray.mk #[]))) m2) (
        Br (((x8l : Nat) : Int) == 1) (
          IxS x8a x8l 0 1 fun x16b x16o =>
          LdV m2 x16b x16o fun v =>
          UnI v .u8 fun x17 =>
          HC P eyotref8_shown.id #[.int .u8 x17] m2 (Cont (fun v m3 =>
              UnStr v fun x18 =>
              R (.returned (.string x18)) m3) (panicR R))) (
          Br (((x8l : Nat) : Int) == 256) (
            R (.returned (.string (ByteArray.mk #[46]))) m2) (
            l1  x8a x8l x8c (ByteArray.mk #[91]) 0 R m2)))) (panicR R))
noncomputable def e0A (R : Ending → Mem → Prop) : ACode := (.seq (.code (sL (body))) (.seq (.code (sL (sR (body)))) (.seq (.code (sL (sR (sR (body))))) (.seq (.code (sL (sR (sR (sR (body)))))) (.seq (.seq (.code (sL (sL (sR (sR (sR (sR (body)))))))) (.block 1 (.cut (l1E fun x3a x3l x3c x4 x5 m => l1  x3a x3l x3c x4 x5 R m) (.loop (lP (bB (sR (sL (sR (sR (sR (sR (body))))))))))))) (.code (sR (sR (sR (sR (sR (body))))))))))))
theorem k4_eq (K1 : Option Addr → Nat → Nat → ByteArray → Int → Mem → Prop) (R : Ending → Mem → Prop) (x3a : Option Addr) (x3l : Nat) (x3c : Nat) (x4 : ByteArray) (x5 : Int) (x6 : Int) (ρ : Env) (m : Mem) : k4 K1 x3a x3l x3c x4 x5 x6 R m = acpt P od (panicR R) (k4A K1 R) (blockQ 2 (thenQ (l1E K1) (blockQ 1 (thenQ (acpt P od (panicR R) (.code (sR (sR (sR (sR (sR (body))))))) (bodyQ P fn R)) (bodyQ P fn R))))) (upd (upd (upd (upd ρ 6 (.int .i64 x6)) 5 (.int .i64 x5)) 4 (.string x4)) 3 (.slice x3a x3l x3c)) m := by kernel_rfl
theorem k4_er (K1 : Option Addr → Nat → Nat → ByteArray → Int → Mem → Prop) (R : Ending → Mem → Prop) : (k4A K1 R).erase = sR (sR (sR (sR (bB (sR (lP (bB (sR (sL (sR (sR (sR (sR (body)))))))))))))) := by kernel_rfl
theorem k4_ok (K1 : Option Addr → Nat → Nat → ByteArray → Int → Mem → Prop) (R : Ending → Mem → Prop) (ρ : Env) (m : Mem) (h : (k4E fun x3a x3l x3c x4 x5 x6 m => k4 K1 x3a x3l x3c x4 x5 x6 R m) ρ m) : cpt P od (panicR R) (sR (sR (sR (sR (bB (sR (lP (bB (sR (sL (sR (sR (sR (sR (body))))))))))))))) (blockQ 2 (thenQ (l1E K1) (blockQ 1 (thenQ (acpt P od (panicR R) (.code (sR (sR (sR (sR (sR (body))))))) (bodyQ P fn R)) (bodyQ P fn R))))) ρ m := by
  unfold k4E at h
  obtain ⟨x3a, x3l, x3c, e3, h⟩ := h.ex
  obtain ⟨x4, e4, h⟩ := h.ex
  obtain ⟨x5, e5, h⟩ := h.ex
  obtain ⟨x6, e6, h⟩ := h.ex
  rw [← upd_self e3, ← upd_self e4, ← upd_self e5, ← upd_self e6]
  rw [← k4_er K1 R]
  refine acpt_sound (P := P) (k4A K1 R) _ _ _ True.intro ?_
  exact Eq.mp (k4_eq K1 R x3a x3l x3c x4 x5 x6 ρ m) h
theorem k3_eq (K1 : Option Addr → Nat → Nat → ByteArray → Int → Mem → Prop) (R : Ending → Mem → Prop) (x3a : Option Addr) (x3l : Nat) (x3c : Nat) (x4 : ByteArray) (x5 : Int) (x6 : Int) (ρ : Env) (m : Mem) : k3 K1 x3a x3l x3c x4 x5 x6 R m = acpt P od (panicR R) (k3A K1 R) (blockQ 2 (thenQ (l1E K1) (blockQ 1 (thenQ (acpt P od (panicR R) (.code (sR (sR (sR (sR (sR (body))))))) (bodyQ P fn R)) (bodyQ P fn R))))) (upd (upd (upd (upd ρ 6 (.int .i64 x6)) 5 (.int .i64 x5)) 4 (.string x4)) 3 (.slice x3a x3l x3c)) m := by kernel_rfl
theorem k3_er (K1 : Option Addr → Nat → Nat → ByteArray → Int → Mem → Prop) (R : Ending → Mem → Prop) : (k3A K1 R).erase = sR (sR (bB (sR (lP (bB (sR (sL (sR (sR (sR (sR (body)))))))))))) := by kernel_rfl
theorem k3_ok (K1 : Option Addr → Nat → Nat → ByteArray → Int → Mem → Prop) (R : Ending → Mem → Prop) (ρ : Env) (m : Mem) (h : (k3E fun x3a x3l x3c x4 x5 x6 m => k3 K1 x3a x3l x3c x4 x5 x6 R m) ρ m) : cpt P od (panicR R) (sR (sR (bB (sR (lP (bB (sR (sL (sR (sR (sR (sR (body))))))))))))) (blockQ 2 (thenQ (l1E K1) (blockQ 1 (thenQ (acpt P od (panicR R) (.code (sR (sR (sR (sR (sR (body))))))) (bodyQ P fn R)) (bodyQ P fn R))))) ρ m := by
  unfold k3E at h
  obtain ⟨x3a, x3l, x3c, e3, h⟩ := h.ex
  obtain ⟨x4, e4, h⟩ := h.ex
  obtain ⟨x5, e5, h⟩ := h.ex
  obtain ⟨x6, e6, h⟩ := h.ex
  rw [← upd_self e3, ← upd_self e4, ← upd_self e5, ← upd_self e6]
  rw [← k3_er K1 R]
  refine acpt_sound (P := P) (k3A K1 R) _ _ _ ⟨⟨(fun ρ m h => k4_ok K1 R ρ m h), True.intro⟩, True.intro⟩ ?_
  exact Eq.mp (k3_eq K1 R x3a x3l x3c x4 x5 x6 ρ m) h
theorem l2_eq (K1 : Option Addr → Nat → Nat → ByteArray → Int → Mem → Prop) (K2 : Option Addr → Nat → Nat → ByteArray → Int → Int → Mem → Prop) (R : Ending → Mem → Prop) (x3a : Option Addr) (x3l : Nat) (x3c : Nat) (x4 : ByteArray) (x5 : Int) (x6 : Int) (ρ : Env) (m : Mem) : l2B K1 K2 x3a x3l x3c x4 x5 x6 R m = acpt P od (panicR R) (l2A K1 K2 R) (thenQ (l2E K2) (blockQ 3 (thenQ (acpt P od (panicR R) (.cut (k3E fun x3a x3l x3c x4 x5 x6 m => k3 K1 x3a x3l x3c x4 x5 x6 R m) (sR (sR (bB (sR (lP (bB (sR (sL (sR (sR (sR (sR (body)))))))))))))) (blockQ 2 (thenQ (l1E K1) (blockQ 1 (thenQ (acpt P od (panicR R) (.code (sR (sR (sR (sR (sR (body))))))) (bodyQ P fn R)) (bodyQ P fn R)))))) (blockQ 2 (thenQ (l1E K1) (blockQ 1 (thenQ (acpt P od (panicR R) (.code (sR (sR (sR (sR (sR (body))))))) (bodyQ P fn R)) (bodyQ P fn R)))))))) (upd (upd (upd (upd ρ 6 (.int .i64 x6)) 5 (.int .i64 x5)) 4 (.string x4)) 3 (.slice x3a x3l x3c)) m := by kernel_rfl
theorem l2_er (K1 : Option Addr → Nat → Nat → ByteArray → Int → Mem → Prop) (K2 : Option Addr → Nat → Nat → ByteArray → Int → Int → Mem → Prop) (R : Ending → Mem → Prop) : (l2A K1 K2 R).erase = lP (bB (sL (sR (bB (sR (lP (bB (sR (sL (sR (sR (sR (sR (body)))))))))))))) := by kernel_rfl
theorem l2_ok (K1 : Option Addr → Nat → Nat → ByteArray → Int → Mem → Prop) (R : Ending → Mem → Prop) (ρ : Env) (m : Mem) (h : (l2E fun x3a x3l x3c x4 x5 x6 m => l2 K1 x3a x3l x3c x4 x5 x6 R m) ρ m) : cpt P od (panicR R) (.loop (lP (bB (sL (sR (bB (sR (lP (bB (sR (sL (sR (sR (sR (sR (body)))))))))))))))) (blockQ 3 (thenQ (acpt P od (panicR R) (.cut (k3E fun x3a x3l x3c x4 x5 x6 m => k3 K1 x3a x3l x3c x4 x5 x6 R m) (sR (sR (bB (sR (lP (bB (sR (sL (sR (sR (sR (sR (body)))))))))))))) (blockQ 2 (thenQ (l1E K1) (blockQ 1 (thenQ (acpt P od (panicR R) (.code (sR (sR (sR (sR (sR (body))))))) (bodyQ P fn R)) (bodyQ P fn R)))))) (blockQ 2 (thenQ (l1E K1) (blockQ 1 (thenQ (acpt P od (panicR R) (.code (sR (sR (sR (sR (sR (body))))))) (bodyQ P fn R)) (bodyQ P fn R))))))) ρ m := by
  unfold l2E at h
  obtain ⟨x3a, x3l, x3c, e3, h⟩ := h.ex
  obtain ⟨x4, e4, h⟩ := h.ex
  obtain ⟨x5, e5, h⟩ := h.ex
  obtain ⟨x6, e6, h⟩ := h.ex
  obtain ⟨I, N, h0, hs⟩ := h
  refine ⟨fun N => l2E (I N), N, (by show l2E (I N) ρ m; unfold l2E; rw [e3, e4, e5, e6]; exact h0), ?_⟩
  clear h0 e3 e4 e5 e6
  intro N ρ m h
  unfold l2E at h
  obtain ⟨x3a, x3l, x3c, e3, h⟩ := h.ex
  obtain ⟨x4, e4, h⟩ := h.ex
  obtain ⟨x5, e5, h⟩ := h.ex
  obtain ⟨x6, e6, h⟩ := h.ex
  refine cpt_mono (P := P) (lP (bB (sL (sR (bB (sR (lP (bB (sR (sL (sR (sR (sR (sR (body))))))))))))))) (Q := thenQ (l2E fun x3a x3l x3c x4 x5 x6 m => ∃ N1, N1 < N ∧ I N1 x3a x3l x3c x4 x5 x6 m) (blockQ 3 (thenQ (acpt P od (panicR R) (.cut (k3E fun x3a x3l x3c x4 x5 x6 m => k3 K1 x3a x3l x3c x4 x5 x6 R m) (sR (sR (bB (sR (lP (bB (sR (sL (sR (sR (sR (sR (body)))))))))))))) (blockQ 2 (thenQ (l1E K1) (blockQ 1 (thenQ (acpt P od (panicR R) (.code (sR (sR (sR (sR (sR (body))))))) (bodyQ P fn R)) (bodyQ P fn R)))))) (blockQ 2 (thenQ (l1E K1) (blockQ 1 (thenQ (acpt P od (panicR R) (.code (sR (sR (sR (sR (sR (body))))))) (bodyQ P fn R)) (bodyQ P fn R)))))))) (fun e ρ m h => ?_) ρ m ?_
  · cases e with
    | normal =>
      have h : l2E (fun x3a x3l x3c x4 x5 x6 m => ∃ N1, N1 < N ∧ I N1 x3a x3l x3c x4 x5 x6 m) ρ m := h
      unfold l2E at h
      obtain ⟨x3a, x3l, x3c, e3, h⟩ := h.ex
      obtain ⟨x4, e4, h⟩ := h.ex
      obtain ⟨x5, e5, h⟩ := h.ex
      obtain ⟨x6, e6, h⟩ := h.ex
      obtain ⟨N1, hlt, h⟩ := h
      exact ⟨N1, hlt, (by show l2E (I N1) ρ m; unfold l2E; rw [e3, e4, e5, e6]; exact h)⟩
    | _ => exact h
  have hh := hs N x3a x3l x3c x4 x5 x6 m h
  generalize (fun x3a x3l x3c x4 x5 x6 m => ∃ N1, N1 < N ∧ I N1 x3a x3l x3c x4 x5 x6 m : Option Addr → Nat → Nat → ByteArray → Int → Int → Mem → Prop) = K2 at hh ⊢
  rw [← upd_self e3, ← upd_self e4, ← upd_self e5, ← upd_self e6]
  rw [← l2_er K1 K2 R]
  refine acpt_sound (P := P) (l2A K1 K2 R) _ _ _ True.intro ?_
  exact Eq.mp (l2_eq K1 K2 R x3a x3l x3c x4 x5 x6 ρ m) hh
theorem l1_eq  (K1 : Option Addr → Nat → Nat → ByteArray → Int → Mem → Prop) (R : Ending → Mem → Prop) (x3a : Option Addr) (x3l : Nat) (x3c : Nat) (x4 : ByteArray) (x5 : Int) (ρ : Env) (m : Mem) : l1B  K1 x3a x3l x3c x4 x5 R m = acpt P od (panicR R) (l1A  K1 R) (thenQ (l1E K1) (blockQ 1 (thenQ (acpt P od (panicR R) (.code (sR (sR (sR (sR (sR (body))))))) (bodyQ P fn R)) (bodyQ P fn R)))) (upd (upd (upd ρ 5 (.int .i64 x5)) 4 (.string x4)) 3 (.slice x3a x3l x3c)) m := by kernel_rfl
theorem l1_er  (K1 : Option Addr → Nat → Nat → ByteArray → Int → Mem → Prop) (R : Ending → Mem → Prop) : (l1A  K1 R).erase = lP (bB (sR (sL (sR (sR (sR (sR (body)))))))) := by kernel_rfl
theorem l1_ok  (R : Ending → Mem → Prop) (ρ : Env) (m : Mem) (h : (l1E fun x3a x3l x3c x4 x5 m => l1  x3a x3l x3c x4 x5 R m) ρ m) : cpt P od (panicR R) (.loop (lP (bB (sR (sL (sR (sR (sR (sR (body)))))))))) (blockQ 1 (thenQ (acpt P od (panicR R) (.code (sR (sR (sR (sR (sR (body))))))) (bodyQ P fn R)) (bodyQ P fn R))) ρ m := by
  unfold l1E at h
  obtain ⟨x3a, x3l, x3c, e3, h⟩ := h.ex
  obtain ⟨x4, e4, h⟩ := h.ex
  obtain ⟨x5, e5, h⟩ := h.ex
  obtain ⟨I, N, h0, hs⟩ := h
  refine ⟨fun N => l1E (I N), N, (by show l1E (I N) ρ m; unfold l1E; rw [e3, e4, e5]; exact h0), ?_⟩
  clear h0 e3 e4 e5
  intro N ρ m h
  unfold l1E at h
  obtain ⟨x3a, x3l, x3c, e3, h⟩ := h.ex
  obtain ⟨x4, e4, h⟩ := h.ex
  obtain ⟨x5, e5, h⟩ := h.ex
  refine cpt_mono (P := P) (lP (bB (sR (sL (sR (sR (sR (sR (body))))))))) (Q := thenQ (l1E fun x3a x3l x3c x4 x5 m => ∃ N1, N1 < N ∧ I N1 x3a x3l x3c x4 x5 m) (blockQ 1 (thenQ (acpt P od (panicR R) (.code (sR (sR (sR (sR (sR (body))))))) (bodyQ P fn R)) (bodyQ P fn R)))) (fun e ρ m h => ?_) ρ m ?_
  · cases e with
    | normal =>
      have h : l1E (fun x3a x3l x3c x4 x5 m => ∃ N1, N1 < N ∧ I N1 x3a x3l x3c x4 x5 m) ρ m := h
      unfold l1E at h
      obtain ⟨x3a, x3l, x3c, e3, h⟩ := h.ex
      obtain ⟨x4, e4, h⟩ := h.ex
      obtain ⟨x5, e5, h⟩ := h.ex
      obtain ⟨N1, hlt, h⟩ := h
      exact ⟨N1, hlt, (by show l1E (I N1) ρ m; unfold l1E; rw [e3, e4, e5]; exact h)⟩
    | _ => exact h
  have hh := hs N x3a x3l x3c x4 x5 m h
  generalize (fun x3a x3l x3c x4 x5 m => ∃ N1, N1 < N ∧ I N1 x3a x3l x3c x4 x5 m : Option Addr → Nat → Nat → ByteArray → Int → Mem → Prop) = K1 at hh ⊢
  rw [← upd_self e3, ← upd_self e4, ← upd_self e5]
  rw [← l1_er  K1 R]
  refine acpt_sound (P := P) (l1A  K1 R) _ _ _ ⟨⟨⟨(fun ρ m h => k3_ok K1 R ρ m h), (fun ρ m h => l2_ok K1 R ρ m h)⟩, True.intro⟩, True.intro⟩ ?_
  exact Eq.mp (l1_eq  K1 R x3a x3l x3c x4 x5 ρ m) hh
theorem e0_eq (a0_0 : Int) (a0_1 : Int) (a0_2 : Int) (a0_3 : Int) (R : Ending → Mem → Prop) (m : Mem) : e0 a0_0 a0_1 a0_2 a0_3 R m = acpt P od (panicR R) (e0A R) (bodyQ P fn R) (argE (#[.agg #[.int .u64 a0_0, .int .u64 a0_1, .int .u64 a0_2, .int .u64 a0_3]] : Array Value).toList) m := by kernel_rfl
theorem ok (a0_0 : Int) (a0_1 : Int) (a0_2 : Int) (a0_3 : Int) (R : Ending → Mem → Prop) (m : Mem) (h : e0 a0_0 a0_1 a0_2 a0_3 R m) : HC P id #[.agg #[.int .u64 a0_0, .int .u64 a0_1, .int .u64 a0_2, .int .u64 a0_3]] m R := by
  refine HC_of (fn := fn) (c := body) (od := od) (tb := tb) Go.Proofs.Tryd.func19 (by kernel_rfl) (by kernel_rfl) follows (by kernel_rfl) (of_decide_eq_true (by kernel_rfl)) ?_
  have he : (e0A R).erase = body := by kernel_rfl
  rw [← he]
  refine acpt_sound (P := P) (e0A R) _ _ _ ⟨⟨⟨⟨⟨True.intro, ⟨(fun ρ m h => l1_ok  R ρ m h), True.intro⟩⟩, True.intro⟩, True.intro⟩, True.intro⟩, True.intro⟩ ?_
  exact Eq.mp (e0_eq a0_0 a0_1 a0_2 a0_3 R m) h
end eyotref8_ShowClass

/-! ### eyot/class.Has -/
namespace class_Has
noncomputable def fn : Func := Go.Proofs.Tryd.f20
noncomputable def body : Code := fn.body.getD .skip
def od : Nat → Ord := fun _ => .done
def tb : Nat → Tab := fun _ => (0, [], [])
def e0 (s_0_0 : Int) (s_0_1 : Int) (s_0_2 : Int) (s_0_3 : Int) (b_1 : Int) (R : Ending → Mem → Prop) (m : Mem) : Prop :=
  NewC m #[.int .u64 s_0_0, .int .u64 s_0_1, .int .u64 s_0_2, .int .u64 s_0_3] T_api_Set fun b_s_2 m1 =>
  0 ≤ (IntKind.u8.wrap (Int.tdiv b_1 64) : Int) ∧ (IntKind.u8.wrap (Int.tdiv b_1 64) : Int) < (4 : Nat) ∧ (
    LdV m1 b_s_2 (0 + (IntKind.u8.wrap (Int.tdiv b_1 64) : Int).toNat * 1) fun v =>
    UnI v .u64 fun x8 =>
    NnI (Int.tmod b_1 64) (
      R (.returned (.bool ((bitsV .and .u64 (shrV .u64 x8 (Int.tmod b_1 64)) 1) == 1))) m1))
noncomputable def e0A (R : Ending → Mem → Prop) : ACode := (.code (body))
theorem e0_eq (s_0_0 : Int) (s_0_1 : Int) (s_0_2 : Int) (s_0_3 : Int) (b_1 : Int) (R : Ending → Mem → Prop) (m : Mem) : e0 s_0_0 s_0_1 s_0_2 s_0_3 b_1 R m = acpt P od (panicR R) (e0A R) (bodyQ P fn R) (argE (#[.agg #[.int .u64 s_0_0, .int .u64 s_0_1, .int .u64 s_0_2, .int .u64 s_0_3], .int .u8 b_1] : Array Value).toList) m := by kernel_rfl
theorem ok (s_0_0 : Int) (s_0_1 : Int) (s_0_2 : Int) (s_0_3 : Int) (b_1 : Int) (R : Ending → Mem → Prop) (m : Mem) (h : e0 s_0_0 s_0_1 s_0_2 s_0_3 b_1 R m) : HC P id #[.agg #[.int .u64 s_0_0, .int .u64 s_0_1, .int .u64 s_0_2, .int .u64 s_0_3], .int .u8 b_1] m R := by
  refine HC_of (fn := fn) (c := body) (od := od) (tb := tb) Go.Proofs.Tryd.func20 (by kernel_rfl) (by kernel_rfl) follows (by kernel_rfl) (of_decide_eq_true (by kernel_rfl)) ?_
  have he : (e0A R).erase = body := by kernel_rfl
  rw [← he]
  refine acpt_sound (P := P) (e0A R) _ _ _ True.intro ?_
  exact Eq.mp (e0_eq s_0_0 s_0_1 s_0_2 s_0_3 b_1 R m) h
end class_Has

/-! ### eyot/class.Least -/
namespace class_Least
noncomputable def fn : Func := Go.Proofs.Tryd.f21
noncomputable def body : Code := fn.body.getD .skip
def od : Nat → Ord := fun _ => .done
def tb : Nat → Tab := fun _ => (0, [], [])
def l1E (K : Int → Int → Int → Int → Int → Mem → Prop) : Env → Mem → Prop := fun ρ m => UnAgg (ρ 6) fun l => UnCons l fun v l => UnI v .u64 fun x6_0 => UnCons l fun v l => UnI v .u64 fun x6_1 => UnCons l fun v l => UnI v .u64 fun x6_2 => UnCons l fun v l => UnI v .u64 fun x6_3 => UnNil l (UnI (ρ 7) .i64 fun x7 => K x6_0 x6_1 x6_2 x6_3 x7 m)
def l1B  (K1 : Int → Int → Int → Int → Int → Mem → Prop) (x6_0 : Int) (x6_1 : Int) (x6_2 : Int) (x6_3 : Int) (x7 : Int) (R : Ending → Mem → Prop) (m : Mem) : Prop :=
  Br (decide (x7 < 4)) (
    IxI [x6_0, x6_1, x6_2, x6_3] x7 fun x10 =>
    Br (x10 != 0) (
      HC P math_bits_TrailingZeros64.id #[.int .u64 x10] m (Cont (fun v m1 =>
          UnI v .i64 fun x16 =>
          R (.returned (.tuple #[.int .u8 (IntKind.u8.wrap (IntKind.i64.wrap ((IntKind.i64.wrap (64 * x7)) + x16))), .bool true])) m1) (panicR R))) (
      K1 x6_0 x6_1 x6_2 x6_3 (IntKind.i64.wrap (x7 + 1)) m)) (
    R (.returned (.tuple #[.int .u8 0, .bool false])) m)
def l1  (x6_0 : Int) (x6_1 : Int) (x6_2 : Int) (x6_3 : Int) (x7 : Int) (R : Ending → Mem → Prop) (m : Mem) : Prop :=
  ∃ (I : Nat → Int → Int → Int → Int → Int → Mem → Prop) (N : Nat), I N x6_0 x6_1 x6_2 x6_3 x7 m ∧ ∀ N x6_0 x6_1 x6_2 x6_3 x7 m, I N x6_0 x6_1 x6_2 x6_3 x7 m → l1B  (fun x6_0 x6_1 x6_2 x6_3 x7 m => ∃ N1, N1 < N ∧ I N1 x6_0 x6_1 x6_2 x6_3 x7 m) x6_0 x6_1 x6_2 x6_3 x7 R m
noncomputable def l1A  (K1 : Int → Int → Int → Int → Int → Mem → Prop) (R : Ending → Mem → Prop) : ACode := (.code (lP (bB (sR (sL (sR (body)))))))
def e0 (s_0_0 : Int) (s_0_1 : Int) (s_0_2 : Int) (s_0_3 : Int) (R : Ending → Mem → Prop) (m : Mem) : Prop :=
  NewC m #[.int .u64 s_0_0, .int .u64 s_0_1, .int .u64 s_0_2, .int .u64 s_0_3] T_api_Set fun b_s_1 m1 =>
  LdV m1 b_s_1 0 fun v =>
  UnI v .u64 fun x6_0 =>
  LdV m1 b_s_1 1 fun v =>
  UnI v .u64 fun x6_1 =>
  LdV m1 b_s_1 2 fun v =>
  UnI v .u64 fun x6_2 =>
  LdV m1 b_s_1 3 fun v =>
  UnI v .u64 fun x6_3 =>
  l1  x6_0 x6_1 x6_2 x6_3 0 R m1
noncomputable def e0A (R : Ending → Mem → Prop) : ACode := (.seq (.code (sL (body))) (.seq (.seq (.code (sL (sL (sR (body))))) (.block 0 (.cut (l1E fun x6_0 x6_1 x6_2 x6_3 x7 m => l1  x6_0 x6_1 x6_2 x6_3 x7 R m) (.loop (lP (bB (sR (sL (sR (body)))))))))) (.code (sR (sR (body))))))
theorem l1_eq  (K1 : Int → Int → Int → Int → Int → Mem → Prop) (R : Ending → Mem → Prop) (x6_0 : Int) (x6_1 : Int) (x6_2 : Int) (x6_3 : Int) (x7 : Int) (ρ : Env) (m : Mem) : l1B  K1 x6_0 x6_1 x6_2 x6_3 x7 R m = acpt P od (panicR R) (l1A  K1 R) (thenQ (l1E K1) (blockQ 0 (thenQ (acpt P od (panicR R) (.code (sR (sR (body)))) (bodyQ P fn R)) (bodyQ P fn R)))) (upd (upd ρ 7 (.int .i64 x7)) 6 (.agg [.int .u64 x6_0, .int .u64 x6_1, .int .u64 x6_2, .int .u64 x6_3].toArray)) m := by kernel_rfl
theorem l1_er  (K1 : Int → Int → Int → Int → Int → Mem → Prop) (R : Ending → Mem → Prop) : (l1A  K1 R).erase = lP (bB (sR (sL (sR (body))))) := by kernel_rfl
theorem l1_ok  (R : Ending → Mem → Prop) (ρ : Env) (m : Mem) (h : (l1E fun x6_0 x6_1 x6_2 x6_3 x7 m => l1  x6_0 x6_1 x6_2 x6_3 x7 R m) ρ m) : cpt P od (panicR R) (.loop (lP (bB (sR (sL (sR (body))))))) (blockQ 0 (thenQ (acpt P od (panicR R) (.code (sR (sR (body)))) (bodyQ P fn R)) (bodyQ P fn R))) ρ m := by
  unfold l1E at h
  obtain ⟨lst6, e6, hq6_1⟩ := UnAgg.ex h; clear h
  obtain ⟨w6_0, t6_0, q6, hq6_2⟩ := UnCons.ex hq6_1; clear hq6_1; subst q6
  obtain ⟨x6_0, q6, hq6_3⟩ := UnI.ex hq6_2; clear hq6_2; subst q6
  obtain ⟨w6_1, t6_1, q6, hq6_4⟩ := UnCons.ex hq6_3; clear hq6_3; subst q6
  obtain ⟨x6_1, q6, hq6_5⟩ := UnI.ex hq6_4; clear hq6_4; subst q6
  obtain ⟨w6_2, t6_2, q6, hq6_6⟩ := UnCons.ex hq6_5; clear hq6_5; subst q6
  obtain ⟨x6_2, q6, hq6_7⟩ := UnI.ex hq6_6; clear hq6_6; subst q6
  obtain ⟨w6_3, t6_3, q6, hq6_8⟩ := UnCons.ex hq6_7; clear hq6_7; subst q6
  obtain ⟨x6_3, q6, hq6_9⟩ := UnI.ex hq6_8; clear hq6_8; subst q6
  obtain ⟨q6, hq6_10⟩ := UnNil.ex hq6_9; clear hq6_9; subst q6
  have h := hq6_10; clear hq6_10
  obtain ⟨x7, e7, h⟩ := h.ex
  obtain ⟨I, N, h0, hs⟩ := h
  refine ⟨fun N => l1E (I N), N, (by show l1E (I N) ρ m; unfold l1E; rw [e6, e7]; exact h0), ?_⟩
  clear h0 e6 e7
  intro N ρ m h
  unfold l1E at h
  obtain ⟨lst6, e6, hq6_1⟩ := UnAgg.ex h; clear h
  obtain ⟨w6_0, t6_0, q6, hq6_2⟩ := UnCons.ex hq6_1; clear hq6_1; subst q6
  obtain ⟨x6_0, q6, hq6_3⟩ := UnI.ex hq6_2; clear hq6_2; subst q6
  obtain ⟨w6_1, t6_1, q6, hq6_4⟩ := UnCons.ex hq6_3; clear hq6_3; subst q6
  obtain ⟨x6_1, q6, hq6_5⟩ := UnI.ex hq6_4; clear hq6_4; subst q6
  obtain ⟨w6_2, t6_2, q6, hq6_6⟩ := UnCons.ex hq6_5; clear hq6_5; subst q6
  obtain ⟨x6_2, q6, hq6_7⟩ := UnI.ex hq6_6; clear hq6_6; subst q6
  obtain ⟨w6_3, t6_3, q6, hq6_8⟩ := UnCons.ex hq6_7; clear hq6_7; subst q6
  obtain ⟨x6_3, q6, hq6_9⟩ := UnI.ex hq6_8; clear hq6_8; subst q6
  obtain ⟨q6, hq6_10⟩ := UnNil.ex hq6_9; clear hq6_9; subst q6
  have h := hq6_10; clear hq6_10
  obtain ⟨x7, e7, h⟩ := h.ex
  refine cpt_mono (P := P) (lP (bB (sR (sL (sR (body)))))) (Q := thenQ (l1E fun x6_0 x6_1 x6_2 x6_3 x7 m => ∃ N1, N1 < N ∧ I N1 x6_0 x6_1 x6_2 x6_3 x7 m) (blockQ 0 (thenQ (acpt P od (panicR R) (.code (sR (sR (body)))) (bodyQ P fn R)) (bodyQ P fn R)))) (fun e ρ m h => ?_) ρ m ?_
  · cases e with
    | normal =>
      have h : l1E (fun x6_0 x6_1 x6_2 x6_3 x7 m => ∃ N1, N1 < N ∧ I N1 x6_0 x6_1 x6_2 x6_3 x7 m) ρ m := h
      unfold l1E at h
      obtain ⟨lst6, e6, hq6_1⟩ := UnAgg.ex h; clear h
      obtain ⟨w6_0, t6_0, q6, hq6_2⟩ := UnCons.ex hq6_1; clear hq6_1; subst q6
      obtain ⟨x6_0, q6, hq6_3⟩ := UnI.ex hq6_2; clear hq6_2; subst q6
      obtain ⟨w6_1, t6_1, q6, hq6_4⟩ := UnCons.ex hq6_3; clear hq6_3; subst q6
      obtain ⟨x6_1, q6, hq6_5⟩ := UnI.ex hq6_4; clear hq6_4; subst q6
      obtain ⟨w6_2, t6_2, q6, hq6_6⟩ := UnCons.ex hq6_5; clear hq6_5; subst q6
      obtain ⟨x6_2, q6, hq6_7⟩ := UnI.ex hq6_6; clear hq6_6; subst q6
      obtain ⟨w6_3, t6_3, q6, hq6_8⟩ := UnCons.ex hq6_7; clear hq6_7; subst q6
      obtain ⟨x6_3, q6, hq6_9⟩ := UnI.ex hq6_8; clear hq6_8; subst q6
      obtain ⟨q6, hq6_10⟩ := UnNil.ex hq6_9; clear hq6_9; subst q6
      have h := hq6_10; clear hq6_10
      obtain ⟨x7, e7, h⟩ := h.ex
      obtain ⟨N1, hlt, h⟩ := h
      exact ⟨N1, hlt, (by show l1E (I N1) ρ m; unfold l1E; rw [e6, e7]; exact h)⟩
    | _ => exact h
  have hh := hs N x6_0 x6_1 x6_2 x6_3 x7 m h
  generalize (fun x6_0 x6_1 x6_2 x6_3 x7 m => ∃ N1, N1 < N ∧ I N1 x6_0 x6_1 x6_2 x6_3 x7 m : Int → Int → Int → Int → Int → Mem → Prop) = K1 at hh ⊢
  rw [← upd_self e6, ← upd_self e7]
  rw [← l1_er  K1 R]
  refine acpt_sound (P := P) (l1A  K1 R) _ _ _ True.intro ?_
  exact Eq.mp (l1_eq  K1 R x6_0 x6_1 x6_2 x6_3 x7 ρ m) hh
theorem e0_eq (s_0_0 : Int) (s_0_1 : Int) (s_0_2 : Int) (s_0_3 : Int) (R : Ending → Mem → Prop) (m : Mem) : e0 s_0_0 s_0_1 s_0_2 s_0_3 R m = acpt P od (panicR R) (e0A R) (bodyQ P fn R) (argE (#[.agg #[.int .u64 s_0_0, .int .u64 s_0_1, .int .u64 s_0_2, .int .u64 s_0_3]] : Array Value).toList) m := by kernel_rfl
theorem ok (s_0_0 : Int) (s_0_1 : Int) (s_0_2 : Int) (s_0_3 : Int) (R : Ending → Mem → Prop) (m : Mem) (h : e0 s_0_0 s_0_1 s_0_2 s_0_3 R m) : HC P id #[.agg #[.int .u64 s_0_0, .int .u64 s_0_1, .int .u64 s_0_2, .int .u64 s_0_3]] m R := by
  refine HC_of (fn := fn) (c := body) (od := od) (tb := tb) Go.Proofs.Tryd.func21 (by kernel_rfl) (by kernel_rfl) follows (by kernel_rfl) (of_decide_eq_true (by kernel_rfl)) ?_
  have he : (e0A R).erase = body := by kernel_rfl
  rw [← he]
  refine acpt_sound (P := P) (e0A R) _ _ _ ⟨⟨True.intro, ⟨(fun ρ m h => l1_ok  R ρ m h), True.intro⟩⟩, True.intro⟩ ?_
  exact Eq.mp (e0_eq s_0_0 s_0_1 s_0_2 s_0_3 R m) h
end class_Least

/-! ### eyot/eyotref8.Has -/
namespace eyotref8_Has
noncomputable def fn : Func := Go.Proofs.Tryd.f22
noncomputable def body : Code := fn.body.getD .skip
def od : Nat → Ord := fun _ => .done
def tb : Nat → Tab := fun _ => (0, [], [])
def e0 (s_0_0 : Int) (s_0_1 : Int) (s_0_2 : Int) (s_0_3 : Int) (b_1 : Int) (R : Ending → Mem → Prop) (m : Mem) : Prop :=
  NewC m #[.int .u64 s_0_0, .int .u64 s_0_1, .int .u64 s_0_2, .int .u64 s_0_3] T_api_Set fun b_s_2 m1 =>
  0 ≤ (IntKind.u8.wrap (Int.tdiv b_1 64) : Int) ∧ (IntKind.u8.wrap (Int.tdiv b_1 64) : Int) < (4 : Nat) ∧ (
    LdV m1 b_s_2 (0 + (IntKind.u8.wrap (Int.tdiv b_1 64) : Int).toNat * 1) fun v =>
    UnI v .u64 fun x8 =>
    NnI (Int.tmod b_1 64) (
      R (.returned (.bool ((bitsV .and .u64 (shrV .u64 x8 (Int.tmod b_1 64)) 1) == 1))) m1))
noncomputable def e0A (R : Ending → Mem → Prop) : ACode := (.code (body))
theorem e0_eq (s_0_0 : Int) (s_0_1 : Int) (s_0_2 : Int) (s_0_3 : Int) (b_1 : Int) (R : Ending → Mem → Prop) (m : Mem) : e0 s_0_0 s_0_1 s_0_2 s_0_3 b_1 R m = acpt P od (panicR R) (e0A R) (bodyQ P fn R) (argE (#[.agg #[.int .u64 s_0_0, .int .u64 s_0_1, .int .u64 s_0_2, .int .u64 s_0_3], .int .u8 b_1] : Array Value).toList) m := by kernel_rfl
theorem ok (s_0_0 : Int) (s_0_1 : Int) (s_0_2 : Int) (s_0_3 : Int) (b_1 : Int) (R : Ending → Mem → Prop) (m : Mem) (h : e0 s_0_0 s_0_1 s_0_2 s_0_3 b_1 R m) : HC P id #[.agg #[.int .u64 s_0_0, .int .u64 s_0_1, .int .u64 s_0_2, .int .u64 s_0_3], .int .u8 b_1] m R := by
  refine HC_of (fn := fn) (c := body) (od := od) (tb := tb) Go.Proofs.Tryd.func22 (by kernel_rfl) (by kernel_rfl) follows (by kernel_rfl) (of_decide_eq_true (by kernel_rfl)) ?_
  have he : (e0A R).erase = body := by kernel_rfl
  rw [← he]
  refine acpt_sound (P := P) (e0A R) _ _ _ True.intro ?_
  exact Eq.mp (e0_eq s_0_0 s_0_1 s_0_2 s_0_3 b_1 R m) h
end eyotref8_Has

/-! ### eyot/eyotref8.Not -/
namespace eyotref8_Not
noncomputable def fn : Func := Go.Proofs.Tryd.f26
noncomputable def body : Code := fn.body.getD .skip
def od : Nat → Ord := fun _ => .done
def tb : Nat → Tab := fun _ => (0, [], [])
def l1E (K : Nat → Nat → Nat → Nat → Option Addr → Nat → Nat → Int → Mem → Prop) : Env → Mem → Prop := fun ρ m => UnPA (ρ 1) fun a_1b a_1o => UnPA (ρ 2) fun x2b x2o => UnS (ρ 3) fun l_3a l_3l l_3c => UnI (ρ 4) .i64 fun i_4 => K a_1b a_1o x2b x2o l_3a l_3l l_3c i_4 m
def l1B  (K1 : Nat → Nat → Nat → Nat → Option Addr → Nat → Nat → Int → Mem → Prop) (a_1b : Nat) (a_1o : Nat) (x2b : Nat) (x2o : Nat) (l_3a : Option Addr) (l_3l : Nat) (l_3c : Nat) (i_4 : Int) (R : Ending → Mem → Prop) (m : Mem) : Prop :=
  Br (decide (i_4 < 256)) (
    LdV m a_1b a_1o fun v =>
    UnI v .u64 fun x9_0 =>
    LdV m a_1b (a_1o + 1) fun v =>
    UnI v .u64 fun x9_1 =>
    LdV m a_1b (a_1o + 2) fun v =>
    UnI v .u64 fun x9_2 =>
    LdV m a_1b (a_1o + 3) fun v =>
    UnI v .u64 fun x9_3 =>
    HC P eyotref8_Has.id #[.agg #[.int .u64 x9_0, .int .u64 x9_1, .int .u64 x9_2, .int .u64 x9_3], .int .u8 (IntKind.u8.wrap i_4)] m (Cont (fun v m1 =>
        UnB v fun x12 =>
        Br (!x12) (
          NewC m1 #[.int .u8 (IntKind.u8.wrap i_4)] T_uint8 fun b17 m2 =>
          BiN P .append #[T_sl_uint8, T_sl_uint8] T_sl_uint8 #[false, false] #[.slice l_3a l_3l l_3c, .slice (some ⟨b17, 0, none⟩) 1 1] m2 (fun w m3 =>
            UnS w fun x18a x18l x18c =>
            K1 a_1b a_1o x2b x2o x18a x18l x18c (IntKind.i64.wrap (i_4 + 1)) m3) (panicR R)) (
          K1 a_1b a_1o x2b x2o l_3a l_3l l_3c (IntKind.i64.wrap (i_4 + 1)) m1)) (panicR R))) (
    HC P eyotref8_Of.id #[.slice l_3a l_3l l_3c] m (Cont (fun v m1 =>
        UnAgg v fun l =>
        UnCons l fun v l =>
        UnI v .u64 fun x20_0 =>
        UnCons l fun v l =>
        UnI v .u64 fun x20_1 =>
        UnCons l fun v l =>
        UnI v .u64 fun x20_2 =>
        UnCons l fun v l =>
        UnI v .u64 fun x20_3 =>
        UnNil l (
          St1 m1 x2b x2o (.int .u64 x20_0) fun m2 =>
          St1 m2 x2b (x2o + 1) (.int .u64 x20_1) fun m3 =>
          St1 m3 x2b (x2o + 2) (.int .u64 x20_2) fun m4 =>
          St1 m4 x2b (x2o + 3) (.int .u64 x20_3) fun m5 =>
          LdV m5 x2b x2o fun v =>
          UnI v .u64 fun res0_0 =>
          LdV m5 x2b (x2o + 1) fun v =>
          UnI v .u64 fun res0_1 =>
          LdV m5 x2b (x2o + 2) fun v =>
          UnI v .u64 fun res0_2 =>
          LdV m5 x2b (x2o + 3) fun v =>
          UnI v .u64 fun res0_3 =>
          R (.returned (.agg #[.int .u64 res0_0, .int .u64 res0_1, .int .u64 res0_2, .int .u64 res0_3])) m5)) (panicR R)))
def l1  (a_1b : Nat) (a_1o : Nat) (x2b : Nat) (x2o : Nat) (l_3a : Option Addr) (l_3l : Nat) (l_3c : Nat) (i_4 : Int) (R : Ending → Mem → Prop) (m : Mem) : Prop :=
  ∃ (I : Nat → Nat → Nat → Nat → Nat → Option Addr → Nat → Nat → Int → Mem → Prop) (N : Nat), I N a_1b a_1o x2b x2o l_3a l_3l l_3c i_4 m ∧ ∀ N a_1b a_1o x2b x2o l_3a l_3l l_3c i_4 m, I N a_1b a_1o x2b x2o l_3a l_3l l_3c i_4 m → l1B  (fun a_1b a_1o x2b x2o l_3a l_3l l_3c i_4 m => ∃ N1, N1 < N ∧ I N1 a_1b a_1o x2b x2o l_3a l_3l l_3c i_4 m) a_1b a_1o x2b x2o l_3a l_3l l_3c i_4 R m
noncomputable def l1A  (K1 : Nat → Nat → Nat → Nat → Option Addr → Nat → Nat → Int → Mem → Prop) (R : Ending → Mem → Prop) : ACode := (.code (lP (bB (sR (sL (sR (sR (body))))))))
def e0 (a_0_0 : Int) (a_0_1 : Int) (a_0_2 : Int) (a_0_3 : Int) (R : Ending → Mem → Prop) (m : Mem) : Prop :=
  NewC m #[.int .u64 a_0_0, .int .u64 a_0_1, .int .u64 a_0_2, .int .u64 a_0_3] T_api_Set fun b_a_1 m1 =>
  NewC m1 #[.int .u64 0, .int .u64 0, .int .u64 0, .int .u64 0] T_api_Set fun b2 m2 =>
  l1  b_a_1 0 b2 0 none 0 0 0 R m2
noncomputable def e0A (R : Ending → Mem → Prop) : ACode := (.seq (.code (sL (body))) (.seq (.code (sL (sR (body)))) (.seq (.seq (.code (sL (sL (sR (sR (body)))))) (.block 0 (.cut (l1E fun a_1b a_1o x2b x2o l_3a l_3l l_3c i_4 m => l1  a_1b a_1o x2b x2o l_3a l_3l l_3c i_4 R m) (.loop (lP (bB (sR (sL (sR (sR (body))))))))))) (.code (sR (sR (sR (body))))))))
theorem l1_eq  (K1 : Nat → Nat → Nat → Nat → Option Addr → Nat → Nat → Int → Mem → Prop) (R : Ending → Mem → Prop) (a_1b : Nat) (a_1o : Nat) (x2b : Nat) (x2o : Nat) (l_3a : Option Addr) (l_3l : Nat) (l_3c : Nat) (i_4 : Int) (ρ : Env) (m : Mem) : l1B  K1 a_1b a_1o x2b x2o l_3a l_3l l_3c i_4 R m = acpt P od (panicR R) (l1A  K1 R) (thenQ (l1E K1) (blockQ 0 (thenQ (acpt P od (panicR R) (.code (sR (sR (sR (body))))) (bodyQ P fn R)) (bodyQ P fn R)))) (upd (upd (upd (upd ρ 4 (.int .i64 i_4)) 3 (.slice l_3a l_3l l_3c)) 2 (.pointer (some ⟨x2b, x2o, none⟩))) 1 (.pointer (some ⟨a_1b, a_1o, none⟩))) m := by kernel_rfl
theorem l1_er  (K1 : Nat → Nat → Nat → Nat → Option Addr → Nat → Nat → Int → Mem → Prop) (R : Ending → Mem → Prop) : (l1A  K1 R).erase = lP (bB (sR (sL (sR (sR (body)))))) := by kernel_rfl
theorem l1_ok  (R : Ending → Mem → Prop) (ρ : Env) (m : Mem) (h : (l1E fun a_1b a_1o x2b x2o l_3a l_3l l_3c i_4 m => l1  a_1b a_1o x2b x2o l_3a l_3l l_3c i_4 R m) ρ m) : cpt P od (panicR R) (.loop (lP (bB (sR (sL (sR (sR (body)))))))) (blockQ 0 (thenQ (acpt P od (panicR R) (.code (sR (sR (sR (body))))) (bodyQ P fn R)) (bodyQ P fn R))) ρ m := by
  unfold l1E at h
  obtain ⟨a_1b, a_1o, e1, h⟩ := h.ex
  obtain ⟨x2b, x2o, e2, h⟩ := h.ex
  obtain ⟨l_3a, l_3l, l_3c, e3, h⟩ := h.ex
  obtain ⟨i_4, e4, h⟩ := h.ex
  obtain ⟨I, N, h0, hs⟩ := h
  refine ⟨fun N => l1E (I N), N, (by show l1E (I N) ρ m; unfold l1E; rw [e1, e2, e3, e4]; exact h0), ?_⟩
  clear h0 e1 e2 e3 e4
  intro N ρ m h
  unfold l1E at h
  obtain ⟨a_1b, a_1o, e1, h⟩ := h.ex
  obtain ⟨x2b, x2o, e2, h⟩ := h.ex
  obtain ⟨l_3a, l_3l, l_3c, e3, h⟩ := h.ex
  obtain ⟨i_4, e4, h⟩ := h.ex
  refine cpt_mono (P := P) (lP (bB (sR (sL (sR (sR (body))))))) (Q := thenQ (l1E fun a_1b a_1o x2b x2o l_3a l_3l l_3c i_4 m => ∃ N1, N1 < N ∧ I N1 a_1b a_1o x2b x2o l_3a l_3l l_3c i_4 m) (blockQ 0 (thenQ (acpt P od (panicR R) (.code (sR (sR (sR (body))))) (bodyQ P fn R)) (bodyQ P fn R)))) (fun e ρ m h => ?_) ρ m ?_
  · cases e with
    | normal =>
      have h : l1E (fun a_1b a_1o x2b x2o l_3a l_3l l_3c i_4 m => ∃ N1, N1 < N ∧ I N1 a_1b a_1o x2b x2o l_3a l_3l l_3c i_4 m) ρ m := h
      unfold l1E at h
      obtain ⟨a_1b, a_1o, e1, h⟩ := h.ex
      obtain ⟨x2b, x2o, e2, h⟩ := h.ex
      obtain ⟨l_3a, l_3l, l_3c, e3, h⟩ := h.ex
      obtain ⟨i_4, e4, h⟩ := h.ex
      obtain ⟨N1, hlt, h⟩ := h
      exact ⟨N1, hlt, (by show l1E (I N1) ρ m; unfold l1E; rw [e1, e2, e3, e4]; exact h)⟩
    | _ => exact h
  have hh := hs N a_1b a_1o x2b x2o l_3a l_3l l_3c i_4 m h
  generalize (fun a_1b a_1o x2b x2o l_3a l_3l l_3c i_4 m => ∃ N1, N1 < N ∧ I N1 a_1b a_1o x2b x2o l_3a l_3l l_3c i_4 m : Nat → Nat → Nat → Nat → Option Addr → Nat → Nat → Int → Mem → Prop) = K1 at hh ⊢
  rw [← upd_self e1, ← upd_self e2, ← upd_self e3, ← upd_self e4]
  rw [← l1_er  K1 R]
  refine acpt_sound (P := P) (l1A  K1 R) _ _ _ True.intro ?_
  exact Eq.mp (l1_eq  K1 R a_1b a_1o x2b x2o l_3a l_3l l_3c i_4 ρ m) hh
theorem e0_eq (a_0_0 : Int) (a_0_1 : Int) (a_0_2 : Int) (a_0_3 : Int) (R : Ending → Mem → Prop) (m : Mem) : e0 a_0_0 a_0_1 a_0_2 a_0_3 R m = acpt P od (panicR R) (e0A R) (bodyQ P fn R) (argE (#[.agg #[.int .u64 a_0_0, .int .u64 a_0_1, .int .u64 a_0_2, .int .u64 a_0_3]] : Array Value).toList) m := by kernel_rfl
theorem ok (a_0_0 : Int) (a_0_1 : Int) (a_0_2 : Int) (a_0_3 : Int) (R : Ending → Mem → Prop) (m : Mem) (h : e0 a_0_0 a_0_1 a_0_2 a_0_3 R m) : HC P id #[.agg #[.int .u64 a_0_0, .int .u64 a_0_1, .int .u64 a_0_2, .int .u64 a_0_3]] m R := by
  refine HC_of (fn := fn) (c := body) (od := od) (tb := tb) Go.Proofs.Tryd.func26 (by kernel_rfl) (by kernel_rfl) follows (by kernel_rfl) (of_decide_eq_true (by kernel_rfl)) ?_
  have he : (e0A R).erase = body := by kernel_rfl
  rw [← he]
  refine acpt_sound (P := P) (e0A R) _ _ _ ⟨⟨⟨True.intro, ⟨(fun ρ m h => l1_ok  R ρ m h), True.intro⟩⟩, True.intro⟩, True.intro⟩ ?_
  exact Eq.mp (e0_eq a_0_0 a_0_1 a_0_2 a_0_3 R m) h
end eyotref8_Not

/-! ### eyot/eyotref8.Of -/
namespace eyotref8_Of
noncomputable def fn : Func := Go.Proofs.Tryd.f27
noncomputable def body : Code := fn.body.getD .skip
def od : Nat → Ord := fun | 5 => ordL [(0, 3), (1, 3), (2, 3), (3, 1), (4, 3), (5, 3), (6, 1), (7, 3), (8, 3), (9, 3), (10, 0), (11, 3), (12, 3), (13, 3), (14, 3), (15, 2)] .done | _ => .done
def tb : Nat → Tab := fun | 5 => (32768, [0, 0, 3, 7, 15, 31, 63, 0, 0, 384, 896, 1920, 3968, 8191, 16383, 32767], [(0, 1, 12), (0, 16, 13), (3, 6144, 14), (4, 8192, 15), (8, 16384, 16), (16, 32776, 17), (32, 65536, 18), (0, 1, 19), (0, 16, 20), (384, 786432, 21), (512, 1048576, 22), (1024, 2097152, 23), (2048, 4194304, 24), (4160, 8519680, 25), (16383, 32776, 26), (32767, 50331648, 0)]) | _ => (0, [], [])
def l1E (K : Option Addr → Nat → Nat → Nat → Nat → Nat → Nat → Int → Mem → Prop) : Env → Mem → Prop := fun ρ m => UnS (ρ 0) fun l_0a l_0l l_0c => UnPA (ρ 2) fun x2b x2o => UnPA (ρ 3) fun s_3b s_3o => UnI (ρ 4) .i64 fun i_4 => K l_0a l_0l l_0c x2b x2o s_3b s_3o i_4 m
def l1B  (K1 : Option Addr → Nat → Nat → Nat → Nat → Nat → Nat → Int → Mem → Prop) (l_0a : Option Addr) (l_0l : Nat) (l_0c : Nat) (x2b : Nat) (x2o : Nat) (s_3b : Nat) (s_3o : Nat) (i_4 : Int) (R : Ending → Mem → Prop) (m : Mem) : Prop :=
  Br (decide (i_4 < ((l_0l : Nat) : Int))) (
    Sub m fun r1 =>
    IxS l_0a l_0l i_4 1 fun x13b x13o =>
    LdV r1 x13b x13o fun v =>
    UnI v .u8 fun x14 =>
    0 ≤ (IntKind.u8.wrap (Int.tdiv x14 64) : Int) ∧ (IntKind.u8.wrap (Int.tdiv x14 64) : Int) < (4 : Nat) ∧ (
      LdV r1 s_3b (s_3o + (IntKind.u8.wrap (Int.tdiv x14 64) : Int).toNat * 1) fun v =>
      UnI v .u64 fun x17 =>
      IxS l_0a l_0l i_4 1 fun x20b x20o =>
      LdV m x20b x20o fun v =>
      UnI v .u8 fun x21 =>
      NnI (Int.tmod x21 64) (
        0 ≤ (IntKind.u8.wrap (Int.tdiv x14 64) : Int) ∧ (IntKind.u8.wrap (Int.tdiv x14 64) : Int) < (4 : Nat) ∧ (
          St1 m s_3b (s_3o + (IntKind.u8.wrap (Int.tdiv x14 64) : Int).toNat * 1) (.int .u64 (bitsV .or .u64 x17 (shlV .u64 1 (Int.tmod x21 64)))) fun m2 =>
          K1 l_0a l_0l l_0c x2b x2o s_3b s_3o (IntKind.i64.wrap (i_4 + 1)) m2)))) (
    LdV m s_3b s_3o fun v =>
    UnI v .u64 fun x26_0 =>
    LdV m s_3b (s_3o + 1) fun v =>
    UnI v .u64 fun x26_1 =>
    LdV m s_3b (s_3o + 2) fun v =>
    UnI v .u64 fun x26_2 =>
    LdV m s_3b (s_3o + 3) fun v =>
    UnI v .u64 fun x26_3 =>
    St1 m x2b x2o (.int .u64 x26_0) fun m1 =>
    St1 m1 x2b (x2o + 1) (.int .u64 x26_1) fun m2 =>
    St1 m2 x2b (x2o + 2) (.int .u64 x26_2) fun m3 =>
    St1 m3 x2b (x2o + 3) (.int .u64 x26_3) fun m4 =>
    LdV m4 x2b x2o fun v =>
    UnI v .u64 fun res0_0 =>
    LdV m4 x2b (x2o + 1) fun v =>
    UnI v .u64 fun res0_1 =>
    LdV m4 x2b (x2o + 2) fun v =>
    UnI v .u64 fun res0_2 =>
    LdV m4 x2b (x2o + 3) fun v =>
    UnI v .u64 fun res0_3 =>
    R (.returned (.agg #[.int .u64 res0_0, .int .u64 res0_1, .int .u64 res0_2, .int .u64 res0_3])) m4)
def l1  (l_0a : Option Addr) (l_0l : Nat) (l_0c : Nat) (x2b : Nat) (x2o : Nat) (s_3b : Nat) (s_3o : Nat) (i_4 : Int) (R : Ending → Mem → Prop) (m : Mem) : Prop :=
  ∃ (I : Nat → Option Addr → Nat → Nat → Nat → Nat → Nat → Nat → Int → Mem → Prop) (N : Nat), I N l_0a l_0l l_0c x2b x2o s_3b s_3o i_4 m ∧ ∀ N l_0a l_0l l_0c x2b x2o s_3b s_3o i_4 m, I N l_0a l_0l l_0c x2b x2o s_3b s_3o i_4 m → l1B  (fun l_0a l_0l l_0c x2b x2o s_3b s_3o i_4 m => ∃ N1, N1 < N ∧ I N1 l_0a l_0l l_0c x2b x2o s_3b s_3o i_4 m) l_0a l_0l l_0c x2b x2o s_3b s_3o i_4 R m
noncomputable def l1A  (K1 : Option Addr → Nat → Nat → Nat → Nat → Nat → Nat → Int → Mem → Prop) (R : Ending → Mem → Prop) : ACode := (.code (lP (bB (sR (sL (sR (sR (body))))))))
def e0 (l_0a : Option Addr) (l_0l : Nat) (l_0c : Nat) (R : Ending → Mem → Prop) (m : Mem) : Prop :=
  NewC m #[.int .u64 0, .int .u64 0, .int .u64 0, .int .u64 0] T_api_Set fun b2 m1 =>
  NewC m1 #[.int .u64 0, .int .u64 0, .int .u64 0, .int .u64 0] T_api_Set fun b_s_3 m2 =>
  l1  l_0a l_0l l_0c b2 0 b_s_3 0 0 R m2
noncomputable def e0A (R : Ending → Mem → Prop) : ACode := (.seq (.code (sL (body))) (.seq (.code (sL (sR (body)))) (.seq (.seq (.code (sL (sL (sR (sR (body)))))) (.block 0 (.cut (l1E fun l_0a l_0l l_0c x2b x2o s_3b s_3o i_4 m => l1  l_0a l_0l l_0c x2b x2o s_3b s_3o i_4 R m) (.loop (lP (bB (sR (sL (sR (sR (body))))))))))) (.code (sR (sR (sR (body))))))))
theorem l1_eq  (K1 : Option Addr → Nat → Nat → Nat → Nat → Nat → Nat → Int → Mem → Prop) (R : Ending → Mem → Prop) (l_0a : Option Addr) (l_0l : Nat) (l_0c : Nat) (x2b : Nat) (x2o : Nat) (s_3b : Nat) (s_3o : Nat) (i_4 : Int) (ρ : Env) (m : Mem) : l1B  K1 l_0a l_0l l_0c x2b x2o s_3b s_3o i_4 R m = acpt P od (panicR R) (l1A  K1 R) (thenQ (l1E K1) (blockQ 0 (thenQ (acpt P od (panicR R) (.code (sR (sR (sR (body))))) (bodyQ P fn R)) (bodyQ P fn R)))) (upd (upd (upd (upd ρ 4 (.int .i64 i_4)) 3 (.pointer (some ⟨s_3b, s_3o, none⟩))) 2 (.pointer (some ⟨x2b, x2o, none⟩))) 0 (.slice l_0a l_0l l_0c)) m := by kernel_rfl
theorem l1_er  (K1 : Option Addr → Nat → Nat → Nat → Nat → Nat → Nat → Int → Mem → Prop) (R : Ending → Mem → Prop) : (l1A  K1 R).erase = lP (bB (sR (sL (sR (sR (body)))))) := by kernel_rfl
theorem l1_ok  (R : Ending → Mem → Prop) (ρ : Env) (m : Mem) (h : (l1E fun l_0a l_0l l_0c x2b x2o s_3b s_3o i_4 m => l1  l_0a l_0l l_0c x2b x2o s_3b s_3o i_4 R m) ρ m) : cpt P od (panicR R) (.loop (lP (bB (sR (sL (sR (sR (body)))))))) (blockQ 0 (thenQ (acpt P od (panicR R) (.code (sR (sR (sR (body))))) (bodyQ P fn R)) (bodyQ P fn R))) ρ m := by
  unfold l1E at h
  obtain ⟨l_0a, l_0l, l_0c, e0, h⟩ := h.ex
  obtain ⟨x2b, x2o, e2, h⟩ := h.ex
  obtain ⟨s_3b, s_3o, e3, h⟩ := h.ex
  obtain ⟨i_4, e4, h⟩ := h.ex
  obtain ⟨I, N, h0, hs⟩ := h
  refine ⟨fun N => l1E (I N), N, (by show l1E (I N) ρ m; unfold l1E; rw [e0, e2, e3, e4]; exact h0), ?_⟩
  clear h0 e0 e2 e3 e4
  intro N ρ m h
  unfold l1E at h
  obtain ⟨l_0a, l_0l, l_0c, e0, h⟩ := h.ex
  obtain ⟨x2b, x2o, e2, h⟩ := h.ex
  obtain ⟨s_3b, s_3o, e3, h⟩ := h.ex
  obtain ⟨i_4, e4, h⟩ := h.ex
  refine cpt_mono (P := P) (lP (bB (sR (sL (sR (sR (body))))))) (Q := thenQ (l1E fun l_0a l_0l l_0c x2b x2o s_3b s_3o i_4 m => ∃ N1, N1 < N ∧ I N1 l_0a l_0l l_0c x2b x2o s_3b s_3o i_4 m) (blockQ 0 (thenQ (acpt P od (panicR R) (.code (sR (sR (sR (body))))) (bodyQ P fn R)) (bodyQ P fn R)))) (fun e ρ m h => ?_) ρ m ?_
  · cases e with
    | normal =>
      have h : l1E (fun l_0a l_0l l_0c x2b x2o s_3b s_3o i_4 m => ∃ N1, N1 < N ∧ I N1 l_0a l_0l l_0c x2b x2o s_3b s_3o i_4 m) ρ m := h
      unfold l1E at h
      obtain ⟨l_0a, l_0l, l_0c, e0, h⟩ := h.ex
      obtain ⟨x2b, x2o, e2, h⟩ := h.ex
      obtain ⟨s_3b, s_3o, e3, h⟩ := h.ex
      obtain ⟨i_4, e4, h⟩ := h.ex
      obtain ⟨N1, hlt, h⟩ := h
      exact ⟨N1, hlt, (by show l1E (I N1) ρ m; unfold l1E; rw [e0, e2, e3, e4]; exact h)⟩
    | _ => exact h
  have hh := hs N l_0a l_0l l_0c x2b x2o s_3b s_3o i_4 m h
  generalize (fun l_0a l_0l l_0c x2b x2o s_3b s_3o i_4 m => ∃ N1, N1 < N ∧ I N1 l_0a l_0l l_0c x2b x2o s_3b s_3o i_4 m : Option Addr → Nat → Nat → Nat → Nat → Nat → Nat → Int → Mem → Prop) = K1 at hh ⊢
  rw [← upd_self e0, ← upd_self e2, ← upd_self e3, ← upd_self e4]
  rw [← l1_er  K1 R]
  refine acpt_sound (P := P) (l1A  K1 R) _ _ _ True.intro ?_
  exact Eq.mp (l1_eq  K1 R l_0a l_0l l_0c x2b x2o s_3b s_3o i_4 ρ m) hh
theorem e0_eq (l_0a : Option Addr) (l_0l : Nat) (l_0c : Nat) (R : Ending → Mem → Prop) (m : Mem) : e0 l_0a l_0l l_0c R m = acpt P od (panicR R) (e0A R) (bodyQ P fn R) (argE (#[.slice l_0a l_0l l_0c] : Array Value).toList) m := by kernel_rfl
theorem ok (l_0a : Option Addr) (l_0l : Nat) (l_0c : Nat) (R : Ending → Mem → Prop) (m : Mem) (h : e0 l_0a l_0l l_0c R m) : HC P id #[.slice l_0a l_0l l_0c] m R := by
  refine HC_of (fn := fn) (c := body) (od := od) (tb := tb) Go.Proofs.Tryd.func27 (by kernel_rfl) (by kernel_rfl) follows (by kernel_rfl) (of_decide_eq_true (by kernel_rfl)) ?_
  have he : (e0A R).erase = body := by kernel_rfl
  rw [← he]
  refine acpt_sound (P := P) (e0A R) _ _ _ ⟨⟨⟨True.intro, ⟨(fun ρ m h => l1_ok  R ρ m h), True.intro⟩⟩, True.intro⟩, True.intro⟩ ?_
  exact Eq.mp (e0_eq l_0a l_0l l_0c R m) h
end eyotref8_Of

end
end Go.E
