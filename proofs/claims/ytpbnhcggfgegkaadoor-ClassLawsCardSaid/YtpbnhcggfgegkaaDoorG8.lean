/- Printed by this project's own gen.py: the shallow forms of Go functions over the logic H, and that the machine meets them. -/
import Derived.Test.YtpbnhcggfgegkaaDoorH7
import Derived.Test.YtpbnhcggfgegkaaDoorProg
set_option linter.unusedVariables false
set_option maxRecDepth 100000
namespace Go.E
open Go.H
noncomputable section
noncomputable abbrev P : Program := Go.Proofs.Tryd.prog
theorem follows : P.follows .mixedOrders = true := by kernel_rfl
abbrev T_ : TypeId := 0
abbrev T_api_Errno : TypeId := 26
abbrev T_api_Set : TypeId := 25
abbrev T_api_Set_int_api_Errno : TypeId := 27
abbrev T_arr0_ptr_runtime_PanicNilError : TypeId := 74
abbrev T_arr2_uint8 : TypeId := 57
abbrev T_arr4_uint64 : TypeId := 24
abbrev T_arr64_uint8 : TypeId := 70
abbrev T_bool : TypeId := 4
abbrev T_class_reader : TypeId := 51
abbrev T_class_refusal : TypeId := 47
abbrev T_class_refusal_bool : TypeId := 48
abbrev T_int : TypeId := 3
abbrev T_int32 : TypeId := 21
abbrev T_int64 : TypeId := 2
abbrev T_internal_abi_BoundsErrorCode : TypeId := 6
abbrev T_internal_abi_Kind : TypeId := 80
abbrev T_internal_abi_NameOff : TypeId := 83
abbrev T_internal_abi_TFlag : TypeId := 79
abbrev T_internal_abi_Type : TypeId := 86
abbrev T_internal_abi_TypeOff : TypeId := 84
abbrev T_internal_runtime_maps_unhashableTypeError : TypeId := 19
abbrev T_ptr_class_reader : TypeId := 49
abbrev T_ptr_internal_abi_Type : TypeId := 17
abbrev T_ptr_runtime_PanicNilError : TypeId := 16
abbrev T_ptr_runtime_TypeAssertionError : TypeId := 15
abbrev T_ptr_uint8 : TypeId := 82
abbrev T_runtime_PanicNilError : TypeId := 76
abbrev T_runtime_TypeAssertionError : TypeId := 73
abbrev T_runtime_boundsError : TypeId := 8
abbrev T_runtime_errorAddressString : TypeId := 14
abbrev T_runtime_errorString : TypeId := 10
abbrev T_runtime_plainError : TypeId := 11
abbrev T_sl_arr2_uint8 : TypeId := 55
abbrev T_sl_uint8 : TypeId := 33
abbrev T_string : TypeId := 9
abbrev T_struct13 : TypeId := 13
abbrev T_struct18 : TypeId := 18
abbrev T_struct46 : TypeId := 46
abbrev T_struct50 : TypeId := 50
abbrev T_struct7 : TypeId := 7
abbrev T_struct72 : TypeId := 72
abbrev T_struct75 : TypeId := 75
abbrev T_struct85 : TypeId := 85
abbrev T_t1 : TypeId := 1
abbrev T_t20 : TypeId := 20
abbrev T_t22 : TypeId := 22
abbrev T_t28 : TypeId := 28
abbrev T_t29 : TypeId := 29
abbrev T_t30 : TypeId := 30
abbrev T_t31 : TypeId := 31
abbrev T_t32 : TypeId := 32
abbrev T_t34 : TypeId := 34
abbrev T_t35 : TypeId := 35
abbrev T_t36 : TypeId := 36
abbrev T_t37 : TypeId := 37
abbrev T_t38 : TypeId := 38
abbrev T_t39 : TypeId := 39
abbrev T_t40 : TypeId := 40
abbrev T_t41 : TypeId := 41
abbrev T_t43 : TypeId := 43
abbrev T_t44 : TypeId := 44
abbrev T_t45 : TypeId := 45
abbrev T_t52 : TypeId := 52
abbrev T_t54 : TypeId := 54
abbrev T_t56 : TypeId := 56
abbrev T_t58 : TypeId := 58
abbrev T_t59 : TypeId := 59
abbrev T_t60 : TypeId := 60
abbrev T_t61 : TypeId := 61
abbrev T_t62 : TypeId := 62
abbrev T_t63 : TypeId := 63
abbrev T_t64 : TypeId := 64
abbrev T_t65 : TypeId := 65
abbrev T_t66 : TypeId := 66
abbrev T_t67 : TypeId := 67
abbrev T_t69 : TypeId := 69
abbrev T_t71 : TypeId := 71
abbrev T_t77 : TypeId := 77
abbrev T_t81 : TypeId := 81
abbrev T_uint : TypeId := 68
abbrev T_uint32 : TypeId := 78
abbrev T_uint64 : TypeId := 23
abbrev T_uint8 : TypeId := 5
abbrev T_uint8_bool : TypeId := 42
abbrev T_uint8_int : TypeId := 53
abbrev T_uintptr : TypeId := 12
abbrev T_unsafe_Pointer : TypeId := 87
namespace class_Parse_1
def id : FuncId := 28
end class_Parse_1
namespace internal_bytealg_IndexByteString
def id : FuncId := 51
end internal_bytealg_IndexByteString
def eyotlaw8_ClassParses.id : FuncId := 3
def eyotlaw8_ClassBack.id : FuncId := 4
def eyotlaw8_ClassJoins.id : FuncId := 5
def eyotlaw8_ClassRuns.id : FuncId := 6
def eyotlaw8_ClassSigns.id : FuncId := 7
def eyotlaw8_ClassAll.id : FuncId := 8
def eyotlaw8_ClassLaws.id : FuncId := 9
def eyotlaw8_begun.id : FuncId := 10
def class_Parse.id : FuncId := 11
def eyotref8_Class.id : FuncId := 12
def eyotref8_Empty.id : FuncId := 13
def class_Show.id : FuncId := 14
def eyotlaw8_sign.id : FuncId := 15
def class_Or.id : FuncId := 16
def class_Of.id : FuncId := 17
def class_Not.id : FuncId := 18
def eyotref8_ShowClass.id : FuncId := 19
def class_Has.id : FuncId := 20
def class_Least.id : FuncId := 21
def eyotref8_Has.id : FuncId := 22
def eyotref8_Or.id : FuncId := 23
def class_And.id : FuncId := 24
def eyotref8_And.id : FuncId := 25
def eyotref8_Not.id : FuncId := 26
def eyotref8_Of.id : FuncId := 27
def class_reader_class.id : FuncId := 29
def eyotref8_sign.id : FuncId := 30
def class_runs.id : FuncId := 31
def class_sign.id : FuncId := 32
def class_shown.id : FuncId := 33
def class_with.id : FuncId := 34
def class_Or_1.id : FuncId := 35
def class_Not_1.id : FuncId := 36
def eyotref8_list.id : FuncId := 37
def eyotref8_shown.id : FuncId := 38
def math_bits_TrailingZeros64.id : FuncId := 39
def class_And_1.id : FuncId := 40
def class_reader_next.id : FuncId := 41
def class_reader_take.id : FuncId := 42
def class_reader_sign.id : FuncId := 43
def class_run.id : FuncId := 44
def class_reader_part.id : FuncId := 45
def eyotref8_in.id : FuncId := 46
def eyotref8_digit.id : FuncId := 47
def strings_IndexByte.id : FuncId := 48
def class_reader_digit.id : FuncId := 49
def internal_stringslite_IndexByte.id : FuncId := 50
/-! ### eyot/eyotlaw8.ClassParses -/
namespace eyotlaw8_ClassParses
noncomputable def fn : Func := Go.Proofs.Tryd.f3
noncomputable def body : Code := fn.body.getD .skip
def od : Nat → Ord := fun _ => .done
def tb : Nat → Tab := fun _ => (0, [], [])
def e0 (s_0 : ByteArray) (R : Ending → Mem → Prop) (m : Mem) : Prop :=
  HC P eyotlaw8_begun.id #[] m (Cont (fun v m1 =>
      UnB v fun x9 =>
      Br (!x9) (
        R (.returned (.bool false)) m1) (
        Br (decide ((s_0.size : Int) > 40)) (
          R (.returned (.bool true)) m1) (
          HC P class_Parse.id #[.string s_0] m1 (Cont (fun v m2 =>
              UnTup v fun us0 =>
              UnCons us0 fun w us1 =>
              UnAgg w fun l =>
              UnCons l fun v l =>
              UnI v .u64 fun x16_0_0 =>
              UnCons l fun v l =>
              UnI v .u64 fun x16_0_1 =>
              UnCons l fun v l =>
              UnI v .u64 fun x16_0_2 =>
              UnCons l fun v l =>
              UnI v .u64 fun x16_0_3 =>
              UnNil l (
                UnCons us1 fun w us2 =>
                UnI w .i64 fun x16_1 =>
                UnCons us2 fun w us3 =>
                UnI w .i64 fun x16_2 =>
                UnNil us3 (
                  NewC m2 #[.int .u64 0, .int .u64 0, .int .u64 0, .int .u64 0] T_api_Set fun b_a_3 m3 =>
                  St1 m3 b_a_3 0 (.int .u64 x16_0_0) fun m4 =>
                  St1 m4 b_a_3 1 (.int .u64 x16_0_1) fun m5 =>
                  St1 m5 b_a_3 2 (.int .u64 x16_0_2) fun m6 =>
                  St1 m6 b_a_3 3 (.int .u64 x16_0_3) fun m7 =>
                  HC P eyotref8_Class.id #[.string s_0] m7 (Cont (fun v m8 =>
                      UnTup v fun us0 =>
                      UnCons us0 fun w us1 =>
                      UnAgg w fun l =>
                      UnCons l fun v l =>
                      UnI v .u64 fun x22_0_0 =>
                      UnCons l fun v l =>
                      UnI v .u64 fun x22_0_1 =>
                      UnCons l fun v l =>
                      UnI v .u64 fun x22_0_2 =>
                      UnCons l fun v l =>
                      UnI v .u64 fun x22_0_3 =>
                      UnNil l (
                        UnCons us1 fun w us2 =>
                        UnI w .i64 fun x22_1 =>
                        UnCons us2 fun w us3 =>
                        UnI w .i64 fun x22_2 =>
                        UnNil us3 (
                        NewC m8 #[.int .u64 0, .int .u64 0, .int .u64 0, .int .u64 0] T_api_Set fun b_6 m9 =>
                        St1 m9 b_6 0 (.int .u64 x22_0_0) fun m10 =>
                        St1 m10 b_6 1 (.int .u64 x22_0_1) fun m11 =>
                        St1 m11 b_6 2 (.int .u64 x22_0_2) fun m12 =>
                        St1 m12 b_6 3 (.int .u64 x22_0_3) fun m13 =>
                        LdV m13 b_a_3 0 fun v =>
                        UnI v .u64 fun x26_0 =>
                        LdV m13 b_a_3 1 fun v =>
                        UnI v .u64 fun x26_1 =>
                        LdV m13 b_a_3 2 fun v =>
                        UnI v .u64 fun x26_2 =>
                        LdV m13 b_a_3 3 fun v =>
                        UnI v .u64 fun x26_3 =>
                        LdV m13 b_6 0 fun v =>
                        UnI v .u64 fun x27_0 =>
                        LdV m13 b_6 1 fun v =>
                        UnI v .u64 fun x27_1 =>
                        LdV m13 b_6 2 fun v =>
                        UnI v .u64 fun x27_2 =>
                        LdV m13 b_6 3 fun v =>
                        UnI v .u64 fun x27_3 =>
                        Br (eqL [.int .u64 x26_0, .int .u64 x26_1, .int .u64 x26_2, .int .u64 x26_3] [.int .u64 x27_0, .int .u64 x27_1, .int .u64 x27_2, .int .u64 x27_3]) (
                        Br (x16_1 == x22_1) (
                        R (.returned (.bool (x16_2 == x22_2))) m13) (
                        R (.returned (.bool false)) m13)) (
                        R (.returned (.bool false)) m13)))) (panicR R))))) (panicR R))))) (panicR R))
noncomputable def e0A (R : Ending → Mem → Prop) : ACode := (.code (body))
theorem e0_eq (s_0 : ByteArray) (R : Ending → Mem → Prop) (m : Mem) : e0 s_0 R m = acpt P od (panicR R) (e0A R) (bodyQ P fn R) (argE (#[.string s_0] : Array Value).toList) m := by kernel_rfl
theorem ok (s_0 : ByteArray) (R : Ending → Mem → Prop) (m : Mem) (h : e0 s_0 R m) : HC P id #[.string s_0] m R := by
  refine HC_of (fn := fn) (c := body) (od := od) (tb := tb) Go.Proofs.Tryd.func3 (by kernel_rfl) (by kernel_rfl) follows (by kernel_rfl) (of_decide_eq_true (by kernel_rfl)) ?_
  have he : (e0A R).erase = body := by kernel_rfl
  rw [← he]
  refine acpt_sound (P := P) (e0A R) _ _ _ True.intro ?_
  exact Eq.mp (e0_eq s_0 R m) h
end eyotlaw8_ClassParses

/-! ### eyot/eyotlaw8.ClassBack -/
namespace eyotlaw8_ClassBack
noncomputable def fn : Func := Go.Proofs.Tryd.f4
noncomputable def body : Code := fn.body.getD .skip
def od : Nat → Ord := fun _ => .done
def tb : Nat → Tab := fun _ => (0, [], [])
def e0 (s_0_0 : Int) (s_0_1 : Int) (s_0_2 : Int) (s_0_3 : Int) (more_1 : ByteArray) (R : Ending → Mem → Prop) (m : Mem) : Prop :=
  NewC m #[.int .u64 s_0_0, .int .u64 s_0_1, .int .u64 s_0_2, .int .u64 s_0_3] T_api_Set fun b_s_2 m1 =>
  HC P eyotlaw8_begun.id #[] m1 (Cont (fun v m2 =>
      UnB v fun x9 =>
      Br (!x9) (
        R (.returned (.bool false)) m2) (
        Br (decide ((more_1.size : Int) > 20)) (
          R (.returned (.bool true)) m2) (
          LdV m2 b_s_2 0 fun v =>
          UnI v .u64 fun x15_0 =>
          LdV m2 b_s_2 1 fun v =>
          UnI v .u64 fun x15_1 =>
          LdV m2 b_s_2 2 fun v =>
          UnI v .u64 fun x15_2 =>
          LdV m2 b_s_2 3 fun v =>
          UnI v .u64 fun x15_3 =>
          HC P eyotref8_Empty.id #[.agg #[.int .u64 x15_0, .int .u64 x15_1, .int .u64 x15_2, .int .u64 x15_3]] m2 (Cont (fun v m3 =>
              UnB v fun x16 =>
              Br x16 (
                R (.returned (.bool true)) m3) (
                LdV m3 b_s_2 0 fun v =>
                UnI v .u64 fun x18_0 =>
                LdV m3 b_s_2 1 fun v =>
                UnI v .u64 fun x18_1 =>
                LdV m3 b_s_2 2 fun v =>
                UnI v .u64 fun x18_2 =>
                LdV m3 b_s_2 3 fun v =>
                UnI v .u64 fun x18_3 =>
                HC P class_Show.id #[.agg #[.int .u64 x18_0, .int .u64 x18_1, .int .u64 x18_2, .int .u64 x18_3]] m3 (Cont (fun v m4 =>
                    UnStr v fun x19 =>
                    CatB x19 more_1 (
                      HC P class_Parse.id #[.string (x19 ++ more_1)] m4 (Cont (fun v m5 =>
                        UnTup v fun us0 =>
                        UnCons us0 fun w us1 =>
                        UnAgg w fun l =>
                        UnCons l fun v l =>
                        UnI v .u64 fun x24_0_0 =>
                        UnCons l fun v l =>
                        UnI v .u64 fun x24_0_1 =>
                        UnCons l fun v l =>
                        UnI v .u64 fun x24_0_2 =>
                        UnCons l fun v l =>
                        UnI v .u64 fun x24_0_3 =>
                        UnNil l (
                        UnCons us1 fun w us2 =>
                        UnI w .i64 fun x24_1 =>
                        UnCons us2 fun w us3 =>
                        UnI w .i64 fun x24_2 =>
                        UnNil us3 (
                        NewC m5 #[.int .u64 0, .int .u64 0, .int .u64 0, .int .u64 0] T_api_Set fun b_a_6 m6 =>
                        St1 m6 b_a_6 0 (.int .u64 x24_0_0) fun m7 =>
                        St1 m7 b_a_6 1 (.int .u64 x24_0_1) fun m8 =>
                        St1 m8 b_a_6 2 (.int .u64 x24_0_2) fun m9 =>
                        St1 m9 b_a_6 3 (.int .u64 x24_0_3) fun m10 =>
                        Br (x24_2 == 0) (
                        Br (x24_1 == (x19.size : Int)) (
                        LdV m10 b_a_6 0 fun v =>
                        UnI v .u64 fun x37_0 =>
                        LdV m10 b_a_6 1 fun v =>
                        UnI v .u64 fun x37_1 =>
                        LdV m10 b_a_6 2 fun v =>
                        UnI v .u64 fun x37_2 =>
                        LdV m10 b_a_6 3 fun v =>
                        UnI v .u64 fun x37_3 =>
                        LdV m10 b_s_2 0 fun v =>
                        UnI v .u64 fun x38_0 =>
                        LdV m10 b_s_2 1 fun v =>
                        UnI v .u64 fun x38_1 =>
                        LdV m10 b_s_2 2 fun v =>
                        UnI v .u64 fun x38_2 =>
                        LdV m10 b_s_2 3 fun v =>
                        UnI v .u64 fun x38_3 =>
                        R (.returned (.bool (eqL [.int .u64 x37_0, .int .u64 x37_1, .int .u64 x37_2, .int .u64 x37_3] [.int .u64 x38_0, .int .u64 x38_1, .int .u64 x38_2, .int .u64 x38_3]))) m10) (
                        R (.returned (.bool false)) m10)) (
                        R (.returned (.bool false)) m10)))) (panicR R)))) (panicR R)))) (panicR R))))) (panicR R))
noncomputable def e0A (R : Ending → Mem → Prop) : ACode := (.code (body))
theorem e0_eq (s_0_0 : Int) (s_0_1 : Int) (s_0_2 : Int) (s_0_3 : Int) (more_1 : ByteArray) (R : Ending → Mem → Prop) (m : Mem) : e0 s_0_0 s_0_1 s_0_2 s_0_3 more_1 R m = acpt P od (panicR R) (e0A R) (bodyQ P fn R) (argE (#[.agg #[.int .u64 s_0_0, .int .u64 s_0_1, .int .u64 s_0_2, .int .u64 s_0_3], .string more_1] : Array Value).toList) m := by kernel_rfl
theorem ok (s_0_0 : Int) (s_0_1 : Int) (s_0_2 : Int) (s_0_3 : Int) (more_1 : ByteArray) (R : Ending → Mem → Prop) (m : Mem) (h : e0 s_0_0 s_0_1 s_0_2 s_0_3 more_1 R m) : HC P id #[.agg #[.int .u64 s_0_0, .int .u64 s_0_1, .int .u64 s_0_2, .int .u64 s_0_3], .string more_1] m R := by
  refine HC_of (fn := fn) (c := body) (od := od) (tb := tb) Go.Proofs.Tryd.func4 (by kernel_rfl) (by kernel_rfl) follows (by kernel_rfl) (of_decide_eq_true (by kernel_rfl)) ?_
  have he : (e0A R).erase = body := by kernel_rfl
  rw [← he]
  refine acpt_sound (P := P) (e0A R) _ _ _ True.intro ?_
  exact Eq.mp (e0_eq s_0_0 s_0_1 s_0_2 s_0_3 more_1 R m) h
end eyotlaw8_ClassBack

/-! ### eyot/eyotlaw8.ClassJoins -/
namespace eyotlaw8_ClassJoins
noncomputable def fn : Func := Go.Proofs.Tryd.f5
noncomputable def body : Code := fn.body.getD .skip
def od : Nat → Ord := fun | 17 => ordL [(0, 3), (1, 3), (2, 3), (3, 3), (4, 3), (5, 3), (6, 3), (7, 3), (8, 3), (9, 3), (10, 1), (11, 0), (12, 3), (13, 3), (14, 3), (15, 3), (16, 3), (17, 3), (18, 3), (19, 3), (20, 3), (21, 3), (22, 3), (23, 3), (24, 3), (25, 3), (26, 1), (27, 0), (28, 0), (29, 3), (30, 3), (31, 3), (32, 1), (34, 1), (33, 0), (35, 2), (36, 3), (37, 3), (38, 3)] .done | _ => .done
def tb : Nat → Tab := fun | 17 => (34359738368, [0, 1, 3, 7, 7, 23, 55, 127, 255, 511, 1023, 1023, 4095, 8191, 16383, 32767, 65535, 131071, 262143, 524287, 524287, 1572863, 3670015, 8388607, 16777215, 33554431, 67108863, 67108863, 201326591, 536870911, 1073741823, 2147483647, 4294967295, 8589934591, 4294967295, 34359738367, 68719476735, 137438953471, 274877906943], [(0, 1024, 83), (1, 4835703278458516698824704, 84), (2, 9671406556917033397649408, 85), (4, 19342813113834066795299328, 86), (4, 19342813113834066795298848, 87), (20, 96714065569170333976494080, 88), (36, 174085318024506601157689344, 89), (76, 367513449162847269110677504, 90), (132, 638312832756524204244860928, 91), (260, 1237940039285380274899124224, 92), (512, 2475880078570760549798248704, 93), (512, 2475880078570760549798264832, 94), (3584, 17331160549995323848587739136, 95), (4608, 22282920707136844948184236032, 96), (8704, 39614081257132168796771975168, 97), (16384, 79228162514264337593543958528, 98), (49152, 237684487542793012780631851008, 99), (81920, 396140812571321687967719751680, 100), (147456, 633825300114114700748351602688, 101), (262144, 1267650600228229401496703209472, 102), (262144, 1267650600228229401496703205408, 103), (1310720, 6338253001141147007483516026880, 104), (2359296, 11408855402054064613470328848384, 105), (4980736, 24085361404336358628437360902144, 106), (8650752, 41832469807531570249391205777408, 107), (17039360, 81129638414606681695789005144064, 108), (33554432, 162259276829213363391578010290176, 109), (33554432, 162259276829213363391578010304512, 110), (167772160, 811296384146066816957890051440640, 111), (369098752, 1784852045121346997307358113169408, 112), (570425344, 2758407706096627177656826174898176, 113), (1342177280, 5192296858534827628530496329220096, 114), (2147483648, 10384593717069655257060992658440448, 115), (6442450944, 31153781151208965771182977975320576, 116), (2147483648, 10384593717069655257060992658456576, 117), (27917287424, 93461343453626897313548933925961728, 118), (45097156608, 218076468058462760398280845827244032, 119), (70866960384, 342691592663298623483012757728526336, 120), (274877906943, 664613997892457936451903530140172288, 5)]) | _ => (0, [], [])
def k4E (K : Option Addr → Nat → Nat → Option Addr → Nat → Nat → ByteArray → Mem → Prop) : Env → Mem → Prop := fun ρ m => UnS (ρ 0) fun x0a x0l x0c => UnS (ρ 1) fun x1a x1l x1c => UnStr (ρ 5) fun x5 => K x0a x0l x0c x1a x1l x1c x5 m
def k4  (x0a : Option Addr) (x0l : Nat) (x0c : Nat) (x1a : Option Addr) (x1l : Nat) (x1c : Nat) (x5 : ByteArray) (R : Ending → Mem → Prop) (m : Mem) : Prop :=
  CatB (ByteArray.mk #[91]) x5 (
    CatB ((ByteArray.mk #[91]) ++ x5) (ByteArray.mk #[93]) (
      HC P class_Parse.id #[.string (((ByteArray.mk #[91]) ++ x5) ++ (ByteArray.mk #[93]))] m (Cont (fun v m1 =>
          UnTup v fun us0 =>
          UnCons us0 fun w us1 =>
          UnAgg w fun l =>
          UnCons l fun v l =>
          UnI v .u64 fun x65_0_0 =>
          UnCons l fun v l =>
          UnI v .u64 fun x65_0_1 =>
          UnCons l fun v l =>
          UnI v .u64 fun x65_0_2 =>
          UnCons l fun v l =>
          UnI v .u64 fun x65_0_3 =>
          UnNil l (
            UnCons us1 fun w us2 =>
            UnI w .i64 fun x65_1 =>
            UnCons us2 fun w us3 =>
            UnI w .i64 fun x65_2 =>
            UnNil us3 (
              NewC m1 #[.int .u64 0, .int .u64 0, .int .u64 0, .int .u64 0] T_api_Set fun b8 m2 =>
              St1 m2 b8 0 (.int .u64 x65_0_0) fun m3 =>
              St1 m3 b8 1 (.int .u64 x65_0_1) fun m4 =>
              St1 m4 b8 2 (.int .u64 x65_0_2) fun m5 =>
              St1 m5 b8 3 (.int .u64 x65_0_3) fun m6 =>
              CatB (ByteArray.mk #[91, 94]) x5 (
                CatB ((ByteArray.mk #[91, 94]) ++ x5) (ByteArray.mk #[93]) (
                  HC P class_Parse.id #[.string (((ByteArray.mk #[91, 94]) ++ x5) ++ (ByteArray.mk #[93]))] m6 (Cont (fun v m7 =>
                      UnTup v fun us0 =>
                      UnCons us0 fun w us1 =>
                      UnAgg w fun l =>
                      UnCons l fun v l =>
                      UnI v .u64 fun x73_0_0 =>
                      UnCons l fun v l =>
                      UnI v .u64 fun x73_0_1 =>
                      UnCons l fun v l =>
                      UnI v .u64 fun x73_0_2 =>
                      UnCons l fun v l =>
                      UnI v .u64 fun x73_0_3 =>
                      UnNil l (
                        UnCons us1 fun w us2 =>
                        UnI w .i64 fun x73_1 =>
                        UnCons us2 fun w us3 =>
                        UnI w .i64 fun x73_2 =>
                        UnNil us3 (
                        NewC m7 #[.int .u64 0, .int .u64 0, .int .u64 0, .int .u64 0] T_api_Set fun b11 m8 =>
                        St1 m8 b11 0 (.int .u64 x73_0_0) fun m9 =>
                        St1 m9 b11 1 (.int .u64 x73_0_1) fun m10 =>
                        St1 m10 b11 2 (.int .u64 x73_0_2) fun m11 =>
                        St1 m11 b11 3 (.int .u64 x73_0_3) fun m12 =>
                        HC P class_Of.id #[.slice x0a x0l x0c] m12 (Cont (fun v m13 =>
                        UnAgg v fun l =>
                        UnCons l fun v l =>
                        UnI v .u64 fun x78_0 =>
                        UnCons l fun v l =>
                        UnI v .u64 fun x78_1 =>
                        UnCons l fun v l =>
                        UnI v .u64 fun x78_2 =>
                        UnCons l fun v l =>
                        UnI v .u64 fun x78_3 =>
                        UnNil l (
                        HC P class_Of.id #[.slice x1a x1l x1c] m13 (Cont (fun v m14 =>
                        UnAgg v fun l =>
                        UnCons l fun v l =>
                        UnI v .u64 fun x80_0 =>
                        UnCons l fun v l =>
                        UnI v .u64 fun x80_1 =>
                        UnCons l fun v l =>
                        UnI v .u64 fun x80_2 =>
                        UnCons l fun v l =>
                        UnI v .u64 fun x80_3 =>
                        UnNil l (
                        HC P class_Or.id #[.agg #[.int .u64 x78_0, .int .u64 x78_1, .int .u64 x78_2, .int .u64 x78_3], .agg #[.int .u64 x80_0, .int .u64 x80_1, .int .u64 x80_2, .int .u64 x80_3]] m14 (Cont (fun v m15 =>
                        UnAgg v fun l =>
                        UnCons l fun v l =>
                        UnI v .u64 fun x81_0 =>
                        UnCons l fun v l =>
                        UnI v .u64 fun x81_1 =>
                        UnCons l fun v l =>
                        UnI v .u64 fun x81_2 =>
                        UnCons l fun v l =>
                        UnI v .u64 fun x81_3 =>
                        UnNil l (
                        NewC m15 #[.int .u64 0, .int .u64 0, .int .u64 0, .int .u64 0] T_api_Set fun b14 m16 =>
                        St1 m16 b14 0 (.int .u64 x81_0) fun m17 =>
                        St1 m17 b14 1 (.int .u64 x81_1) fun m18 =>
                        St1 m18 b14 2 (.int .u64 x81_2) fun m19 =>
                        St1 m19 b14 3 (.int .u64 x81_3) fun m20 =>
                        Sub m20 fun r21 =>
                        Br (x65_2 == 0) (
                        Br (x65_1 == (IntKind.i64.wrap ((x5.size : Int) + 2))) (
                        LdV r21 b8 0 fun v =>
                        UnI v .u64 fun x92_0 =>
                        LdV r21 b8 1 fun v =>
                        UnI v .u64 fun x92_1 =>
                        LdV r21 b8 2 fun v =>
                        UnI v .u64 fun x92_2 =>
                        LdV r21 b8 3 fun v =>
                        UnI v .u64 fun x92_3 =>
                        LdV m20 b14 0 fun v =>
                        UnI v .u64 fun x93_0 =>
                        LdV m20 b14 1 fun v =>
                        UnI v .u64 fun x93_1 =>
                        LdV m20 b14 2 fun v =>
                        UnI v .u64 fun x93_2 =>
                        LdV m20 b14 3 fun v =>
                        UnI v .u64 fun x93_3 =>
                        Br (eqL [.int .u64 x92_0, .int .u64 x92_1, .int .u64 x92_2, .int .u64 x92_3] [.int .u64 x93_0, .int .u64 x93_1, .int .u64 x93_2, .int .u64 x93_3]) (
                        Br (x73_2 == 0) (
                        Br (x73_1 == (IntKind.i64.wrap ((x5.size : Int) + 3))) (
                        LdV r21 b11 0 fun v =>
                        UnI v .u64 fun x108_0 =>
                        LdV r21 b11 1 fun v =>
                        UnI v .u64 fun x108_1 =>
                        LdV r21 b11 2 fun v =>
                        UnI v .u64 fun x108_2 =>
                        LdV r21 b11 3 fun v =>
                        UnI v .u64 fun x108_3 =>
                        LdV m20 b14 0 fun v =>
                        UnI v .u64 fun x109_0 =>
                        LdV m20 b14 1 fun v =>
                        UnI v .u64 fun x109_1 =>
                        LdV m20 b14 2 fun v =>
                        UnI v .u64 fun x109_2 =>
                        LdV m20 b14 3 fun v =>
                        UnI v .u64 fun x109_3 =>
                        HC P class_Not.id #[.agg #[.int .u64 x109_0, .int .u64 x109_1, .int .u64 x109_2, .int .u64 x109_3]] m20 (Cont (fun v m22 =>
                        UnAgg v fun l =>
                        UnCons l fun v l =>
                        UnI v .u64 fun x110_0 =>
                        UnCons l fun v l =>
                        UnI v .u64 fun x110_1 =>
                        UnCons l fun v l =>
                        UnI v .u64 fun x110_2 =>
                        UnCons l fun v l =>
                        UnI v .u64 fun x110_3 =>
                        UnNil l (
                        Lk r21 m22 fun r23 =>
                        Br (eqL [.int .u64 x108_0, .int .u64 x108_1, .int .u64 x108_2, .int .u64 x108_3] [.int .u64 x110_0, .int .u64 x110_1, .int .u64 x110_2, .int .u64 x110_3]) (
                        LdV r23 b8 0 fun v =>
                        UnI v .u64 fun x114_0 =>
                        LdV r23 b8 1 fun v =>
                        UnI v .u64 fun x114_1 =>
                        LdV r23 b8 2 fun v =>
                        UnI v .u64 fun x114_2 =>
                        LdV r23 b8 3 fun v =>
                        UnI v .u64 fun x114_3 =>
                        LdV r23 b14 0 fun v =>
                        UnI v .u64 fun x116_0 =>
                        LdV r23 b14 1 fun v =>
                        UnI v .u64 fun x116_1 =>
                        LdV r23 b14 2 fun v =>
                        UnI v .u64 fun x116_2 =>
                        LdV r23 b14 3 fun v =>
                        UnI v .u64 fun x116_3 =>
                        HC P class_Show.id #[.agg #[.int .u64 x114_0, .int .u64 x114_1, .int .u64 x114_2, .int .u64 x114_3]] m22 (Cont (fun v m24 =>
                        UnStr v fun x115 =>
                        Lk r23 m24 fun r25 =>
                        HC P eyotref8_ShowClass.id #[.agg #[.int .u64 x116_0, .int .u64 x116_1, .int .u64 x116_2, .int .u64 x116_3]] m24 (Cont (fun v m26 =>
                        UnStr v fun x117 =>
                        R (.returned (.bool (x115.toList == x117.toList))) m26) (panicR R))) (panicR R))) (
                        R (.returned (.bool false)) m22))) (panicR R))) (
                        R (.returned (.bool false)) m20)) (
                        R (.returned (.bool false)) m20)) (
                        R (.returned (.bool false)) m20)) (
                        R (.returned (.bool false)) m20)) (
                        R (.returned (.bool false)) m20))) (panicR R)))) (panicR R)))) (panicR R))))) (panicR R))))))) (panicR R))))
noncomputable def k4A  (R : Ending → Mem → Prop) : ACode := (.code (sR (sR (sR (sR (sR (sR (body))))))))
def l3E (K : Option Addr → Nat → Nat → Option Addr → Nat → Nat → ByteArray → Int → Mem → Prop) : Env → Mem → Prop := fun ρ m => UnS (ρ 0) fun x0a x0l x0c => UnS (ρ 1) fun x1a x1l x1c => UnStr (ρ 5) fun x5 => UnI (ρ 7) .i64 fun x7 => K x0a x0l x0c x1a x1l x1c x5 x7 m
def l3B  (K3 : Option Addr → Nat → Nat → Option Addr → Nat → Nat → ByteArray → Int → Mem → Prop) (x0a : Option Addr) (x0l : Nat) (x0c : Nat) (x1a : Option Addr) (x1l : Nat) (x1c : Nat) (x5 : ByteArray) (x7 : Int) (R : Ending → Mem → Prop) (m : Mem) : Prop :=
  Br (decide (x7 < ((x1l : Nat) : Int))) (
    IxS x1a x1l x7 1 fun x57b x57o =>
    LdV m x57b x57o fun v =>
    UnI v .u8 fun x58 =>
    HC P eyotlaw8_sign.id #[.int .u8 x58, .string (ByteArray.mk #[48, 49, 50, 51, 52, 53, 54, 55, 56, 57, 97, 98, 99, 100, 101, 102])] m (Cont (fun v m1 =>
        UnStr v fun x59 =>
        CatB x5 x59 (
          K3 x0a x0l x0c x1a x1l x1c (x5 ++ x59) (IntKind.i64.wrap (x7 + 1)) m1)) (panicR R))) (
    k4  x0a x0l x0c x1a x1l x1c x5 R m)
def l3  (x0a : Option Addr) (x0l : Nat) (x0c : Nat) (x1a : Option Addr) (x1l : Nat) (x1c : Nat) (x5 : ByteArray) (x7 : Int) (R : Ending → Mem → Prop) (m : Mem) : Prop :=
  ∃ (I : Nat → Option Addr → Nat → Nat → Option Addr → Nat → Nat → ByteArray → Int → Mem → Prop) (N : Nat), I N x0a x0l x0c x1a x1l x1c x5 x7 m ∧ ∀ N x0a x0l x0c x1a x1l x1c x5 x7 m, I N x0a x0l x0c x1a x1l x1c x5 x7 m → l3B  (fun x0a x0l x0c x1a x1l x1c x5 x7 m => ∃ N1, N1 < N ∧ I N1 x0a x0l x0c x1a x1l x1c x5 x7 m) x0a x0l x0c x1a x1l x1c x5 x7 R m
noncomputable def l3A  (K3 : Option Addr → Nat → Nat → Option Addr → Nat → Nat → ByteArray → Int → Mem → Prop) (R : Ending → Mem → Prop) : ACode := (.code (lP (bB (sR (sL (sR (sR (sR (sR (sR (body)))))))))))
def k2E (K : Option Addr → Nat → Nat → Option Addr → Nat → Nat → ByteArray → Mem → Prop) : Env → Mem → Prop := fun ρ m => UnS (ρ 0) fun x0a x0l x0c => UnS (ρ 1) fun x1a x1l x1c => UnStr (ρ 5) fun x5 => K x0a x0l x0c x1a x1l x1c x5 m
def k2  (x0a : Option Addr) (x0l : Nat) (x0c : Nat) (x1a : Option Addr) (x1l : Nat) (x1c : Nat) (x5 : ByteArray) (R : Ending → Mem → Prop) (m : Mem) : Prop :=
  l3  x0a x0l x0c x1a x1l x1c x5 0 R m
noncomputable def k2A  (R : Ending → Mem → Prop) : ACode := (.seq (.seq (.code (sL (sL (sR (sR (sR (sR (sR (body))))))))) (.block 2 (.cut (l3E fun x0a x0l x0c x1a x1l x1c x5 x7 m => l3  x0a x0l x0c x1a x1l x1c x5 x7 R m) (.loop (lP (bB (sR (sL (sR (sR (sR (sR (sR (body)))))))))))))) (.cut (k4E fun x0a x0l x0c x1a x1l x1c x5 m => k4  x0a x0l x0c x1a x1l x1c x5 R m) (sR (sR (sR (sR (sR (sR (body)))))))))
def l1E (K : Option Addr → Nat → Nat → Option Addr → Nat → Nat → ByteArray → Int → Mem → Prop) : Env → Mem → Prop := fun ρ m => UnS (ρ 0) fun x0a x0l x0c => UnS (ρ 1) fun x1a x1l x1c => UnStr (ρ 5) fun x5 => UnI (ρ 6) .i64 fun x6 => K x0a x0l x0c x1a x1l x1c x5 x6 m
def l1B  (K1 : Option Addr → Nat → Nat → Option Addr → Nat → Nat → ByteArray → Int → Mem → Prop) (x0a : Option Addr) (x0l : Nat) (x0c : Nat) (x1a : Option Addr) (x1l : Nat) (x1c : Nat) (x5 : ByteArray) (x6 : Int) (R : Ending → Mem → Prop) (m : Mem) : Prop :=
  Br (decide (x6 < ((x0l : Nat) : Int))) (
    IxS x0a x0l x6 1 fun x44b x44o =>
    LdV m x44b x44o fun v =>
    UnI v .u8 fun x45 =>
    HC P eyotlaw8_sign.id #[.int .u8 x45, .string (ByteArray.mk #[48, 49, 50, 51, 52, 53, 54, 55, 56, 57, 97, 98, 99, 100, 101, 102])] m (Cont (fun v m1 =>
        UnStr v fun x46 =>
        CatB x5 x46 (
          K1 x0a x0l x0c x1a x1l x1c (x5 ++ x46) (IntKind.i64.wrap (x6 + 1)) m1)) (panicR R))) (
    k2  x0a x0l x0c x1a x1l x1c x5 R m)
def l1  (x0a : Option Addr) (x0l : Nat) (x0c : Nat) (x1a : Option Addr) (x1l : Nat) (x1c : Nat) (x5 : ByteArray) (x6 : Int) (R : Ending → Mem → Prop) (m : Mem) : Prop :=
  ∃ (I : Nat → Option Addr → Nat → Nat → Option Addr → Nat → Nat → ByteArray → Int → Mem → Prop) (N : Nat), I N x0a x0l x0c x1a x1l x1c x5 x6 m ∧ ∀ N x0a x0l x0c x1a x1l x1c x5 x6 m, I N x0a x0l x0c x1a x1l x1c x5 x6 m → l1B  (fun x0a x0l x0c x1a x1l x1c x5 x6 m => ∃ N1, N1 < N ∧ I N1 x0a x0l x0c x1a x1l x1c x5 x6 m) x0a x0l x0c x1a x1l x1c x5 x6 R m
noncomputable def l1A  (K1 : Option Addr → Nat → Nat → Option Addr → Nat → Nat → ByteArray → Int → Mem → Prop) (R : Ending → Mem → Prop) : ACode := (.code (lP (bB (sR (sL (sR (sR (sR (sR (body))))))))))
def e0 (a0a : Option Addr) (a0l : Nat) (a0c : Nat) (a1a : Option Addr) (a1l : Nat) (a1c : Nat) (R : Ending → Mem → Prop) (m : Mem) : Prop :=
  HC P eyotlaw8_begun.id #[] m (Cont (fun v m1 =>
      UnB v fun x15 =>
      Br (!x15) (
        R (.returned (.bool false)) m1) (
        Br (((a0l : Nat) : Int) == 0) (
          R (.returned (.bool true)) m1) (
          Br (((a1l : Nat) : Int) == 0) (
            R (.returned (.bool true)) m1) (
            Br (decide (((a0l : Nat) : Int) > 4)) (
              R (.returned (.bool true)) m1) (
              Br (decide (((a1l : Nat) : Int) > 4)) (
                R (.returned (.bool true)) m1) (
                l1  a0a a0l a0c a1a a1l a1c (ByteArray.mk #[]) 0 R m1)))))) (panicR R))
noncomputable def e0A (R : Ending → Mem → Prop) : ACode := (.seq (.code (sL (body))) (.seq (.code (sL (sR (body)))) (.seq (.code (sL (sR (sR (body))))) (.seq (.code (sL (sR (sR (sR (body)))))) (.seq (.seq (.code (sL (sL (sR (sR (sR (sR (body)))))))) (.block 0 (.cut (l1E fun x0a x0l x0c x1a x1l x1c x5 x6 m => l1  x0a x0l x0c x1a x1l x1c x5 x6 R m) (.loop (lP (bB (sR (sL (sR (sR (sR (sR (body))))))))))))) (.cut (k2E fun x0a x0l x0c x1a x1l x1c x5 m => k2  x0a x0l x0c x1a x1l x1c x5 R m) (sR (sR (sR (sR (sR (body))))))))))))
theorem k4_eq  (R : Ending → Mem → Prop) (x0a : Option Addr) (x0l : Nat) (x0c : Nat) (x1a : Option Addr) (x1l : Nat) (x1c : Nat) (x5 : ByteArray) (ρ : Env) (m : Mem) : k4  x0a x0l x0c x1a x1l x1c x5 R m = acpt P od (panicR R) (k4A  R) (bodyQ P fn R) (upd (upd (upd ρ 5 (.string x5)) 1 (.slice x1a x1l x1c)) 0 (.slice x0a x0l x0c)) m := by kernel_rfl
theorem k4_er  (R : Ending → Mem → Prop) : (k4A  R).erase = sR (sR (sR (sR (sR (sR (body)))))) := by kernel_rfl
theorem k4_ok  (R : Ending → Mem → Prop) (ρ : Env) (m : Mem) (h : (k4E fun x0a x0l x0c x1a x1l x1c x5 m => k4  x0a x0l x0c x1a x1l x1c x5 R m) ρ m) : cpt P od (panicR R) (sR (sR (sR (sR (sR (sR (body))))))) (bodyQ P fn R) ρ m := by
  unfold k4E at h
  obtain ⟨x0a, x0l, x0c, e0, h⟩ := h.ex
  obtain ⟨x1a, x1l, x1c, e1, h⟩ := h.ex
  obtain ⟨x5, e5, h⟩ := h.ex
  rw [← upd_self e0, ← upd_self e1, ← upd_self e5]
  rw [← k4_er  R]
  refine acpt_sound (P := P) (k4A  R) _ _ _ True.intro ?_
  exact Eq.mp (k4_eq  R x0a x0l x0c x1a x1l x1c x5 ρ m) h
theorem l3_eq  (K3 : Option Addr → Nat → Nat → Option Addr → Nat → Nat → ByteArray → Int → Mem → Prop) (R : Ending → Mem → Prop) (x0a : Option Addr) (x0l : Nat) (x0c : Nat) (x1a : Option Addr) (x1l : Nat) (x1c : Nat) (x5 : ByteArray) (x7 : Int) (ρ : Env) (m : Mem) : l3B  K3 x0a x0l x0c x1a x1l x1c x5 x7 R m = acpt P od (panicR R) (l3A  K3 R) (thenQ (l3E K3) (blockQ 2 (thenQ (acpt P od (panicR R) (.cut (k4E fun x0a x0l x0c x1a x1l x1c x5 m => k4  x0a x0l x0c x1a x1l x1c x5 R m) (sR (sR (sR (sR (sR (sR (body)))))))) (bodyQ P fn R)) (bodyQ P fn R)))) (upd (upd (upd (upd ρ 7 (.int .i64 x7)) 5 (.string x5)) 1 (.slice x1a x1l x1c)) 0 (.slice x0a x0l x0c)) m := by kernel_rfl
theorem l3_er  (K3 : Option Addr → Nat → Nat → Option Addr → Nat → Nat → ByteArray → Int → Mem → Prop) (R : Ending → Mem → Prop) : (l3A  K3 R).erase = lP (bB (sR (sL (sR (sR (sR (sR (sR (body))))))))) := by kernel_rfl
theorem l3_ok  (R : Ending → Mem → Prop) (ρ : Env) (m : Mem) (h : (l3E fun x0a x0l x0c x1a x1l x1c x5 x7 m => l3  x0a x0l x0c x1a x1l x1c x5 x7 R m) ρ m) : cpt P od (panicR R) (.loop (lP (bB (sR (sL (sR (sR (sR (sR (sR (body))))))))))) (blockQ 2 (thenQ (acpt P od (panicR R) (.cut (k4E fun x0a x0l x0c x1a x1l x1c x5 m => k4  x0a x0l x0c x1a x1l x1c x5 R m) (sR (sR (sR (sR (sR (sR (body)))))))) (bodyQ P fn R)) (bodyQ P fn R))) ρ m := by
  unfold l3E at h
  obtain ⟨x0a, x0l, x0c, e0, h⟩ := h.ex
  obtain ⟨x1a, x1l, x1c, e1, h⟩ := h.ex
  obtain ⟨x5, e5, h⟩ := h.ex
  obtain ⟨x7, e7, h⟩ := h.ex
  obtain ⟨I, N, h0, hs⟩ := h
  refine ⟨fun N => l3E (I N), N, (by show l3E (I N) ρ m; unfold l3E; rw [e0, e1, e5, e7]; exact h0), ?_⟩
  clear h0 e0 e1 e5 e7
  intro N ρ m h
  unfold l3E at h
  obtain ⟨x0a, x0l, x0c, e0, h⟩ := h.ex
  obtain ⟨x1a, x1l, x1c, e1, h⟩ := h.ex
  obtain ⟨x5, e5, h⟩ := h.ex
  obtain ⟨x7, e7, h⟩ := h.ex
  refine cpt_mono (P := P) (lP (bB (sR (sL (sR (sR (sR (sR (sR (body)))))))))) (Q := thenQ (l3E fun x0a x0l x0c x1a x1l x1c x5 x7 m => ∃ N1, N1 < N ∧ I N1 x0a x0l x0c x1a x1l x1c x5 x7 m) (blockQ 2 (thenQ (acpt P od (panicR R) (.cut (k4E fun x0a x0l x0c x1a x1l x1c x5 m => k4  x0a x0l x0c x1a x1l x1c x5 R m) (sR (sR (sR (sR (sR (sR (body)))))))) (bodyQ P fn R)) (bodyQ P fn R)))) (fun e ρ m h => ?_) ρ m ?_
  · cases e with
    | normal =>
      have h : l3E (fun x0a x0l x0c x1a x1l x1c x5 x7 m => ∃ N1, N1 < N ∧ I N1 x0a x0l x0c x1a x1l x1c x5 x7 m) ρ m := h
      unfold l3E at h
      obtain ⟨x0a, x0l, x0c, e0, h⟩ := h.ex
      obtain ⟨x1a, x1l, x1c, e1, h⟩ := h.ex
      obtain ⟨x5, e5, h⟩ := h.ex
      obtain ⟨x7, e7, h⟩ := h.ex
      obtain ⟨N1, hlt, h⟩ := h
      exact ⟨N1, hlt, (by show l3E (I N1) ρ m; unfold l3E; rw [e0, e1, e5, e7]; exact h)⟩
    | _ => exact h
  have hh := hs N x0a x0l x0c x1a x1l x1c x5 x7 m h
  generalize (fun x0a x0l x0c x1a x1l x1c x5 x7 m => ∃ N1, N1 < N ∧ I N1 x0a x0l x0c x1a x1l x1c x5 x7 m : Option Addr → Nat → Nat → Option Addr → Nat → Nat → ByteArray → Int → Mem → Prop) = K3 at hh ⊢
  rw [← upd_self e0, ← upd_self e1, ← upd_self e5, ← upd_self e7]
  rw [← l3_er  K3 R]
  refine acpt_sound (P := P) (l3A  K3 R) _ _ _ True.intro ?_
  exact Eq.mp (l3_eq  K3 R x0a x0l x0c x1a x1l x1c x5 x7 ρ m) hh
theorem k2_eq  (R : Ending → Mem → Prop) (x0a : Option Addr) (x0l : Nat) (x0c : Nat) (x1a : Option Addr) (x1l : Nat) (x1c : Nat) (x5 : ByteArray) (ρ : Env) (m : Mem) : k2  x0a x0l x0c x1a x1l x1c x5 R m = acpt P od (panicR R) (k2A  R) (bodyQ P fn R) (upd (upd (upd ρ 5 (.string x5)) 1 (.slice x1a x1l x1c)) 0 (.slice x0a x0l x0c)) m := by kernel_rfl
theorem k2_er  (R : Ending → Mem → Prop) : (k2A  R).erase = sR (sR (sR (sR (sR (body))))) := by kernel_rfl
theorem k2_ok  (R : Ending → Mem → Prop) (ρ : Env) (m : Mem) (h : (k2E fun x0a x0l x0c x1a x1l x1c x5 m => k2  x0a x0l x0c x1a x1l x1c x5 R m) ρ m) : cpt P od (panicR R) (sR (sR (sR (sR (sR (body)))))) (bodyQ P fn R) ρ m := by
  unfold k2E at h
  obtain ⟨x0a, x0l, x0c, e0, h⟩ := h.ex
  obtain ⟨x1a, x1l, x1c, e1, h⟩ := h.ex
  obtain ⟨x5, e5, h⟩ := h.ex
  rw [← upd_self e0, ← upd_self e1, ← upd_self e5]
  rw [← k2_er  R]
  refine acpt_sound (P := P) (k2A  R) _ _ _ ⟨(fun ρ m h => k4_ok  R ρ m h), ⟨(fun ρ m h => l3_ok  R ρ m h), True.intro⟩⟩ ?_
  exact Eq.mp (k2_eq  R x0a x0l x0c x1a x1l x1c x5 ρ m) h
theorem l1_eq  (K1 : Option Addr → Nat → Nat → Option Addr → Nat → Nat → ByteArray → Int → Mem → Prop) (R : Ending → Mem → Prop) (x0a : Option Addr) (x0l : Nat) (x0c : Nat) (x1a : Option Addr) (x1l : Nat) (x1c : Nat) (x5 : ByteArray) (x6 : Int) (ρ : Env) (m : Mem) : l1B  K1 x0a x0l x0c x1a x1l x1c x5 x6 R m = acpt P od (panicR R) (l1A  K1 R) (thenQ (l1E K1) (blockQ 0 (thenQ (acpt P od (panicR R) (.cut (k2E fun x0a x0l x0c x1a x1l x1c x5 m => k2  x0a x0l x0c x1a x1l x1c x5 R m) (sR (sR (sR (sR (sR (body))))))) (bodyQ P fn R)) (bodyQ P fn R)))) (upd (upd (upd (upd ρ 6 (.int .i64 x6)) 5 (.string x5)) 1 (.slice x1a x1l x1c)) 0 (.slice x0a x0l x0c)) m := by kernel_rfl
theorem l1_er  (K1 : Option Addr → Nat → Nat → Option Addr → Nat → Nat → ByteArray → Int → Mem → Prop) (R : Ending → Mem → Prop) : (l1A  K1 R).erase = lP (bB (sR (sL (sR (sR (sR (sR (body)))))))) := by kernel_rfl
theorem l1_ok  (R : Ending → Mem → Prop) (ρ : Env) (m : Mem) (h : (l1E fun x0a x0l x0c x1a x1l x1c x5 x6 m => l1  x0a x0l x0c x1a x1l x1c x5 x6 R m) ρ m) : cpt P od (panicR R) (.loop (lP (bB (sR (sL (sR (sR (sR (sR (body)))))))))) (blockQ 0 (thenQ (acpt P od (panicR R) (.cut (k2E fun x0a x0l x0c x1a x1l x1c x5 m => k2  x0a x0l x0c x1a x1l x1c x5 R m) (sR (sR (sR (sR (sR (body))))))) (bodyQ P fn R)) (bodyQ P fn R))) ρ m := by
  unfold l1E at h
  obtain ⟨x0a, x0l, x0c, e0, h⟩ := h.ex
  obtain ⟨x1a, x1l, x1c, e1, h⟩ := h.ex
  obtain ⟨x5, e5, h⟩ := h.ex
  obtain ⟨x6, e6, h⟩ := h.ex
  obtain ⟨I, N, h0, hs⟩ := h
  refine ⟨fun N => l1E (I N), N, (by show l1E (I N) ρ m; unfold l1E; rw [e0, e1, e5, e6]; exact h0), ?_⟩
  clear h0 e0 e1 e5 e6
  intro N ρ m h
  unfold l1E at h
  obtain ⟨x0a, x0l, x0c, e0, h⟩ := h.ex
  obtain ⟨x1a, x1l, x1c, e1, h⟩ := h.ex
  obtain ⟨x5, e5, h⟩ := h.ex
  obtain ⟨x6, e6, h⟩ := h.ex
  refine cpt_mono (P := P) (lP (bB (sR (sL (sR (sR (sR (sR (body))))))))) (Q := thenQ (l1E fun x0a x0l x0c x1a x1l x1c x5 x6 m => ∃ N1, N1 < N ∧ I N1 x0a x0l x0c x1a x1l x1c x5 x6 m) (blockQ 0 (thenQ (acpt P od (panicR R) (.cut (k2E fun x0a x0l x0c x1a x1l x1c x5 m => k2  x0a x0l x0c x1a x1l x1c x5 R m) (sR (sR (sR (sR (sR (body))))))) (bodyQ P fn R)) (bodyQ P fn R)))) (fun e ρ m h => ?_) ρ m ?_
  · cases e with
    | normal =>
      have h : l1E (fun x0a x0l x0c x1a x1l x1c x5 x6 m => ∃ N1, N1 < N ∧ I N1 x0a x0l x0c x1a x1l x1c x5 x6 m) ρ m := h
      unfold l1E at h
      obtain ⟨x0a, x0l, x0c, e0, h⟩ := h.ex
      obtain ⟨x1a, x1l, x1c, e1, h⟩ := h.ex
      obtain ⟨x5, e5, h⟩ := h.ex
      obtain ⟨x6, e6, h⟩ := h.ex
      obtain ⟨N1, hlt, h⟩ := h
      exact ⟨N1, hlt, (by show l1E (I N1) ρ m; unfold l1E; rw [e0, e1, e5, e6]; exact h)⟩
    | _ => exact h
  have hh := hs N x0a x0l x0c x1a x1l x1c x5 x6 m h
  generalize (fun x0a x0l x0c x1a x1l x1c x5 x6 m => ∃ N1, N1 < N ∧ I N1 x0a x0l x0c x1a x1l x1c x5 x6 m : Option Addr → Nat → Nat → Option Addr → Nat → Nat → ByteArray → Int → Mem → Prop) = K1 at hh ⊢
  rw [← upd_self e0, ← upd_self e1, ← upd_self e5, ← upd_self e6]
  rw [← l1_er  K1 R]
  refine acpt_sound (P := P) (l1A  K1 R) _ _ _ True.intro ?_
  exact Eq.mp (l1_eq  K1 R x0a x0l x0c x1a x1l x1c x5 x6 ρ m) hh
theorem e0_eq (a0a : Option Addr) (a0l : Nat) (a0c : Nat) (a1a : Option Addr) (a1l : Nat) (a1c : Nat) (R : Ending → Mem → Prop) (m : Mem) : e0 a0a a0l a0c a1a a1l a1c R m = acpt P od (panicR R) (e0A R) (bodyQ P fn R) (argE (#[.slice a0a a0l a0c, .slice a1a a1l a1c] : Array Value).toList) m := by kernel_rfl
theorem ok (a0a : Option Addr) (a0l : Nat) (a0c : Nat) (a1a : Option Addr) (a1l : Nat) (a1c : Nat) (R : Ending → Mem → Prop) (m : Mem) (h : e0 a0a a0l a0c a1a a1l a1c R m) : HC P id #[.slice a0a a0l a0c, .slice a1a a1l a1c] m R := by
  refine HC_of (fn := fn) (c := body) (od := od) (tb := tb) Go.Proofs.Tryd.func5 (by kernel_rfl) (by kernel_rfl) follows (by kernel_rfl) (of_decide_eq_true (by kernel_rfl)) ?_
  have he : (e0A R).erase = body := by kernel_rfl
  rw [← he]
  refine acpt_sound (P := P) (e0A R) _ _ _ ⟨⟨⟨⟨⟨(fun ρ m h => k2_ok  R ρ m h), ⟨(fun ρ m h => l1_ok  R ρ m h), True.intro⟩⟩, True.intro⟩, True.intro⟩, True.intro⟩, True.intro⟩ ?_
  exact Eq.mp (e0_eq a0a a0l a0c a1a a1l a1c R m) h
end eyotlaw8_ClassJoins

/-! ### eyot/eyotlaw8.ClassRuns -/
namespace eyotlaw8_ClassRuns
noncomputable def fn : Func := Go.Proofs.Tryd.f6
noncomputable def body : Code := fn.body.getD .skip
def od : Nat → Ord := fun _ => .done
def tb : Nat → Tab := fun _ => (0, [], [])
def k5E (K : Int → Int → Bool → Nat → Nat → Int → Bool → Mem → Prop) : Env → Mem → Prop := fun ρ m => UnI (ρ 0) .u8 fun x0 => UnI (ρ 1) .u8 fun x1 => UnB (ρ 2) fun x2 => UnPA (ρ 9) fun x9b x9o => UnI (ρ 12) .i64 fun x12 => UnB (ρ 13) fun x13 => K x0 x1 x2 x9b x9o x12 x13 m
def k5 (K4 : Int → Int → Bool → Nat → Nat → Int → Mem → Prop) (x0 : Int) (x1 : Int) (x2 : Bool) (x9b : Nat) (x9o : Nat) (x12 : Int) (x13 : Bool) (R : Ending → Mem → Prop) (m : Mem) : Prop :=
  LdV m x9b x9o fun v =>
  UnI v .u64 fun x82_0 =>
  LdV m x9b (x9o + 1) fun v =>
  UnI v .u64 fun x82_1 =>
  LdV m x9b (x9o + 2) fun v =>
  UnI v .u64 fun x82_2 =>
  LdV m x9b (x9o + 3) fun v =>
  UnI v .u64 fun x82_3 =>
  HC P class_Has.id #[.agg #[.int .u64 x82_0, .int .u64 x82_1, .int .u64 x82_2, .int .u64 x82_3], .int .u8 (IntKind.u8.wrap x12)] m (Cont (fun v m1 =>
      UnB v fun x85 =>
      Br (!(x85 == (!(x13 == x2)))) (
        R (.returned (.bool false)) m1) (
        K4 x0 x1 x2 x9b x9o (IntKind.i64.wrap (x12 + 1)) m1)) (panicR R))
noncomputable def k5A (K4 : Int → Int → Bool → Nat → Nat → Int → Mem → Prop) (R : Ending → Mem → Prop) : ACode := (.code (sR (bB (sL (sR (lP (bB (sR (sL (sR (sR (sR (sR (sR (sR (sR (sR (body))))))))))))))))))
def l4E (K : Int → Int → Bool → Nat → Nat → Int → Mem → Prop) : Env → Mem → Prop := fun ρ m => UnI (ρ 0) .u8 fun x0 => UnI (ρ 1) .u8 fun x1 => UnB (ρ 2) fun x2 => UnPA (ρ 9) fun x9b x9o => UnI (ρ 12) .i64 fun x12 => K x0 x1 x2 x9b x9o x12 m
def l4B  (K4 : Int → Int → Bool → Nat → Nat → Int → Mem → Prop) (x0 : Int) (x1 : Int) (x2 : Bool) (x9b : Nat) (x9o : Nat) (x12 : Int) (R : Ending → Mem → Prop) (m : Mem) : Prop :=
  Br (decide (x12 < 256)) (
    Br (decide ((IntKind.u8.wrap x12) ≥ x0)) (
      k5 K4 x0 x1 x2 x9b x9o x12 (decide ((IntKind.u8.wrap x12) ≤ x1)) R m) (
      k5 K4 x0 x1 x2 x9b x9o x12 false R m)) (
    R (.returned (.bool true)) m)
def l4  (x0 : Int) (x1 : Int) (x2 : Bool) (x9b : Nat) (x9o : Nat) (x12 : Int) (R : Ending → Mem → Prop) (m : Mem) : Prop :=
  ∃ (I : Nat → Int → Int → Bool → Nat → Nat → Int → Mem → Prop) (N : Nat), I N x0 x1 x2 x9b x9o x12 m ∧ ∀ N x0 x1 x2 x9b x9o x12 m, I N x0 x1 x2 x9b x9o x12 m → l4B  (fun x0 x1 x2 x9b x9o x12 m => ∃ N1, N1 < N ∧ I N1 x0 x1 x2 x9b x9o x12 m) x0 x1 x2 x9b x9o x12 R m
noncomputable def l4A  (K4 : Int → Int → Bool → Nat → Nat → Int → Mem → Prop) (R : Ending → Mem → Prop) : ACode := (.seq (.code (sL (lP (bB (sR (sL (sR (sR (sR (sR (sR (sR (sR (sR (body))))))))))))))) (.seq (.block 1 (.seq (.code (sL (bB (sL (sR (lP (bB (sR (sL (sR (sR (sR (sR (sR (sR (sR (sR (body)))))))))))))))))) (.cut (k5E fun x0 x1 x2 x9b x9o x12 x13 m => k5 K4 x0 x1 x2 x9b x9o x12 x13 R m) (sR (bB (sL (sR (lP (bB (sR (sL (sR (sR (sR (sR (sR (sR (sR (sR (body)))))))))))))))))))) (.code (sR (sR (lP (bB (sR (sL (sR (sR (sR (sR (sR (sR (sR (sR (body))))))))))))))))))
def k3E (K : Int → Int → Bool → ByteArray → Nat → Nat → Int → Int → Mem → Prop) : Env → Mem → Prop := fun ρ m => UnI (ρ 0) .u8 fun x0 => UnI (ρ 1) .u8 fun x1 => UnB (ρ 2) fun x2 => UnStr (ρ 8) fun x8 => UnPA (ρ 9) fun x9b x9o => UnI (ρ 10) .i64 fun x10 => UnI (ρ 11) .i64 fun x11 => K x0 x1 x2 x8 x9b x9o x10 x11 m
def k3  (x0 : Int) (x1 : Int) (x2 : Bool) (x8 : ByteArray) (x9b : Nat) (x9o : Nat) (x10 : Int) (x11 : Int) (R : Ending → Mem → Prop) (m : Mem) : Prop :=
  Br (x11 != 0) (
    R (.returned (.bool false)) m) (
    Br (x10 != (x8.size : Int)) (
      R (.returned (.bool false)) m) (
      l4  x0 x1 x2 x9b x9o 0 R m))
noncomputable def k3A  (R : Ending → Mem → Prop) : ACode := (.seq (.code (sL (sR (sR (sR (sR (sR (sR (sR (body)))))))))) (.seq (.seq (.code (sL (sL (sR (sR (sR (sR (sR (sR (sR (sR (body)))))))))))) (.block 0 (.cut (l4E fun x0 x1 x2 x9b x9o x12 m => l4  x0 x1 x2 x9b x9o x12 R m) (.loop (lP (bB (sR (sL (sR (sR (sR (sR (sR (sR (sR (sR (body))))))))))))))))) (.code (sR (sR (sR (sR (sR (sR (sR (sR (sR (body)))))))))))))
def k2E (K : Int → Int → Bool → ByteArray → Nat → Nat → Int → Int → Bool → Mem → Prop) : Env → Mem → Prop := fun ρ m => UnI (ρ 0) .u8 fun x0 => UnI (ρ 1) .u8 fun x1 => UnB (ρ 2) fun x2 => UnStr (ρ 8) fun x8 => UnPA (ρ 9) fun x9b x9o => UnI (ρ 10) .i64 fun x10 => UnI (ρ 11) .i64 fun x11 => UnB (ρ 48) fun x48 => K x0 x1 x2 x8 x9b x9o x10 x11 x48 m
def k2  (x0 : Int) (x1 : Int) (x2 : Bool) (x8 : ByteArray) (x9b : Nat) (x9o : Nat) (x10 : Int) (x11 : Int) (x48 : Bool) (R : Ending → Mem → Prop) (m : Mem) : Prop :=
  Br x48 (
    Br (x11 == 2) (
      Br (x10 == 0) (
        LdV m x9b x9o fun v =>
        UnI v .u64 fun x56_0 =>
        LdV m x9b (x9o + 1) fun v =>
        UnI v .u64 fun x56_1 =>
        LdV m x9b (x9o + 2) fun v =>
        UnI v .u64 fun x56_2 =>
        LdV m x9b (x9o + 3) fun v =>
        UnI v .u64 fun x56_3 =>
        R (.returned (.bool (eqL [.int .u64 x56_0, .int .u64 x56_1, .int .u64 x56_2, .int .u64 x56_3] [.int .u64 0, .int .u64 0, .int .u64 0, .int .u64 0]))) m) (
        R (.returned (.bool false)) m)) (
      R (.returned (.bool false)) m)) (
    k3  x0 x1 x2 x8 x9b x9o x10 x11 R m)
noncomputable def k2A  (R : Ending → Mem → Prop) : ACode := (.code (sR (sL (sR (sR (sR (sR (sR (sR (body))))))))))
def k1E (K : Int → Int → Bool → ByteArray → Mem → Prop) : Env → Mem → Prop := fun ρ m => UnI (ρ 0) .u8 fun x0 => UnI (ρ 1) .u8 fun x1 => UnB (ρ 2) fun x2 => UnStr (ρ 8) fun x8 => K x0 x1 x2 x8 m
def k1  (x0 : Int) (x1 : Int) (x2 : Bool) (x8 : ByteArray) (R : Ending → Mem → Prop) (m : Mem) : Prop :=
  HC P class_Parse.id #[.string x8] m (Cont (fun v m1 =>
      UnTup v fun us0 =>
      UnCons us0 fun w us1 =>
      UnAgg w fun l =>
      UnCons l fun v l =>
      UnI v .u64 fun x31_0_0 =>
      UnCons l fun v l =>
      UnI v .u64 fun x31_0_1 =>
      UnCons l fun v l =>
      UnI v .u64 fun x31_0_2 =>
      UnCons l fun v l =>
      UnI v .u64 fun x31_0_3 =>
      UnNil l (
        UnCons us1 fun w us2 =>
        UnI w .i64 fun x31_1 =>
        UnCons us2 fun w us3 =>
        UnI w .i64 fun x31_2 =>
        UnNil us3 (
          NewC m1 #[.int .u64 0, .int .u64 0, .int .u64 0, .int .u64 0] T_api_Set fun b9 m2 =>
          St1 m2 b9 0 (.int .u64 x31_0_0) fun m3 =>
          St1 m3 b9 1 (.int .u64 x31_0_1) fun m4 =>
          St1 m4 b9 2 (.int .u64 x31_0_2) fun m5 =>
          St1 m5 b9 3 (.int .u64 x31_0_3) fun m6 =>
          Br (decide (x0 > x1)) (
            k2  x0 x1 x2 x8 b9 0 x31_1 x31_2 true R m6) (
            Br x2 (
              Br (x0 == 0) (
                k2  x0 x1 x2 x8 b9 0 x31_1 x31_2 (x1 == 255) R m6) (
                k2  x0 x1 x2 x8 b9 0 x31_1 x31_2 false R m6)) (
              k2  x0 x1 x2 x8 b9 0 x31_1 x31_2 false R m6))))) (panicR R))
noncomputable def k1A  (R : Ending → Mem → Prop) : ACode := (.seq (.code (sL (sR (sR (sR (sR (sR (body)))))))) (.seq (.seq (.code (sL (sL (sR (sR (sR (sR (sR (sR (body)))))))))) (.cut (k2E fun x0 x1 x2 x8 x9b x9o x10 x11 x48 m => k2  x0 x1 x2 x8 x9b x9o x10 x11 x48 R m) (sR (sL (sR (sR (sR (sR (sR (sR (body))))))))))) (.cut (k3E fun x0 x1 x2 x8 x9b x9o x10 x11 m => k3  x0 x1 x2 x8 x9b x9o x10 x11 R m) (sR (sR (sR (sR (sR (sR (sR (body)))))))))))
def e0 (a0 : Int) (a1 : Int) (a2 : Bool) (R : Ending → Mem → Prop) (m : Mem) : Prop :=
  HC P eyotlaw8_begun.id #[] m (Cont (fun v m1 =>
      UnB v fun x14 =>
      Br (!x14) (
        R (.returned (.bool false)) m1) (
        HC P eyotlaw8_sign.id #[.int .u8 a0, .string (ByteArray.mk #[48, 49, 50, 51, 52, 53, 54, 55, 56, 57, 97, 98, 99, 100, 101, 102])] m1 (Cont (fun v m2 =>
            UnStr v fun x17 =>
            CatB x17 (ByteArray.mk #[45]) (
              HC P eyotlaw8_sign.id #[.int .u8 a1, .string (ByteArray.mk #[48, 49, 50, 51, 52, 53, 54, 55, 56, 57, 97, 98, 99, 100, 101, 102])] m2 (Cont (fun v m3 =>
                  UnStr v fun x20 =>
                  CatB (x17 ++ (ByteArray.mk #[45])) x20 (
                    CatB (ByteArray.mk #[91]) ((x17 ++ (ByteArray.mk #[45])) ++ x20) (
                      CatB ((ByteArray.mk #[91]) ++ ((x17 ++ (ByteArray.mk #[45])) ++ x20)) (ByteArray.mk #[93]) (
                        Br a2 (
                        CatB (ByteArray.mk #[91, 94]) ((x17 ++ (ByteArray.mk #[45])) ++ x20) (
                        CatB ((ByteArray.mk #[91, 94]) ++ ((x17 ++ (ByteArray.mk #[45])) ++ x20)) (ByteArray.mk #[93]) (
                        k1  a0 a1 a2 (((ByteArray.mk #[91, 94]) ++ ((x17 ++ (ByteArray.mk #[45])) ++ x20)) ++ (ByteArray.mk #[93])) R m3))) (
                        k1  a0 a1 a2 (((ByteArray.mk #[91]) ++ ((x17 ++ (ByteArray.mk #[45])) ++ x20)) ++ (ByteArray.mk #[93])) R m3))))) (panicR R)))) (panicR R)))) (panicR R))
noncomputable def e0A (R : Ending → Mem → Prop) : ACode := (.seq (.code (sL (body))) (.seq (.code (sL (sR (body)))) (.seq (.code (sL (sR (sR (body))))) (.seq (.code (sL (sR (sR (sR (body)))))) (.seq (.code (sL (sR (sR (sR (sR (body))))))) (.cut (k1E fun x0 x1 x2 x8 m => k1  x0 x1 x2 x8 R m) (sR (sR (sR (sR (sR (body))))))))))))
theorem k5_eq (K4 : Int → Int → Bool → Nat → Nat → Int → Mem → Prop) (R : Ending → Mem → Prop) (x0 : Int) (x1 : Int) (x2 : Bool) (x9b : Nat) (x9o : Nat) (x12 : Int) (x13 : Bool) (ρ : Env) (m : Mem) : k5 K4 x0 x1 x2 x9b x9o x12 x13 R m = acpt P od (panicR R) (k5A K4 R) (blockQ 1 (thenQ (acpt P od (panicR R) (.code (sR (sR (lP (bB (sR (sL (sR (sR (sR (sR (sR (sR (sR (sR (body)))))))))))))))) (thenQ (l4E K4) (blockQ 0 (thenQ (acpt P od (panicR R) (.code (sR (sR (sR (sR (sR (sR (sR (sR (sR (body))))))))))) (bodyQ P fn R)) (bodyQ P fn R))))) (thenQ (l4E K4) (blockQ 0 (thenQ (acpt P od (panicR R) (.code (sR (sR (sR (sR (sR (sR (sR (sR (sR (body))))))))))) (bodyQ P fn R)) (bodyQ P fn R)))))) (upd (upd (upd (upd (upd (upd ρ 13 (.bool x13)) 12 (.int .i64 x12)) 9 (.pointer (some ⟨x9b, x9o, none⟩))) 2 (.bool x2)) 1 (.int .u8 x1)) 0 (.int .u8 x0)) m := by kernel_rfl
theorem k5_er (K4 : Int → Int → Bool → Nat → Nat → Int → Mem → Prop) (R : Ending → Mem → Prop) : (k5A K4 R).erase = sR (bB (sL (sR (lP (bB (sR (sL (sR (sR (sR (sR (sR (sR (sR (sR (body)))))))))))))))) := by kernel_rfl
theorem k5_ok (K4 : Int → Int → Bool → Nat → Nat → Int → Mem → Prop) (R : Ending → Mem → Prop) (ρ : Env) (m : Mem) (h : (k5E fun x0 x1 x2 x9b x9o x12 x13 m => k5 K4 x0 x1 x2 x9b x9o x12 x13 R m) ρ m) : cpt P od (panicR R) (sR (bB (sL (sR (lP (bB (sR (sL (sR (sR (sR (sR (sR (sR (sR (sR (body))))))))))))))))) (blockQ 1 (thenQ (acpt P od (panicR R) (.code (sR (sR (lP (bB (sR (sL (sR (sR (sR (sR (sR (sR (sR (sR (body)))))))))))))))) (thenQ (l4E K4) (blockQ 0 (thenQ (acpt P od (panicR R) (.code (sR (sR (sR (sR (sR (sR (sR (sR (sR (body))))))))))) (bodyQ P fn R)) (bodyQ P fn R))))) (thenQ (l4E K4) (blockQ 0 (thenQ (acpt P od (panicR R) (.code (sR (sR (sR (sR (sR (sR (sR (sR (sR (body))))))))))) (bodyQ P fn R)) (bodyQ P fn R)))))) ρ m := by
  unfold k5E at h
  obtain ⟨x0, e0, h⟩ := h.ex
  obtain ⟨x1, e1, h⟩ := h.ex
  obtain ⟨x2, e2, h⟩ := h.ex
  obtain ⟨x9b, x9o, e9, h⟩ := h.ex
  obtain ⟨x12, e12, h⟩ := h.ex
  obtain ⟨x13, e13, h⟩ := h.ex
  rw [← upd_self e0, ← upd_self e1, ← upd_self e2, ← upd_self e9, ← upd_self e12, ← upd_self e13]
  rw [← k5_er K4 R]
  refine acpt_sound (P := P) (k5A K4 R) _ _ _ True.intro ?_
  exact Eq.mp (k5_eq K4 R x0 x1 x2 x9b x9o x12 x13 ρ m) h
theorem l4_eq  (K4 : Int → Int → Bool → Nat → Nat → Int → Mem → Prop) (R : Ending → Mem → Prop) (x0 : Int) (x1 : Int) (x2 : Bool) (x9b : Nat) (x9o : Nat) (x12 : Int) (ρ : Env) (m : Mem) : l4B  K4 x0 x1 x2 x9b x9o x12 R m = acpt P od (panicR R) (l4A  K4 R) (thenQ (l4E K4) (blockQ 0 (thenQ (acpt P od (panicR R) (.code (sR (sR (sR (sR (sR (sR (sR (sR (sR (body))))))))))) (bodyQ P fn R)) (bodyQ P fn R)))) (upd (upd (upd (upd (upd ρ 12 (.int .i64 x12)) 9 (.pointer (some ⟨x9b, x9o, none⟩))) 2 (.bool x2)) 1 (.int .u8 x1)) 0 (.int .u8 x0)) m := by kernel_rfl
theorem l4_er  (K4 : Int → Int → Bool → Nat → Nat → Int → Mem → Prop) (R : Ending → Mem → Prop) : (l4A  K4 R).erase = lP (bB (sR (sL (sR (sR (sR (sR (sR (sR (sR (sR (body)))))))))))) := by kernel_rfl
theorem l4_ok  (R : Ending → Mem → Prop) (ρ : Env) (m : Mem) (h : (l4E fun x0 x1 x2 x9b x9o x12 m => l4  x0 x1 x2 x9b x9o x12 R m) ρ m) : cpt P od (panicR R) (.loop (lP (bB (sR (sL (sR (sR (sR (sR (sR (sR (sR (sR (body)))))))))))))) (blockQ 0 (thenQ (acpt P od (panicR R) (.code (sR (sR (sR (sR (sR (sR (sR (sR (sR (body))))))))))) (bodyQ P fn R)) (bodyQ P fn R))) ρ m := by
  unfold l4E at h
  obtain ⟨x0, e0, h⟩ := h.ex
  obtain ⟨x1, e1, h⟩ := h.ex
  obtain ⟨x2, e2, h⟩ := h.ex
  obtain ⟨x9b, x9o, e9, h⟩ := h.ex
  obtain ⟨x12, e12, h⟩ := h.ex
  obtain ⟨I, N, h0, hs⟩ := h
  refine ⟨fun N => l4E (I N), N, (by show l4E (I N) ρ m; unfold l4E; rw [e0, e1, e2, e9, e12]; exact h0), ?_⟩
  clear h0 e0 e1 e2 e9 e12
  intro N ρ m h
  unfold l4E at h
  obtain ⟨x0, e0, h⟩ := h.ex
  obtain ⟨x1, e1, h⟩ := h.ex
  obtain ⟨x2, e2, h⟩ := h.ex
  obtain ⟨x9b, x9o, e9, h⟩ := h.ex
  obtain ⟨x12, e12, h⟩ := h.ex
  refine cpt_mono (P := P) (lP (bB (sR (sL (sR (sR (sR (sR (sR (sR (sR (sR (body))))))))))))) (Q := thenQ (l4E fun x0 x1 x2 x9b x9o x12 m => ∃ N1, N1 < N ∧ I N1 x0 x1 x2 x9b x9o x12 m) (blockQ 0 (thenQ (acpt P od (panicR R) (.code (sR (sR (sR (sR (sR (sR (sR (sR (sR (body))))))))))) (bodyQ P fn R)) (bodyQ P fn R)))) (fun e ρ m h => ?_) ρ m ?_
  · cases e with
    | normal =>
      have h : l4E (fun x0 x1 x2 x9b x9o x12 m => ∃ N1, N1 < N ∧ I N1 x0 x1 x2 x9b x9o x12 m) ρ m := h
      unfold l4E at h
      obtain ⟨x0, e0, h⟩ := h.ex
      obtain ⟨x1, e1, h⟩ := h.ex
      obtain ⟨x2, e2, h⟩ := h.ex
      obtain ⟨x9b, x9o, e9, h⟩ := h.ex
      obtain ⟨x12, e12, h⟩ := h.ex
      obtain ⟨N1, hlt, h⟩ := h
      exact ⟨N1, hlt, (by show l4E (I N1) ρ m; unfold l4E; rw [e0, e1, e2, e9, e12]; exact h)⟩
    | _ => exact h
  have hh := hs N x0 x1 x2 x9b x9o x12 m h
  generalize (fun x0 x1 x2 x9b x9o x12 m => ∃ N1, N1 < N ∧ I N1 x0 x1 x2 x9b x9o x12 m : Int → Int → Bool → Nat → Nat → Int → Mem → Prop) = K4 at hh ⊢
  rw [← upd_self e0, ← upd_self e1, ← upd_self e2, ← upd_self e9, ← upd_self e12]
  rw [← l4_er  K4 R]
  refine acpt_sound (P := P) (l4A  K4 R) _ _ _ ⟨⟨True.intro, ⟨(fun ρ m h => k5_ok K4 R ρ m h), True.intro⟩⟩, True.intro⟩ ?_
  exact Eq.mp (l4_eq  K4 R x0 x1 x2 x9b x9o x12 ρ m) hh
theorem k3_eq  (R : Ending → Mem → Prop) (x0 : Int) (x1 : Int) (x2 : Bool) (x8 : ByteArray) (x9b : Nat) (x9o : Nat) (x10 : Int) (x11 : Int) (ρ : Env) (m : Mem) : k3  x0 x1 x2 x8 x9b x9o x10 x11 R m = acpt P od (panicR R) (k3A  R) (bodyQ P fn R) (upd (upd (upd (upd (upd (upd (upd ρ 11 (.int .i64 x11)) 10 (.int .i64 x10)) 9 (.pointer (some ⟨x9b, x9o, none⟩))) 8 (.string x8)) 2 (.bool x2)) 1 (.int .u8 x1)) 0 (.int .u8 x0)) m := by kernel_rfl
theorem k3_er  (R : Ending → Mem → Prop) : (k3A  R).erase = sR (sR (sR (sR (sR (sR (sR (body))))))) := by kernel_rfl
theorem k3_ok  (R : Ending → Mem → Prop) (ρ : Env) (m : Mem) (h : (k3E fun x0 x1 x2 x8 x9b x9o x10 x11 m => k3  x0 x1 x2 x8 x9b x9o x10 x11 R m) ρ m) : cpt P od (panicR R) (sR (sR (sR (sR (sR (sR (sR (body)))))))) (bodyQ P fn R) ρ m := by
  unfold k3E at h
  obtain ⟨x0, e0, h⟩ := h.ex
  obtain ⟨x1, e1, h⟩ := h.ex
  obtain ⟨x2, e2, h⟩ := h.ex
  obtain ⟨x8, e8, h⟩ := h.ex
  obtain ⟨x9b, x9o, e9, h⟩ := h.ex
  obtain ⟨x10, e10, h⟩ := h.ex
  obtain ⟨x11, e11, h⟩ := h.ex
  rw [← upd_self e0, ← upd_self e1, ← upd_self e2, ← upd_self e8, ← upd_self e9, ← upd_self e10, ← upd_self e11]
  rw [← k3_er  R]
  refine acpt_sound (P := P) (k3A  R) _ _ _ ⟨⟨True.intro, ⟨(fun ρ m h => l4_ok  R ρ m h), True.intro⟩⟩, True.intro⟩ ?_
  exact Eq.mp (k3_eq  R x0 x1 x2 x8 x9b x9o x10 x11 ρ m) h
theorem k2_eq  (R : Ending → Mem → Prop) (x0 : Int) (x1 : Int) (x2 : Bool) (x8 : ByteArray) (x9b : Nat) (x9o : Nat) (x10 : Int) (x11 : Int) (x48 : Bool) (ρ : Env) (m : Mem) : k2  x0 x1 x2 x8 x9b x9o x10 x11 x48 R m = acpt P od (panicR R) (k2A  R) (thenQ (acpt P od (panicR R) (.cut (k3E fun x0 x1 x2 x8 x9b x9o x10 x11 m => k3  x0 x1 x2 x8 x9b x9o x10 x11 R m) (sR (sR (sR (sR (sR (sR (sR (body))))))))) (bodyQ P fn R)) (bodyQ P fn R)) (upd (upd (upd (upd (upd (upd (upd (upd ρ 48 (.bool x48)) 11 (.int .i64 x11)) 10 (.int .i64 x10)) 9 (.pointer (some ⟨x9b, x9o, none⟩))) 8 (.string x8)) 2 (.bool x2)) 1 (.int .u8 x1)) 0 (.int .u8 x0)) m := by kernel_rfl
theorem k2_er  (R : Ending → Mem → Prop) : (k2A  R).erase = sR (sL (sR (sR (sR (sR (sR (sR (body)))))))) := by kernel_rfl
theorem k2_ok  (R : Ending → Mem → Prop) (ρ : Env) (m : Mem) (h : (k2E fun x0 x1 x2 x8 x9b x9o x10 x11 x48 m => k2  x0 x1 x2 x8 x9b x9o x10 x11 x48 R m) ρ m) : cpt P od (panicR R) (sR (sL (sR (sR (sR (sR (sR (sR (body))))))))) (thenQ (acpt P od (panicR R) (.cut (k3E fun x0 x1 x2 x8 x9b x9o x10 x11 m => k3  x0 x1 x2 x8 x9b x9o x10 x11 R m) (sR (sR (sR (sR (sR (sR (sR (body))))))))) (bodyQ P fn R)) (bodyQ P fn R)) ρ m := by
  unfold k2E at h
  obtain ⟨x0, e0, h⟩ := h.ex
  obtain ⟨x1, e1, h⟩ := h.ex
  obtain ⟨x2, e2, h⟩ := h.ex
  obtain ⟨x8, e8, h⟩ := h.ex
  obtain ⟨x9b, x9o, e9, h⟩ := h.ex
  obtain ⟨x10, e10, h⟩ := h.ex
  obtain ⟨x11, e11, h⟩ := h.ex
  obtain ⟨x48, e48, h⟩ := h.ex
  rw [← upd_self e0, ← upd_self e1, ← upd_self e2, ← upd_self e8, ← upd_self e9, ← upd_self e10, ← upd_self e11, ← upd_self e48]
  rw [← k2_er  R]
  refine acpt_sound (P := P) (k2A  R) _ _ _ True.intro ?_
  exact Eq.mp (k2_eq  R x0 x1 x2 x8 x9b x9o x10 x11 x48 ρ m) h
theorem k1_eq  (R : Ending → Mem → Prop) (x0 : Int) (x1 : Int) (x2 : Bool) (x8 : ByteArray) (ρ : Env) (m : Mem) : k1  x0 x1 x2 x8 R m = acpt P od (panicR R) (k1A  R) (bodyQ P fn R) (upd (upd (upd (upd ρ 8 (.string x8)) 2 (.bool x2)) 1 (.int .u8 x1)) 0 (.int .u8 x0)) m := by kernel_rfl
theorem k1_er  (R : Ending → Mem → Prop) : (k1A  R).erase = sR (sR (sR (sR (sR (body))))) := by kernel_rfl
theorem k1_ok  (R : Ending → Mem → Prop) (ρ : Env) (m : Mem) (h : (k1E fun x0 x1 x2 x8 m => k1  x0 x1 x2 x8 R m) ρ m) : cpt P od (panicR R) (sR (sR (sR (sR (sR (body)))))) (bodyQ P fn R) ρ m := by
  unfold k1E at h
  obtain ⟨x0, e0, h⟩ := h.ex
  obtain ⟨x1, e1, h⟩ := h.ex
  obtain ⟨x2, e2, h⟩ := h.ex
  obtain ⟨x8, e8, h⟩ := h.ex
  rw [← upd_self e0, ← upd_self e1, ← upd_self e2, ← upd_self e8]
  rw [← k1_er  R]
  refine acpt_sound (P := P) (k1A  R) _ _ _ ⟨⟨(fun ρ m h => k3_ok  R ρ m h), ⟨(fun ρ m h => k2_ok  R ρ m h), True.intro⟩⟩, True.intro⟩ ?_
  exact Eq.mp (k1_eq  R x0 x1 x2 x8 ρ m) h
theorem e0_eq (a0 : Int) (a1 : Int) (a2 : Bool) (R : Ending → Mem → Prop) (m : Mem) : e0 a0 a1 a2 R m = acpt P od (panicR R) (e0A R) (bodyQ P fn R) (argE (#[.int .u8 a0, .int .u8 a1, .bool a2] : Array Value).toList) m := by kernel_rfl
theorem ok (a0 : Int) (a1 : Int) (a2 : Bool) (R : Ending → Mem → Prop) (m : Mem) (h : e0 a0 a1 a2 R m) : HC P id #[.int .u8 a0, .int .u8 a1, .bool a2] m R := by
  refine HC_of (fn := fn) (c := body) (od := od) (tb := tb) Go.Proofs.Tryd.func6 (by kernel_rfl) (by kernel_rfl) follows (by kernel_rfl) (of_decide_eq_true (by kernel_rfl)) ?_
  have he : (e0A R).erase = body := by kernel_rfl
  rw [← he]
  refine acpt_sound (P := P) (e0A R) _ _ _ ⟨⟨⟨⟨⟨(fun ρ m h => k1_ok  R ρ m h), True.intro⟩, True.intro⟩, True.intro⟩, True.intro⟩, True.intro⟩ ?_
  exact Eq.mp (e0_eq a0 a1 a2 R m) h
end eyotlaw8_ClassRuns

/-! ### eyot/eyotlaw8.ClassSigns -/
namespace eyotlaw8_ClassSigns
noncomputable def fn : Func := Go.Proofs.Tryd.f7
noncomputable def body : Code := fn.body.getD .skip
def od : Nat → Ord := fun | 11 => ordL [(0, 3), (1, 3), (2, 3), (3, 3), (4, 3), (5, 3), (6, 3), (7, 3), (8, 3), (9, 3), (10, 3), (11, 3), (12, 3), (13, 3), (14, 1), (15, 3), (16, 0), (17, 0), (18, 3), (19, 3), (20, 3), (21, 3)] .done | 13 => ordL [(0, 3), (1, 3), (2, 3), (3, 3), (4, 3), (5, 3), (6, 3), (7, 3), (8, 3), (9, 3), (10, 3), (11, 1), (12, 3), (13, 0), (14, 0), (15, 3), (16, 3), (17, 3), (18, 3), (19, 3)] .done | _ => .done
def tb : Nat → Tab := fun | 11 => (0, [0, 0, 2, 6, 14, 30, 62, 127, 255, 511, 1023, 2047, 4095, 8191, 16383, 16383, 49151, 114687, 262143, 524287, 1048575, 2097151], [(0, 2048, 52), (0, 128, 53), (2, 4503599627370496, 54), (4, 9007199254740992, 55), (8, 18014398509481985, 56), (24, 54043195528445952, 57), (40, 90071992547409920, 58), (65, 146366987889541120, 59), (136, 288230376151711744, 60), (256, 576460752303425536, 61), (768, 1729382256910270464, 62), (1024, 2305843009213694016, 63), (3072, 6917529027641081856, 64), (5120, 11529215046068469760, 65), (8192, 18446744073709551648, 66), (8192, 18446744073709551617, 67), (40960, 92233720368547758080, 68), (73728, 166020696663385964544, 69), (155648, 350488137400481480704, 70), (271360, 611048397441628897280, 71), (525568, 1183473924478928420864, 72), (1048832, 2361759702187126030336, 73)]) | 13 => (0, [0, 0, 2, 7, 15, 31, 63, 127, 255, 511, 1023, 2047, 2047, 6143, 14335, 32767, 65535, 131071, 262143, 524287], [(0, 8, 74), (0, 1024, 75), (2, 18889465931478580854784, 76), (5, 47223664828696452136960, 77), (8, 75557863725914323419136, 78), (16, 151115727451828646838280, 79), (48, 453347182355485940514816, 80), (80, 755578637259143234191360, 81), (128, 1208925819614629174706688, 82), (384, 3626777458843887524118528, 83), (640, 6044629098073145873530880, 84), (1024, 9671406556917033397649664, 85), (1024, 9671406556917033397649409, 86), (5120, 48357032784585166988247040, 87), (9216, 87042659012253300578844672, 88), (19456, 183756724581423634555338752, 89), (33920, 320365342197876731297136640, 90), (65680, 620330061189756595271106560, 91), (131088, 1238091155012832103545962496, 92), (524287, 2475880078570760549798248448, 3)]) | _ => (0, [], [])
def k4E (K : Int → Bool → Nat → Nat → Int → Int → Mem → Prop) : Env → Mem → Prop := fun ρ m => UnI (ρ 0) .u8 fun x0 => UnB (ρ 3) fun x3 => UnPA (ρ 8) fun x8b x8o => UnI (ρ 9) .i64 fun x9 => UnI (ρ 10) .i64 fun x10 => K x0 x3 x8b x8o x9 x10 m
def k4  (x0 : Int) (x3 : Bool) (x8b : Nat) (x8o : Nat) (x9 : Int) (x10 : Int) (R : Ending → Mem → Prop) (m : Mem) : Prop :=
  Sub m fun r1 =>
  Br (x3 == (x10 == 0)) (
    Br (!x3) (
      R (.returned (.bool true)) m) (
      Br (x9 == 2) (
        LdV r1 x8b x8o fun v =>
        UnI v .u64 fun x84_0 =>
        LdV r1 x8b (x8o + 1) fun v =>
        UnI v .u64 fun x84_1 =>
        LdV r1 x8b (x8o + 2) fun v =>
        UnI v .u64 fun x84_2 =>
        LdV r1 x8b (x8o + 3) fun v =>
        UnI v .u64 fun x84_3 =>
        NewC m #[.int .u8 x0] T_uint8 fun b86 m2 =>
        Lk r1 m2 fun r3 =>
        HC P class_Of.id #[.slice (some ⟨b86, 0, none⟩) 1 1] m2 (Cont (fun v m4 =>
            UnAgg v fun l =>
            UnCons l fun v l =>
            UnI v .u64 fun x87_0 =>
            UnCons l fun v l =>
            UnI v .u64 fun x87_1 =>
            UnCons l fun v l =>
            UnI v .u64 fun x87_2 =>
            UnCons l fun v l =>
            UnI v .u64 fun x87_3 =>
            UnNil l (
              Lk r3 m4 fun r5 =>
              R (.returned (.bool (eqL [.int .u64 x84_0, .int .u64 x84_1, .int .u64 x84_2, .int .u64 x84_3] [.int .u64 x87_0, .int .u64 x87_1, .int .u64 x87_2, .int .u64 x87_3]))) m4)) (panicR R))) (
        R (.returned (.bool false)) m))) (
    R (.returned (.bool false)) m)
noncomputable def k4A  (R : Ending → Mem → Prop) : ACode := (.code (sR (sR (sR (sR (sR (sR (sR (sR (body))))))))))
def k3E (K : Int → Bool → Nat → Nat → Int → Int → Nat → Nat → Int → Int → Bool → Mem → Prop) : Env → Mem → Prop := fun ρ m => UnI (ρ 0) .u8 fun x0 => UnB (ρ 3) fun x3 => UnPA (ρ 5) fun x5b x5o => UnI (ρ 6) .i64 fun x6 => UnI (ρ 7) .i64 fun x7 => UnPA (ρ 8) fun x8b x8o => UnI (ρ 9) .i64 fun x9 => UnI (ρ 10) .i64 fun x10 => UnB (ρ 11) fun x11 => K x0 x3 x5b x5o x6 x7 x8b x8o x9 x10 x11 m
def k3  (x0 : Int) (x3 : Bool) (x5b : Nat) (x5o : Nat) (x6 : Int) (x7 : Int) (x8b : Nat) (x8o : Nat) (x9 : Int) (x10 : Int) (x11 : Bool) (R : Ending → Mem → Prop) (m : Mem) : Prop :=
  Sub m fun r1 =>
  Br (x7 == 0) (
    Br (!(x11 == (x0 != 46))) (
      R (.returned (.bool false)) m) (
      Br x11 (
        Br (x6 != 1) (
          R (.returned (.bool false)) m) (
          LdV r1 x5b x5o fun v =>
          UnI v .u64 fun x65_0 =>
          LdV r1 x5b (x5o + 1) fun v =>
          UnI v .u64 fun x65_1 =>
          LdV r1 x5b (x5o + 2) fun v =>
          UnI v .u64 fun x65_2 =>
          LdV r1 x5b (x5o + 3) fun v =>
          UnI v .u64 fun x65_3 =>
          NewC m #[.int .u8 x0] T_uint8 fun b67 m2 =>
          Lk r1 m2 fun r3 =>
          HC P class_Of.id #[.slice (some ⟨b67, 0, none⟩) 1 1] m2 (Cont (fun v m4 =>
              UnAgg v fun l =>
              UnCons l fun v l =>
              UnI v .u64 fun x68_0 =>
              UnCons l fun v l =>
              UnI v .u64 fun x68_1 =>
              UnCons l fun v l =>
              UnI v .u64 fun x68_2 =>
              UnCons l fun v l =>
              UnI v .u64 fun x68_3 =>
              UnNil l (
                Lk r3 m4 fun r5 =>
                Br (!(eqL [.int .u64 x65_0, .int .u64 x65_1, .int .u64 x65_2, .int .u64 x65_3] [.int .u64 x68_0, .int .u64 x68_1, .int .u64 x68_2, .int .u64 x68_3])) (
                  R (.returned (.bool false)) m4) (
                  k4  x0 x3 x8b x8o x9 x10 R m4))) (panicR R)))) (
        k4  x0 x3 x8b x8o x9 x10 R m))) (
    Br (!(x11 == false)) (
      R (.returned (.bool false)) m) (
      Br x11 (
        Br (x6 != 1) (
          R (.returned (.bool false)) m) (
          LdV r1 x5b x5o fun v =>
          UnI v .u64 fun x65_0 =>
          LdV r1 x5b (x5o + 1) fun v =>
          UnI v .u64 fun x65_1 =>
          LdV r1 x5b (x5o + 2) fun v =>
          UnI v .u64 fun x65_2 =>
          LdV r1 x5b (x5o + 3) fun v =>
          UnI v .u64 fun x65_3 =>
          NewC m #[.int .u8 x0] T_uint8 fun b67 m2 =>
          Lk r1 m2 fun r3 =>
          HC P class_Of.id #[.slice (some ⟨b67, 0, none⟩) 1 1] m2 (Cont (fun v m4 =>
              UnAgg v fun l =>
              UnCons l fun v l =>
              UnI v .u64 fun x68_0 =>
              UnCons l fun v l =>
              UnI v .u64 fun x68_1 =>
              UnCons l fun v l =>
              UnI v .u64 fun x68_2 =>
              UnCons l fun v l =>
              UnI v .u64 fun x68_3 =>
              UnNil l (
                Lk r3 m4 fun r5 =>
                Br (!(eqL [.int .u64 x65_0, .int .u64 x65_1, .int .u64 x65_2, .int .u64 x65_3] [.int .u64 x68_0, .int .u64 x68_1, .int .u64 x68_2, .int .u64 x68_3])) (
                  R (.returned (.bool false)) m4) (
                  k4  x0 x3 x8b x8o x9 x10 R m4))) (panicR R)))) (
        k4  x0 x3 x8b x8o x9 x10 R m)))
noncomputable def k3A  (R : Ending → Mem → Prop) : ACode := (.seq (.code (sL (sR (sR (sR (sR (sR (sR (sR (body)))))))))) (.cut (k4E fun x0 x3 x8b x8o x9 x10 m => k4  x0 x3 x8b x8o x9 x10 R m) (sR (sR (sR (sR (sR (sR (sR (sR (body)))))))))))
def k2E (K : Int → Bool → Mem → Prop) : Env → Mem → Prop := fun ρ m => UnI (ρ 0) .u8 fun x0 => UnB (ρ 3) fun x3 => K x0 x3 m
def k2  (x0 : Int) (x3 : Bool) (R : Ending → Mem → Prop) (m : Mem) : Prop :=
  NewC m #[.int .u8 x0] T_uint8 fun b27 m1 =>
  B2S m1 (some ⟨b27, 0, none⟩) 1 fun s28 =>
  HC P class_Parse.id #[.string s28] m1 (Cont (fun v m2 =>
      UnTup v fun us0 =>
      UnCons us0 fun w us1 =>
      UnAgg w fun l =>
      UnCons l fun v l =>
      UnI v .u64 fun x29_0_0 =>
      UnCons l fun v l =>
      UnI v .u64 fun x29_0_1 =>
      UnCons l fun v l =>
      UnI v .u64 fun x29_0_2 =>
      UnCons l fun v l =>
      UnI v .u64 fun x29_0_3 =>
      UnNil l (
        UnCons us1 fun w us2 =>
        UnI w .i64 fun x29_1 =>
        UnCons us2 fun w us3 =>
        UnI w .i64 fun x29_2 =>
        UnNil us3 (
          NewC m2 #[.int .u64 0, .int .u64 0, .int .u64 0, .int .u64 0] T_api_Set fun b5 m3 =>
          St1 m3 b5 0 (.int .u64 x29_0_0) fun m4 =>
          St1 m4 b5 1 (.int .u64 x29_0_1) fun m5 =>
          St1 m5 b5 2 (.int .u64 x29_0_2) fun m6 =>
          St1 m6 b5 3 (.int .u64 x29_0_3) fun m7 =>
          NewC m7 #[.int .u8 92, .int .u8 x0] T_uint8 fun b35 m8 =>
          B2S m8 (some ⟨b35, 0, none⟩) 2 fun s36 =>
          HC P class_Parse.id #[.string s36] m8 (Cont (fun v m9 =>
              UnTup v fun us0 =>
              UnCons us0 fun w us1 =>
              UnAgg w fun l =>
              UnCons l fun v l =>
              UnI v .u64 fun x37_0_0 =>
              UnCons l fun v l =>
              UnI v .u64 fun x37_0_1 =>
              UnCons l fun v l =>
              UnI v .u64 fun x37_0_2 =>
              UnCons l fun v l =>
              UnI v .u64 fun x37_0_3 =>
              UnNil l (
                UnCons us1 fun w us2 =>
                UnI w .i64 fun x37_1 =>
                UnCons us2 fun w us3 =>
                UnI w .i64 fun x37_2 =>
                UnNil us3 (
                  NewC m9 #[.int .u64 0, .int .u64 0, .int .u64 0, .int .u64 0] T_api_Set fun b8 m10 =>
                  St1 m10 b8 0 (.int .u64 x37_0_0) fun m11 =>
                  St1 m11 b8 1 (.int .u64 x37_0_1) fun m12 =>
                  St1 m12 b8 2 (.int .u64 x37_0_2) fun m13 =>
                  St1 m13 b8 3 (.int .u64 x37_0_3) fun m14 =>
                  Br (decide (x0 ≥ 33)) (
                    Br (decide (x0 ≤ 126)) (
                      k3  x0 x3 b5 0 x29_1 x29_2 b8 0 x37_1 x37_2 (!x3) R m14) (
                      k3  x0 x3 b5 0 x29_1 x29_2 b8 0 x37_1 x37_2 false R m14)) (
                    k3  x0 x3 b5 0 x29_1 x29_2 b8 0 x37_1 x37_2 false R m14)))) (panicR R))))) (panicR R))
noncomputable def k2A  (R : Ending → Mem → Prop) : ACode := (.seq (.code (sL (sR (sR (sR (sR (body))))))) (.seq (.code (sL (sR (sR (sR (sR (sR (body)))))))) (.seq (.code (sL (sR (sR (sR (sR (sR (sR (body))))))))) (.cut (k3E fun x0 x3 x5b x5o x6 x7 x8b x8o x9 x10 x11 m => k3  x0 x3 x5b x5o x6 x7 x8b x8o x9 x10 x11 R m) (sR (sR (sR (sR (sR (sR (sR (body))))))))))))
def l1E (K : Int → Bool → Int → Mem → Prop) : Env → Mem → Prop := fun ρ m => UnI (ρ 0) .u8 fun x0 => UnB (ρ 3) fun x3 => UnI (ρ 4) .i64 fun x4 => K x0 x3 x4 m
def l1B  (K1 : Int → Bool → Int → Mem → Prop) (x0 : Int) (x3 : Bool) (x4 : Int) (R : Ending → Mem → Prop) (m : Mem) : Prop :=
  Br (decide (x4 < 12)) (
    Br x3 (
      K1 x0 true (IntKind.i64.wrap (x4 + 1)) m) (
      IxB (ByteArray.mk #[92, 124, 42, 43, 63, 40, 41, 91, 93, 46, 94, 45]) x4 fun x21 =>
      K1 x0 (x21 == x0) (IntKind.i64.wrap (x4 + 1)) m)) (
    k2  x0 x3 R m)
def l1  (x0 : Int) (x3 : Bool) (x4 : Int) (R : Ending → Mem → Prop) (m : Mem) : Prop :=
  ∃ (I : Nat → Int → Bool → Int → Mem → Prop) (N : Nat), I N x0 x3 x4 m ∧ ∀ N x0 x3 x4 m, I N x0 x3 x4 m → l1B  (fun x0 x3 x4 m => ∃ N1, N1 < N ∧ I N1 x0 x3 x4 m) x0 x3 x4 R m
noncomputable def l1A  (K1 : Int → Bool → Int → Mem → Prop) (R : Ending → Mem → Prop) : ACode := (.code (lP (bB (sR (sL (sR (sR (sR (body)))))))))
def e0 (a0 : Int) (R : Ending → Mem → Prop) (m : Mem) : Prop :=
  HC P eyotlaw8_begun.id #[] m (Cont (fun v m1 =>
      UnB v fun x12 =>
      Br (!x12) (
        R (.returned (.bool false)) m1) (
        l1  a0 false 0 R m1)) (panicR R))
noncomputable def e0A (R : Ending → Mem → Prop) : ACode := (.seq (.code (sL (body))) (.seq (.code (sL (sR (body)))) (.seq (.code (sL (sR (sR (body))))) (.seq (.seq (.code (sL (sL (sR (sR (sR (body))))))) (.block 0 (.cut (l1E fun x0 x3 x4 m => l1  x0 x3 x4 R m) (.loop (lP (bB (sR (sL (sR (sR (sR (body)))))))))))) (.cut (k2E fun x0 x3 m => k2  x0 x3 R m) (sR (sR (sR (sR (body))))))))))
theorem k4_eq  (R : Ending → Mem → Prop) (x0 : Int) (x3 : Bool) (x8b : Nat) (x8o : Nat) (x9 : Int) (x10 : Int) (ρ : Env) (m : Mem) : k4  x0 x3 x8b x8o x9 x10 R m = acpt P od (panicR R) (k4A  R) (bodyQ P fn R) (upd (upd (upd (upd (upd ρ 10 (.int .i64 x10)) 9 (.int .i64 x9)) 8 (.pointer (some ⟨x8b, x8o, none⟩))) 3 (.bool x3)) 0 (.int .u8 x0)) m := by kernel_rfl
theorem k4_er  (R : Ending → Mem → Prop) : (k4A  R).erase = sR (sR (sR (sR (sR (sR (sR (sR (body)))))))) := by kernel_rfl
theorem k4_ok  (R : Ending → Mem → Prop) (ρ : Env) (m : Mem) (h : (k4E fun x0 x3 x8b x8o x9 x10 m => k4  x0 x3 x8b x8o x9 x10 R m) ρ m) : cpt P od (panicR R) (sR (sR (sR (sR (sR (sR (sR (sR (body))))))))) (bodyQ P fn R) ρ m := by
  unfold k4E at h
  obtain ⟨x0, e0, h⟩ := h.ex
  obtain ⟨x3, e3, h⟩ := h.ex
  obtain ⟨x8b, x8o, e8, h⟩ := h.ex
  obtain ⟨x9, e9, h⟩ := h.ex
  obtain ⟨x10, e10, h⟩ := h.ex
  rw [← upd_self e0, ← upd_self e3, ← upd_self e8, ← upd_self e9, ← upd_self e10]
  rw [← k4_er  R]
  refine acpt_sound (P := P) (k4A  R) _ _ _ True.intro ?_
  exact Eq.mp (k4_eq  R x0 x3 x8b x8o x9 x10 ρ m) h
theorem k3_eq  (R : Ending → Mem → Prop) (x0 : Int) (x3 : Bool) (x5b : Nat) (x5o : Nat) (x6 : Int) (x7 : Int) (x8b : Nat) (x8o : Nat) (x9 : Int) (x10 : Int) (x11 : Bool) (ρ : Env) (m : Mem) : k3  x0 x3 x5b x5o x6 x7 x8b x8o x9 x10 x11 R m = acpt P od (panicR R) (k3A  R) (bodyQ P fn R) (upd (upd (upd (upd (upd (upd (upd (upd (upd ρ 11 (.bool x11)) 10 (.int .i64 x10)) 9 (.int .i64 x9)) 8 (.pointer (some ⟨x8b, x8o, none⟩))) 7 (.int .i64 x7)) 6 (.int .i64 x6)) 5 (.pointer (some ⟨x5b, x5o, none⟩))) 3 (.bool x3)) 0 (.int .u8 x0)) m := by kernel_rfl
theorem k3_er  (R : Ending → Mem → Prop) : (k3A  R).erase = sR (sR (sR (sR (sR (sR (sR (body))))))) := by kernel_rfl
theorem k3_ok  (R : Ending → Mem → Prop) (ρ : Env) (m : Mem) (h : (k3E fun x0 x3 x5b x5o x6 x7 x8b x8o x9 x10 x11 m => k3  x0 x3 x5b x5o x6 x7 x8b x8o x9 x10 x11 R m) ρ m) : cpt P od (panicR R) (sR (sR (sR (sR (sR (sR (sR (body)))))))) (bodyQ P fn R) ρ m := by
  unfold k3E at h
  obtain ⟨x0, e0, h⟩ := h.ex
  obtain ⟨x3, e3, h⟩ := h.ex
  obtain ⟨x5b, x5o, e5, h⟩ := h.ex
  obtain ⟨x6, e6, h⟩ := h.ex
  obtain ⟨x7, e7, h⟩ := h.ex
  obtain ⟨x8b, x8o, e8, h⟩ := h.ex
  obtain ⟨x9, e9, h⟩ := h.ex
  obtain ⟨x10, e10, h⟩ := h.ex
  obtain ⟨x11, e11, h⟩ := h.ex
  rw [← upd_self e0, ← upd_self e3, ← upd_self e5, ← upd_self e6, ← upd_self e7, ← upd_self e8, ← upd_self e9, ← upd_self e10, ← upd_self e11]
  rw [← k3_er  R]
  refine acpt_sound (P := P) (k3A  R) _ _ _ ⟨(fun ρ m h => k4_ok  R ρ m h), True.intro⟩ ?_
  exact Eq.mp (k3_eq  R x0 x3 x5b x5o x6 x7 x8b x8o x9 x10 x11 ρ m) h
theorem k2_eq  (R : Ending → Mem → Prop) (x0 : Int) (x3 : Bool) (ρ : Env) (m : Mem) : k2  x0 x3 R m = acpt P od (panicR R) (k2A  R) (bodyQ P fn R) (upd (upd ρ 3 (.bool x3)) 0 (.int .u8 x0)) m := by kernel_rfl
theorem k2_er  (R : Ending → Mem → Prop) : (k2A  R).erase = sR (sR (sR (sR (body)))) := by kernel_rfl
theorem k2_ok  (R : Ending → Mem → Prop) (ρ : Env) (m : Mem) (h : (k2E fun x0 x3 m => k2  x0 x3 R m) ρ m) : cpt P od (panicR R) (sR (sR (sR (sR (body))))) (bodyQ P fn R) ρ m := by
  unfold k2E at h
  obtain ⟨x0, e0, h⟩ := h.ex
  obtain ⟨x3, e3, h⟩ := h.ex
  rw [← upd_self e0, ← upd_self e3]
  rw [← k2_er  R]
  refine acpt_sound (P := P) (k2A  R) _ _ _ ⟨⟨⟨(fun ρ m h => k3_ok  R ρ m h), True.intro⟩, True.intro⟩, True.intro⟩ ?_
  exact Eq.mp (k2_eq  R x0 x3 ρ m) h
theorem l1_eq  (K1 : Int → Bool → Int → Mem → Prop) (R : Ending → Mem → Prop) (x0 : Int) (x3 : Bool) (x4 : Int) (ρ : Env) (m : Mem) : l1B  K1 x0 x3 x4 R m = acpt P od (panicR R) (l1A  K1 R) (thenQ (l1E K1) (blockQ 0 (thenQ (acpt P od (panicR R) (.cut (k2E fun x0 x3 m => k2  x0 x3 R m) (sR (sR (sR (sR (body)))))) (bodyQ P fn R)) (bodyQ P fn R)))) (upd (upd (upd ρ 4 (.int .i64 x4)) 3 (.bool x3)) 0 (.int .u8 x0)) m := by kernel_rfl
theorem l1_er  (K1 : Int → Bool → Int → Mem → Prop) (R : Ending → Mem → Prop) : (l1A  K1 R).erase = lP (bB (sR (sL (sR (sR (sR (body))))))) := by kernel_rfl
theorem l1_ok  (R : Ending → Mem → Prop) (ρ : Env) (m : Mem) (h : (l1E fun x0 x3 x4 m => l1  x0 x3 x4 R m) ρ m) : cpt P od (panicR R) (.loop (lP (bB (sR (sL (sR (sR (sR (body))))))))) (blockQ 0 (thenQ (acpt P od (panicR R) (.cut (k2E fun x0 x3 m => k2  x0 x3 R m) (sR (sR (sR (sR (body)))))) (bodyQ P fn R)) (bodyQ P fn R))) ρ m := by
  unfold l1E at h
  obtain ⟨x0, e0, h⟩ := h.ex
  obtain ⟨x3, e3, h⟩ := h.ex
  obtain ⟨x4, e4, h⟩ := h.ex
  obtain ⟨I, N, h0, hs⟩ := h
  refine ⟨fun N => l1E (I N), N, (by show l1E (I N) ρ m; unfold l1E; rw [e0, e3, e4]; exact h0), ?_⟩
  clear h0 e0 e3 e4
  intro N ρ m h
  unfold l1E at h
  obtain ⟨x0, e0, h⟩ := h.ex
  obtain ⟨x3, e3, h⟩ := h.ex
  obtain ⟨x4, e4, h⟩ := h.ex
  refine cpt_mono (P := P) (lP (bB (sR (sL (sR (sR (sR (body)))))))) (Q := thenQ (l1E fun x0 x3 x4 m => ∃ N1, N1 < N ∧ I N1 x0 x3 x4 m) (blockQ 0 (thenQ (acpt P od (panicR R) (.cut (k2E fun x0 x3 m => k2  x0 x3 R m) (sR (sR (sR (sR (body)))))) (bodyQ P fn R)) (bodyQ P fn R)))) (fun e ρ m h => ?_) ρ m ?_
  · cases e with
    | normal =>
      have h : l1E (fun x0 x3 x4 m => ∃ N1, N1 < N ∧ I N1 x0 x3 x4 m) ρ m := h
      unfold l1E at h
      obtain ⟨x0, e0, h⟩ := h.ex
      obtain ⟨x3, e3, h⟩ := h.ex
      obtain ⟨x4, e4, h⟩ := h.ex
      obtain ⟨N1, hlt, h⟩ := h
      exact ⟨N1, hlt, (by show l1E (I N1) ρ m; unfold l1E; rw [e0, e3, e4]; exact h)⟩
    | _ => exact h
  have hh := hs N x0 x3 x4 m h
  generalize (fun x0 x3 x4 m => ∃ N1, N1 < N ∧ I N1 x0 x3 x4 m : Int → Bool → Int → Mem → Prop) = K1 at hh ⊢
  rw [← upd_self e0, ← upd_self e3, ← upd_self e4]
  rw [← l1_er  K1 R]
  refine acpt_sound (P := P) (l1A  K1 R) _ _ _ True.intro ?_
  exact Eq.mp (l1_eq  K1 R x0 x3 x4 ρ m) hh
theorem e0_eq (a0 : Int) (R : Ending → Mem → Prop) (m : Mem) : e0 a0 R m = acpt P od (panicR R) (e0A R) (bodyQ P fn R) (argE (#[.int .u8 a0] : Array Value).toList) m := by kernel_rfl
theorem ok (a0 : Int) (R : Ending → Mem → Prop) (m : Mem) (h : e0 a0 R m) : HC P id #[.int .u8 a0] m R := by
  refine HC_of (fn := fn) (c := body) (od := od) (tb := tb) Go.Proofs.Tryd.func7 (by kernel_rfl) (by kernel_rfl) follows (by kernel_rfl) (of_decide_eq_true (by kernel_rfl)) ?_
  have he : (e0A R).erase = body := by kernel_rfl
  rw [← he]
  refine acpt_sound (P := P) (e0A R) _ _ _ ⟨⟨⟨⟨(fun ρ m h => k2_ok  R ρ m h), ⟨(fun ρ m h => l1_ok  R ρ m h), True.intro⟩⟩, True.intro⟩, True.intro⟩, True.intro⟩ ?_
  exact Eq.mp (e0_eq a0 R m) h
end eyotlaw8_ClassSigns

/-! ### eyot/eyotlaw8.ClassAll -/
namespace eyotlaw8_ClassAll
noncomputable def fn : Func := Go.Proofs.Tryd.f8
noncomputable def body : Code := fn.body.getD .skip
def od : Nat → Ord := fun | 12 => ordL [(0, 1), (1, 3), (3, 1), (4, 3), (2, 0), (5, 0), (6, 3), (7, 3), (8, 1), (9, 1), (11, 1), (12, 1), (10, 0), (13, 0), (14, 3), (15, 3), (16, 3), (17, 1), (18, 1), (20, 1), (21, 1), (19, 0), (22, 0), (23, 3), (24, 3), (25, 3), (26, 1), (28, 1), (27, 0), (29, 0), (30, 3), (31, 3), (32, 3), (33, 3), (35, 3), (34, 0), (36, 0), (37, 3), (38, 3), (39, 3), (40, 1), (42, 1), (41, 0), (43, 2), (44, 3), (45, 3), (46, 3), (47, 3), (48, 3), (49, 3), (50, 3), (51, 3), (52, 3), (53, 3), (54, 3), (55, 3), (56, 3)] .done | _ => .done
def tb : Nat → Tab := fun | 12 => (8796093022208, [0, 0, 3, 0, 0, 31, 63, 127, 255, 255, 1023, 255, 255, 8191, 16383, 32767, 65535, 131071, 131071, 524287, 131071, 131071, 4194303, 8388607, 16777215, 33554431, 67108863, 134217727, 67108863, 536870911, 1073741823, 2147483647, 4294967295, 8589934591, 17179869183, 8589934591, 68719476735, 137438953471, 274877906943, 549755813887, 1099511627775, 2199023255551, 1099511627775, 8796093022207, 17592186044415, 35184372088831, 70368744177663, 140737488355327, 140737488355327, 562949953421311, 1125899906842623, 2251799813685247, 4503599627370495, 4503599627370495, 18014398509481983, 36028797018963967, 72057594037927935], [(0, 16, 35), (0, 4, 36), (3, 51539607552, 37), (0, 16, 38), (0, 4, 39), (28, 412316860416, 40), (36, 618475290624, 41), (96, 1099511627776, 42), (128, 2199023255568, 43), (128, 2199023255584, 44), (896, 15393162788864, 45), (128, 2199023255568, 46), (128, 2199023255584, 47), (7296, 107752139522048, 48), (9344, 160528697655296, 49), (16512, 283673999966208, 50), (40960, 562949953421312, 51), (65536, 1125899906842640, 52), (65536, 1125899906842656, 53), (458752, 7881299347898368, 54), (65536, 1125899906842640, 55), (65536, 1125899906842656, 56), (3735552, 55169095435288576, 57), (4784128, 82190693199511552, 58), (8454144, 145241087982698496, 59), (20971520, 288230376151711744, 60), (33554432, 576460752303423504, 61), (100663296, 1729382256910270464, 62), (33554432, 576460752303423504, 63), (436207616, 5188146770730811392, 64), (704643072, 12105675798371893248, 65), (1107296256, 19023204826012975104, 66), (2684354560, 36893488147419103232, 67), (4294967296, 73786976294838206472, 68), (12884901888, 221360928884514619392, 69), (4294967296, 73786976294838206472, 70), (55834574848, 664082786653543858176, 71), (90194313216, 1549526502191602335744, 72), (141733920768, 2434970217729660813312, 73), (343597383680, 4722366482869645213696, 74), (549755813888, 9444732965739290427408, 75), (1649267441664, 28334198897217871282176, 76), (549755813888, 9444732965739290427408, 77), (7146825580544, 85002596691653613846528, 78), (11544872091648, 198339392280525098975232, 79), (18141941858304, 311676187869396584103936, 80), (43980465111040, 604462909807314587353088, 81), (70368744177664, 1208925819614629174706688, 82), (70368744177664, 1208925819614629174708224, 83), (492581209243648, 8462480737302404222943232, 84), (633318697598976, 10880332376531662572355584, 85), (1196268651020288, 19342813113834066795298816, 86), (2251799813685248, 38685626227668133590598656, 87), (2251799813685248, 38685626227668133590601728, 88), (15762598695796736, 270799383593676935134183424, 89), (20266198323167232, 348170636049013202315378688, 90), (72057594037927935, 618970019642690137449562112, 9)]) | _ => (0, [], [])
def k7E (K : Nat → Nat → Int → Bool → Int → Bool → Bool → Mem → Mem → Prop) : Mem → Env → Mem → Prop := fun r ρ m => UnPA (ρ 4) fun x4b x4o => UnI (ρ 9) .u8 fun x9 => UnB (ρ 10) fun x10 => UnI (ρ 11) .u8 fun x11 => UnB (ρ 12) fun x12 => UnB (ρ 73) fun x73 => K x4b x4o x9 x10 x11 x12 x73 r m
def k7  (x4b : Nat) (x4o : Nat) (x9 : Int) (x10 : Bool) (x11 : Int) (x12 : Bool) (x73 : Bool) (R : Ending → Mem → Prop) (r m : Mem) : Prop :=
  Br x73 (
    LdV r x4b x4o fun v =>
    UnI v .u64 fun x74_0 =>
    LdV r x4b (x4o + 1) fun v =>
    UnI v .u64 fun x74_1 =>
    LdV r x4b (x4o + 2) fun v =>
    UnI v .u64 fun x74_2 =>
    LdV r x4b (x4o + 3) fun v =>
    UnI v .u64 fun x74_3 =>
    LdV r x4b x4o fun v =>
    UnI v .u64 fun x76_0 =>
    LdV r x4b (x4o + 1) fun v =>
    UnI v .u64 fun x76_1 =>
    LdV r x4b (x4o + 2) fun v =>
    UnI v .u64 fun x76_2 =>
    LdV r x4b (x4o + 3) fun v =>
    UnI v .u64 fun x76_3 =>
    HC P class_Show.id #[.agg #[.int .u64 x74_0, .int .u64 x74_1, .int .u64 x74_2, .int .u64 x74_3]] m (Cont (fun v m1 =>
        UnStr v fun x75 =>
        Lk r m1 fun r2 =>
        HC P eyotref8_ShowClass.id #[.agg #[.int .u64 x76_0, .int .u64 x76_1, .int .u64 x76_2, .int .u64 x76_3]] m1 (Cont (fun v m3 =>
            UnStr v fun x77 =>
            Br (x75.toList == x77.toList) (
              Br (x9 == x11) (
                R (.returned (.bool (x10 == x12))) m3) (
                R (.returned (.bool false)) m3)) (
              R (.returned (.bool false)) m3)) (panicR R))) (panicR R))) (
    R (.returned (.bool false)) m)
def k6E (K : Option Addr → Nat → Nat → Nat → Nat → Int → Bool → Int → Bool → Bool → Mem → Mem → Prop) : Mem → Env → Mem → Prop := fun r ρ m => UnS (ρ 3) fun x3a x3l x3c => UnPA (ρ 4) fun x4b x4o => UnI (ρ 9) .u8 fun x9 => UnB (ρ 10) fun x10 => UnI (ρ 11) .u8 fun x11 => UnB (ρ 12) fun x12 => UnB (ρ 66) fun x66 => K x3a x3l x3c x4b x4o x9 x10 x11 x12 x66 r m
def k6  (x3a : Option Addr) (x3l : Nat) (x3c : Nat) (x4b : Nat) (x4o : Nat) (x9 : Int) (x10 : Bool) (x11 : Int) (x12 : Bool) (x66 : Bool) (R : Ending → Mem → Prop) (r m : Mem) : Prop :=
  Br x66 (
    HC P class_Of.id #[.slice x3a x3l x3c] m (Cont (fun v m1 =>
        UnAgg v fun l =>
        UnCons l fun v l =>
        UnI v .u64 fun x68_0 =>
        UnCons l fun v l =>
        UnI v .u64 fun x68_1 =>
        UnCons l fun v l =>
        UnI v .u64 fun x68_2 =>
        UnCons l fun v l =>
        UnI v .u64 fun x68_3 =>
        UnNil l (
          Lk r m1 fun r2 =>
          HC P eyotref8_Of.id #[.slice x3a x3l x3c] m1 (Cont (fun v m3 =>
              UnAgg v fun l =>
              UnCons l fun v l =>
              UnI v .u64 fun x70_0 =>
              UnCons l fun v l =>
              UnI v .u64 fun x70_1 =>
              UnCons l fun v l =>
              UnI v .u64 fun x70_2 =>
              UnCons l fun v l =>
              UnI v .u64 fun x70_3 =>
              UnNil l (
                Lk r2 m3 fun r4 =>
                k7  x4b x4o x9 x10 x11 x12 (eqL [.int .u64 x68_0, .int .u64 x68_1, .int .u64 x68_2, .int .u64 x68_3] [.int .u64 x70_0, .int .u64 x70_1, .int .u64 x70_2, .int .u64 x70_3]) R r4 m3)) (panicR R)))) (panicR R))) (
    k7  x4b x4o x9 x10 x11 x12 false R r m)
def k6G (Kk7 : Nat → Nat → Int → Bool → Int → Bool → Bool → Mem → Mem → Prop)  (x3a : Option Addr) (x3l : Nat) (x3c : Nat) (x4b : Nat) (x4o : Nat) (x9 : Int) (x10 : Bool) (x11 : Int) (x12 : Bool) (x66 : Bool) (R : Ending → Mem → Prop) (r m : Mem) : Prop :=
  Br x66 (
    HC P class_Of.id #[.slice x3a x3l x3c] m (Cont (fun v m1 =>
        UnAgg v fun l =>
        UnCons l fun v l =>
        UnI v .u64 fun x68_0 =>
        UnCons l fun v l =>
        UnI v .u64 fun x68_1 =>
        UnCons l fun v l =>
        UnI v .u64 fun x68_2 =>
        UnCons l fun v l =>
        UnI v .u64 fun x68_3 =>
        UnNil l (
          Lk r m1 fun r2 =>
          HC P eyotref8_Of.id #[.slice x3a x3l x3c] m1 (Cont (fun v m3 =>
              UnAgg v fun l =>
              UnCons l fun v l =>
              UnI v .u64 fun x70_0 =>
              UnCons l fun v l =>
              UnI v .u64 fun x70_1 =>
              UnCons l fun v l =>
              UnI v .u64 fun x70_2 =>
              UnCons l fun v l =>
              UnI v .u64 fun x70_3 =>
              UnNil l (
                Lk r2 m3 fun r4 =>
                Kk7 x4b x4o x9 x10 x11 x12 (eqL [.int .u64 x68_0, .int .u64 x68_1, .int .u64 x68_2, .int .u64 x68_3] [.int .u64 x70_0, .int .u64 x70_1, .int .u64 x70_2, .int .u64 x70_3])  r4 m3)) (panicR R)))) (panicR R))) (
    Kk7 x4b x4o x9 x10 x11 x12 false  r m)
def k5E (K : Option Addr → Nat → Nat → Nat → Nat → Int → Bool → Int → Bool → Bool → Mem → Mem → Prop) : Mem → Env → Mem → Prop := fun r ρ m => UnS (ρ 3) fun x3a x3l x3c => UnPA (ρ 4) fun x4b x4o => UnI (ρ 9) .u8 fun x9 => UnB (ρ 10) fun x10 => UnI (ρ 11) .u8 fun x11 => UnB (ρ 12) fun x12 => UnB (ρ 59) fun x59 => K x3a x3l x3c x4b x4o x9 x10 x11 x12 x59 r m
def k5  (x3a : Option Addr) (x3l : Nat) (x3c : Nat) (x4b : Nat) (x4o : Nat) (x9 : Int) (x10 : Bool) (x11 : Int) (x12 : Bool) (x59 : Bool) (R : Ending → Mem → Prop) (r m : Mem) : Prop :=
  Br x59 (
    LdV r x4b x4o fun v =>
    UnI v .u64 fun x60_0 =>
    LdV r x4b (x4o + 1) fun v =>
    UnI v .u64 fun x60_1 =>
    LdV r x4b (x4o + 2) fun v =>
    UnI v .u64 fun x60_2 =>
    LdV r x4b (x4o + 3) fun v =>
    UnI v .u64 fun x60_3 =>
    LdV r x4b x4o fun v =>
    UnI v .u64 fun x62_0 =>
    LdV r x4b (x4o + 1) fun v =>
    UnI v .u64 fun x62_1 =>
    LdV r x4b (x4o + 2) fun v =>
    UnI v .u64 fun x62_2 =>
    LdV r x4b (x4o + 3) fun v =>
    UnI v .u64 fun x62_3 =>
    HC P class_Not.id #[.agg #[.int .u64 x60_0, .int .u64 x60_1, .int .u64 x60_2, .int .u64 x60_3]] m (Cont (fun v m1 =>
        UnAgg v fun l =>
        UnCons l fun v l =>
        UnI v .u64 fun x61_0 =>
        UnCons l fun v l =>
        UnI v .u64 fun x61_1 =>
        UnCons l fun v l =>
        UnI v .u64 fun x61_2 =>
        UnCons l fun v l =>
        UnI v .u64 fun x61_3 =>
        UnNil l (
          Lk r m1 fun r2 =>
          HC P eyotref8_Not.id #[.agg #[.int .u64 x62_0, .int .u64 x62_1, .int .u64 x62_2, .int .u64 x62_3]] m1 (Cont (fun v m3 =>
              UnAgg v fun l =>
              UnCons l fun v l =>
              UnI v .u64 fun x63_0 =>
              UnCons l fun v l =>
              UnI v .u64 fun x63_1 =>
              UnCons l fun v l =>
              UnI v .u64 fun x63_2 =>
              UnCons l fun v l =>
              UnI v .u64 fun x63_3 =>
              UnNil l (
                Lk r2 m3 fun r4 =>
                k6  x3a x3l x3c x4b x4o x9 x10 x11 x12 (eqL [.int .u64 x61_0, .int .u64 x61_1, .int .u64 x61_2, .int .u64 x61_3] [.int .u64 x63_0, .int .u64 x63_1, .int .u64 x63_2, .int .u64 x63_3]) R r4 m3)) (panicR R)))) (panicR R))) (
    k6  x3a x3l x3c x4b x4o x9 x10 x11 x12 false R r m)
def k5G (Kk6 : Option Addr → Nat → Nat → Nat → Nat → Int → Bool → Int → Bool → Bool → Mem → Mem → Prop)  (x3a : Option Addr) (x3l : Nat) (x3c : Nat) (x4b : Nat) (x4o : Nat) (x9 : Int) (x10 : Bool) (x11 : Int) (x12 : Bool) (x59 : Bool) (R : Ending → Mem → Prop) (r m : Mem) : Prop :=
  Br x59 (
    LdV r x4b x4o fun v =>
    UnI v .u64 fun x60_0 =>
    LdV r x4b (x4o + 1) fun v =>
    UnI v .u64 fun x60_1 =>
    LdV r x4b (x4o + 2) fun v =>
    UnI v .u64 fun x60_2 =>
    LdV r x4b (x4o + 3) fun v =>
    UnI v .u64 fun x60_3 =>
    LdV r x4b x4o fun v =>
    UnI v .u64 fun x62_0 =>
    LdV r x4b (x4o + 1) fun v =>
    UnI v .u64 fun x62_1 =>
    LdV r x4b (x4o + 2) fun v =>
    UnI v .u64 fun x62_2 =>
    LdV r x4b (x4o + 3) fun v =>
    UnI v .u64 fun x62_3 =>
    HC P class_Not.id #[.agg #[.int .u64 x60_0, .int .u64 x60_1, .int .u64 x60_2, .int .u64 x60_3]] m (Cont (fun v m1 =>
        UnAgg v fun l =>
        UnCons l fun v l =>
        UnI v .u64 fun x61_0 =>
        UnCons l fun v l =>
        UnI v .u64 fun x61_1 =>
        UnCons l fun v l =>
        UnI v .u64 fun x61_2 =>
        UnCons l fun v l =>
        UnI v .u64 fun x61_3 =>
        UnNil l (
          Lk r m1 fun r2 =>
          HC P eyotref8_Not.id #[.agg #[.int .u64 x62_0, .int .u64 x62_1, .int .u64 x62_2, .int .u64 x62_3]] m1 (Cont (fun v m3 =>
              UnAgg v fun l =>
              UnCons l fun v l =>
              UnI v .u64 fun x63_0 =>
              UnCons l fun v l =>
              UnI v .u64 fun x63_1 =>
              UnCons l fun v l =>
              UnI v .u64 fun x63_2 =>
              UnCons l fun v l =>
              UnI v .u64 fun x63_3 =>
              UnNil l (
                Lk r2 m3 fun r4 =>
                Kk6 x3a x3l x3c x4b x4o x9 x10 x11 x12 (eqL [.int .u64 x61_0, .int .u64 x61_1, .int .u64 x61_2, .int .u64 x61_3] [.int .u64 x63_0, .int .u64 x63_1, .int .u64 x63_2, .int .u64 x63_3])  r4 m3)) (panicR R)))) (panicR R))) (
    Kk6 x3a x3l x3c x4b x4o x9 x10 x11 x12 false  r m)
def k4E (K : Option Addr → Nat → Nat → Nat → Nat → Nat → Nat → Int → Bool → Int → Bool → Bool → Mem → Mem → Prop) : Mem → Env → Mem → Prop := fun r ρ m => UnS (ρ 3) fun x3a x3l x3c => UnPA (ρ 4) fun x4b x4o => UnPA (ρ 5) fun x5b x5o => UnI (ρ 9) .u8 fun x9 => UnB (ρ 10) fun x10 => UnI (ρ 11) .u8 fun x11 => UnB (ρ 12) fun x12 => UnB (ρ 50) fun x50 => K x3a x3l x3c x4b x4o x5b x5o x9 x10 x11 x12 x50 r m
def k4  (x3a : Option Addr) (x3l : Nat) (x3c : Nat) (x4b : Nat) (x4o : Nat) (x5b : Nat) (x5o : Nat) (x9 : Int) (x10 : Bool) (x11 : Int) (x12 : Bool) (x50 : Bool) (R : Ending → Mem → Prop) (r m : Mem) : Prop :=
  Br x50 (
    LdV r x4b x4o fun v =>
    UnI v .u64 fun x51_0 =>
    LdV r x4b (x4o + 1) fun v =>
    UnI v .u64 fun x51_1 =>
    LdV r x4b (x4o + 2) fun v =>
    UnI v .u64 fun x51_2 =>
    LdV r x4b (x4o + 3) fun v =>
    UnI v .u64 fun x51_3 =>
    LdV r x5b x5o fun v =>
    UnI v .u64 fun x52_0 =>
    LdV r x5b (x5o + 1) fun v =>
    UnI v .u64 fun x52_1 =>
    LdV r x5b (x5o + 2) fun v =>
    UnI v .u64 fun x52_2 =>
    LdV r x5b (x5o + 3) fun v =>
    UnI v .u64 fun x52_3 =>
    LdV r x4b x4o fun v =>
    UnI v .u64 fun x54_0 =>
    LdV r x4b (x4o + 1) fun v =>
    UnI v .u64 fun x54_1 =>
    LdV r x4b (x4o + 2) fun v =>
    UnI v .u64 fun x54_2 =>
    LdV r x4b (x4o + 3) fun v =>
    UnI v .u64 fun x54_3 =>
    LdV r x5b x5o fun v =>
    UnI v .u64 fun x55_0 =>
    LdV r x5b (x5o + 1) fun v =>
    UnI v .u64 fun x55_1 =>
    LdV r x5b (x5o + 2) fun v =>
    UnI v .u64 fun x55_2 =>
    LdV r x5b (x5o + 3) fun v =>
    UnI v .u64 fun x55_3 =>
    HC P class_And.id #[.agg #[.int .u64 x51_0, .int .u64 x51_1, .int .u64 x51_2, .int .u64 x51_3], .agg #[.int .u64 x52_0, .int .u64 x52_1, .int .u64 x52_2, .int .u64 x52_3]] m (Cont (fun v m1 =>
        UnAgg v fun l =>
        UnCons l fun v l =>
        UnI v .u64 fun x53_0 =>
        UnCons l fun v l =>
        UnI v .u64 fun x53_1 =>
        UnCons l fun v l =>
        UnI v .u64 fun x53_2 =>
        UnCons l fun v l =>
        UnI v .u64 fun x53_3 =>
        UnNil l (
          Lk r m1 fun r2 =>
          HC P eyotref8_And.id #[.agg #[.int .u64 x54_0, .int .u64 x54_1, .int .u64 x54_2, .int .u64 x54_3], .agg #[.int .u64 x55_0, .int .u64 x55_1, .int .u64 x55_2, .int .u64 x55_3]] m1 (Cont (fun v m3 =>
              UnAgg v fun l =>
              UnCons l fun v l =>
              UnI v .u64 fun x56_0 =>
              UnCons l fun v l =>
              UnI v .u64 fun x56_1 =>
              UnCons l fun v l =>
              UnI v .u64 fun x56_2 =>
              UnCons l fun v l =>
              UnI v .u64 fun x56_3 =>
              UnNil l (
                Lk r2 m3 fun r4 =>
                k5  x3a x3l x3c x4b x4o x9 x10 x11 x12 (eqL [.int .u64 x53_0, .int .u64 x53_1, .int .u64 x53_2, .int .u64 x53_3] [.int .u64 x56_0, .int .u64 x56_1, .int .u64 x56_2, .int .u64 x56_3]) R r4 m3)) (panicR R)))) (panicR R))) (
    k5  x3a x3l x3c x4b x4o x9 x10 x11 x12 false R r m)
def k4G (Kk5 : Option Addr → Nat → Nat → Nat → Nat → Int → Bool → Int → Bool → Bool → Mem → Mem → Prop)  (x3a : Option Addr) (x3l : Nat) (x3c : Nat) (x4b : Nat) (x4o : Nat) (x5b : Nat) (x5o : Nat) (x9 : Int) (x10 : Bool) (x11 : Int) (x12 : Bool) (x50 : Bool) (R : Ending → Mem → Prop) (r m : Mem) : Prop :=
  Br x50 (
    LdV r x4b x4o fun v =>
    UnI v .u64 fun x51_0 =>
    LdV r x4b (x4o + 1) fun v =>
    UnI v .u64 fun x51_1 =>
    LdV r x4b (x4o + 2) fun v =>
    UnI v .u64 fun x51_2 =>
    LdV r x4b (x4o + 3) fun v =>
    UnI v .u64 fun x51_3 =>
    LdV r x5b x5o fun v =>
    UnI v .u64 fun x52_0 =>
    LdV r x5b (x5o + 1) fun v =>
    UnI v .u64 fun x52_1 =>
    LdV r x5b (x5o + 2) fun v =>
    UnI v .u64 fun x52_2 =>
    LdV r x5b (x5o + 3) fun v =>
    UnI v .u64 fun x52_3 =>
    LdV r x4b x4o fun v =>
    UnI v .u64 fun x54_0 =>
    LdV r x4b (x4o + 1) fun v =>
    UnI v .u64 fun x54_1 =>
    LdV r x4b (x4o + 2) fun v =>
    UnI v .u64 fun x54_2 =>
    LdV r x4b (x4o + 3) fun v =>
    UnI v .u64 fun x54_3 =>
    LdV r x5b x5o fun v =>
    UnI v .u64 fun x55_0 =>
    LdV r x5b (x5o + 1) fun v =>
    UnI v .u64 fun x55_1 =>
    LdV r x5b (x5o + 2) fun v =>
    UnI v .u64 fun x55_2 =>
    LdV r x5b (x5o + 3) fun v =>
    UnI v .u64 fun x55_3 =>
    HC P class_And.id #[.agg #[.int .u64 x51_0, .int .u64 x51_1, .int .u64 x51_2, .int .u64 x51_3], .agg #[.int .u64 x52_0, .int .u64 x52_1, .int .u64 x52_2, .int .u64 x52_3]] m (Cont (fun v m1 =>
        UnAgg v fun l =>
        UnCons l fun v l =>
        UnI v .u64 fun x53_0 =>
        UnCons l fun v l =>
        UnI v .u64 fun x53_1 =>
        UnCons l fun v l =>
        UnI v .u64 fun x53_2 =>
        UnCons l fun v l =>
        UnI v .u64 fun x53_3 =>
        UnNil l (
          Lk r m1 fun r2 =>
          HC P eyotref8_And.id #[.agg #[.int .u64 x54_0, .int .u64 x54_1, .int .u64 x54_2, .int .u64 x54_3], .agg #[.int .u64 x55_0, .int .u64 x55_1, .int .u64 x55_2, .int .u64 x55_3]] m1 (Cont (fun v m3 =>
              UnAgg v fun l =>
              UnCons l fun v l =>
              UnI v .u64 fun x56_0 =>
              UnCons l fun v l =>
              UnI v .u64 fun x56_1 =>
              UnCons l fun v l =>
              UnI v .u64 fun x56_2 =>
              UnCons l fun v l =>
              UnI v .u64 fun x56_3 =>
              UnNil l (
                Lk r2 m3 fun r4 =>
                Kk5 x3a x3l x3c x4b x4o x9 x10 x11 x12 (eqL [.int .u64 x53_0, .int .u64 x53_1, .int .u64 x53_2, .int .u64 x53_3] [.int .u64 x56_0, .int .u64 x56_1, .int .u64 x56_2, .int .u64 x56_3])  r4 m3)) (panicR R)))) (panicR R))) (
    Kk5 x3a x3l x3c x4b x4o x9 x10 x11 x12 false  r m)
def k3E (K : Option Addr → Nat → Nat → Nat → Nat → Nat → Nat → Int → Bool → Int → Bool → Bool → Mem → Mem → Prop) : Mem → Env → Mem → Prop := fun r ρ m => UnS (ρ 3) fun x3a x3l x3c => UnPA (ρ 4) fun x4b x4o => UnPA (ρ 5) fun x5b x5o => UnI (ρ 9) .u8 fun x9 => UnB (ρ 10) fun x10 => UnI (ρ 11) .u8 fun x11 => UnB (ρ 12) fun x12 => UnB (ρ 41) fun x41 => K x3a x3l x3c x4b x4o x5b x5o x9 x10 x11 x12 x41 r m
def k3  (x3a : Option Addr) (x3l : Nat) (x3c : Nat) (x4b : Nat) (x4o : Nat) (x5b : Nat) (x5o : Nat) (x9 : Int) (x10 : Bool) (x11 : Int) (x12 : Bool) (x41 : Bool) (R : Ending → Mem → Prop) (r m : Mem) : Prop :=
  Br x41 (
    LdV r x4b x4o fun v =>
    UnI v .u64 fun x42_0 =>
    LdV r x4b (x4o + 1) fun v =>
    UnI v .u64 fun x42_1 =>
    LdV r x4b (x4o + 2) fun v =>
    UnI v .u64 fun x42_2 =>
    LdV r x4b (x4o + 3) fun v =>
    UnI v .u64 fun x42_3 =>
    LdV r x5b x5o fun v =>
    UnI v .u64 fun x43_0 =>
    LdV r x5b (x5o + 1) fun v =>
    UnI v .u64 fun x43_1 =>
    LdV r x5b (x5o + 2) fun v =>
    UnI v .u64 fun x43_2 =>
    LdV r x5b (x5o + 3) fun v =>
    UnI v .u64 fun x43_3 =>
    LdV r x4b x4o fun v =>
    UnI v .u64 fun x45_0 =>
    LdV r x4b (x4o + 1) fun v =>
    UnI v .u64 fun x45_1 =>
    LdV r x4b (x4o + 2) fun v =>
    UnI v .u64 fun x45_2 =>
    LdV r x4b (x4o + 3) fun v =>
    UnI v .u64 fun x45_3 =>
    LdV r x5b x5o fun v =>
    UnI v .u64 fun x46_0 =>
    LdV r x5b (x5o + 1) fun v =>
    UnI v .u64 fun x46_1 =>
    LdV r x5b (x5o + 2) fun v =>
    UnI v .u64 fun x46_2 =>
    LdV r x5b (x5o + 3) fun v =>
    UnI v .u64 fun x46_3 =>
    HC P class_Or.id #[.agg #[.int .u64 x42_0, .int .u64 x42_1, .int .u64 x42_2, .int .u64 x42_3], .agg #[.int .u64 x43_0, .int .u64 x43_1, .int .u64 x43_2, .int .u64 x43_3]] m (Cont (fun v m1 =>
        UnAgg v fun l =>
        UnCons l fun v l =>
        UnI v .u64 fun x44_0 =>
        UnCons l fun v l =>
        UnI v .u64 fun x44_1 =>
        UnCons l fun v l =>
        UnI v .u64 fun x44_2 =>
        UnCons l fun v l =>
        UnI v .u64 fun x44_3 =>
        UnNil l (
          Lk r m1 fun r2 =>
          HC P eyotref8_Or.id #[.agg #[.int .u64 x45_0, .int .u64 x45_1, .int .u64 x45_2, .int .u64 x45_3], .agg #[.int .u64 x46_0, .int .u64 x46_1, .int .u64 x46_2, .int .u64 x46_3]] m1 (Cont (fun v m3 =>
              UnAgg v fun l =>
              UnCons l fun v l =>
              UnI v .u64 fun x47_0 =>
              UnCons l fun v l =>
              UnI v .u64 fun x47_1 =>
              UnCons l fun v l =>
              UnI v .u64 fun x47_2 =>
              UnCons l fun v l =>
              UnI v .u64 fun x47_3 =>
              UnNil l (
                Lk r2 m3 fun r4 =>
                k4  x3a x3l x3c x4b x4o x5b x5o x9 x10 x11 x12 (eqL [.int .u64 x44_0, .int .u64 x44_1, .int .u64 x44_2, .int .u64 x44_3] [.int .u64 x47_0, .int .u64 x47_1, .int .u64 x47_2, .int .u64 x47_3]) R r4 m3)) (panicR R)))) (panicR R))) (
    k4  x3a x3l x3c x4b x4o x5b x5o x9 x10 x11 x12 false R r m)
def k3G (Kk4 : Option Addr → Nat → Nat → Nat → Nat → Nat → Nat → Int → Bool → Int → Bool → Bool → Mem → Mem → Prop)  (x3a : Option Addr) (x3l : Nat) (x3c : Nat) (x4b : Nat) (x4o : Nat) (x5b : Nat) (x5o : Nat) (x9 : Int) (x10 : Bool) (x11 : Int) (x12 : Bool) (x41 : Bool) (R : Ending → Mem → Prop) (r m : Mem) : Prop :=
  Br x41 (
    LdV r x4b x4o fun v =>
    UnI v .u64 fun x42_0 =>
    LdV r x4b (x4o + 1) fun v =>
    UnI v .u64 fun x42_1 =>
    LdV r x4b (x4o + 2) fun v =>
    UnI v .u64 fun x42_2 =>
    LdV r x4b (x4o + 3) fun v =>
    UnI v .u64 fun x42_3 =>
    LdV r x5b x5o fun v =>
    UnI v .u64 fun x43_0 =>
    LdV r x5b (x5o + 1) fun v =>
    UnI v .u64 fun x43_1 =>
    LdV r x5b (x5o + 2) fun v =>
    UnI v .u64 fun x43_2 =>
    LdV r x5b (x5o + 3) fun v =>
    UnI v .u64 fun x43_3 =>
    LdV r x4b x4o fun v =>
    UnI v .u64 fun x45_0 =>
    LdV r x4b (x4o + 1) fun v =>
    UnI v .u64 fun x45_1 =>
    LdV r x4b (x4o + 2) fun v =>
    UnI v .u64 fun x45_2 =>
    LdV r x4b (x4o + 3) fun v =>
    UnI v .u64 fun x45_3 =>
    LdV r x5b x5o fun v =>
    UnI v .u64 fun x46_0 =>
    LdV r x5b (x5o + 1) fun v =>
    UnI v .u64 fun x46_1 =>
    LdV r x5b (x5o + 2) fun v =>
    UnI v .u64 fun x46_2 =>
    LdV r x5b (x5o + 3) fun v =>
    UnI v .u64 fun x46_3 =>
    HC P class_Or.id #[.agg #[.int .u64 x42_0, .int .u64 x42_1, .int .u64 x42_2, .int .u64 x42_3], .agg #[.int .u64 x43_0, .int .u64 x43_1, .int .u64 x43_2, .int .u64 x43_3]] m (Cont (fun v m1 =>
        UnAgg v fun l =>
        UnCons l fun v l =>
        UnI v .u64 fun x44_0 =>
        UnCons l fun v l =>
        UnI v .u64 fun x44_1 =>
        UnCons l fun v l =>
        UnI v .u64 fun x44_2 =>
        UnCons l fun v l =>
        UnI v .u64 fun x44_3 =>
        UnNil l (
          Lk r m1 fun r2 =>
          HC P eyotref8_Or.id #[.agg #[.int .u64 x45_0, .int .u64 x45_1, .int .u64 x45_2, .int .u64 x45_3], .agg #[.int .u64 x46_0, .int .u64 x46_1, .int .u64 x46_2, .int .u64 x46_3]] m1 (Cont (fun v m3 =>
              UnAgg v fun l =>
              UnCons l fun v l =>
              UnI v .u64 fun x47_0 =>
              UnCons l fun v l =>
              UnI v .u64 fun x47_1 =>
              UnCons l fun v l =>
              UnI v .u64 fun x47_2 =>
              UnCons l fun v l =>
              UnI v .u64 fun x47_3 =>
              UnNil l (
                Lk r2 m3 fun r4 =>
                Kk4 x3a x3l x3c x4b x4o x5b x5o x9 x10 x11 x12 (eqL [.int .u64 x44_0, .int .u64 x44_1, .int .u64 x44_2, .int .u64 x44_3] [.int .u64 x47_0, .int .u64 x47_1, .int .u64 x47_2, .int .u64 x47_3])  r4 m3)) (panicR R)))) (panicR R))) (
    Kk4 x3a x3l x3c x4b x4o x5b x5o x9 x10 x11 x12 false  r m)
def k2E (K : Int → Option Addr → Nat → Nat → Nat → Nat → Nat → Nat → Int → Bool → Int → Bool → Mem → Prop) : Env → Mem → Prop := fun ρ m => UnI (ρ 2) .u8 fun x2 => UnS (ρ 3) fun x3a x3l x3c => UnPA (ρ 4) fun x4b x4o => UnPA (ρ 5) fun x5b x5o => UnI (ρ 9) .u8 fun x9 => UnB (ρ 10) fun x10 => UnI (ρ 11) .u8 fun x11 => UnB (ρ 12) fun x12 => K x2 x3a x3l x3c x4b x4o x5b x5o x9 x10 x11 x12 m
def k2  (x2 : Int) (x3a : Option Addr) (x3l : Nat) (x3c : Nat) (x4b : Nat) (x4o : Nat) (x5b : Nat) (x5o : Nat) (x9 : Int) (x10 : Bool) (x11 : Int) (x12 : Bool) (R : Ending → Mem → Prop) (m : Mem) : Prop :=
  Sub m fun r1 =>
  LdV r1 x4b x4o fun v =>
  UnI v .u64 fun x34_0 =>
  LdV r1 x4b (x4o + 1) fun v =>
  UnI v .u64 fun x34_1 =>
  LdV r1 x4b (x4o + 2) fun v =>
  UnI v .u64 fun x34_2 =>
  LdV r1 x4b (x4o + 3) fun v =>
  UnI v .u64 fun x34_3 =>
  LdV r1 x4b x4o fun v =>
  UnI v .u64 fun x37_0 =>
  LdV r1 x4b (x4o + 1) fun v =>
  UnI v .u64 fun x37_1 =>
  LdV r1 x4b (x4o + 2) fun v =>
  UnI v .u64 fun x37_2 =>
  LdV r1 x4b (x4o + 3) fun v =>
  UnI v .u64 fun x37_3 =>
  HC P class_Has.id #[.agg #[.int .u64 x34_0, .int .u64 x34_1, .int .u64 x34_2, .int .u64 x34_3], .int .u8 x2] m (Cont (fun v m2 =>
      UnB v fun x36 =>
      Lk r1 m2 fun r3 =>
      HC P eyotref8_Has.id #[.agg #[.int .u64 x37_0, .int .u64 x37_1, .int .u64 x37_2, .int .u64 x37_3], .int .u8 x2] m2 (Cont (fun v m4 =>
          UnB v fun x39 =>
          Lk r3 m4 fun r5 =>
          k3  x3a x3l x3c x4b x4o x5b x5o x9 x10 x11 x12 (x36 == x39) R r5 m4) (panicR R))) (panicR R))
def k2G (Kk3 : Option Addr → Nat → Nat → Nat → Nat → Nat → Nat → Int → Bool → Int → Bool → Bool → Mem → Mem → Prop)  (x2 : Int) (x3a : Option Addr) (x3l : Nat) (x3c : Nat) (x4b : Nat) (x4o : Nat) (x5b : Nat) (x5o : Nat) (x9 : Int) (x10 : Bool) (x11 : Int) (x12 : Bool) (R : Ending → Mem → Prop) (m : Mem) : Prop :=
  Sub m fun r1 =>
  LdV r1 x4b x4o fun v =>
  UnI v .u64 fun x34_0 =>
  LdV r1 x4b (x4o + 1) fun v =>
  UnI v .u64 fun x34_1 =>
  LdV r1 x4b (x4o + 2) fun v =>
  UnI v .u64 fun x34_2 =>
  LdV r1 x4b (x4o + 3) fun v =>
  UnI v .u64 fun x34_3 =>
  LdV r1 x4b x4o fun v =>
  UnI v .u64 fun x37_0 =>
  LdV r1 x4b (x4o + 1) fun v =>
  UnI v .u64 fun x37_1 =>
  LdV r1 x4b (x4o + 2) fun v =>
  UnI v .u64 fun x37_2 =>
  LdV r1 x4b (x4o + 3) fun v =>
  UnI v .u64 fun x37_3 =>
  HC P class_Has.id #[.agg #[.int .u64 x34_0, .int .u64 x34_1, .int .u64 x34_2, .int .u64 x34_3], .int .u8 x2] m (Cont (fun v m2 =>
      UnB v fun x36 =>
      Lk r1 m2 fun r3 =>
      HC P eyotref8_Has.id #[.agg #[.int .u64 x37_0, .int .u64 x37_1, .int .u64 x37_2, .int .u64 x37_3], .int .u8 x2] m2 (Cont (fun v m4 =>
          UnB v fun x39 =>
          Lk r3 m4 fun r5 =>
          Kk3 x3a x3l x3c x4b x4o x5b x5o x9 x10 x11 x12 (x36 == x39)  r5 m4) (panicR R))) (panicR R))
noncomputable def k2A  (R : Ending → Mem → Prop) : ACode := (.seq (.draw 12 (rgOps (sL (sR (sR (sR (sR (sR (sR (body))))))))) 8 (k3E fun x3a x3l x3c x4b x4o x5b x5o x9 x10 x11 x12 x41 r m => k3  x3a x3l x3c x4b x4o x5b x5o x9 x10 x11 x12 x41 R r m)) (.code (sR (sR (sR (sR (sR (sR (sR (body))))))))))
def l1E (K : Int → Option Addr → Nat → Nat → Nat → Nat → Nat → Nat → Int → Bool → Int → Bool → Int → Mem → Prop) : Env → Mem → Prop := fun ρ m => UnI (ρ 2) .u8 fun x2 => UnS (ρ 3) fun x3a x3l x3c => UnPA (ρ 4) fun x4b x4o => UnPA (ρ 5) fun x5b x5o => UnI (ρ 9) .u8 fun x9 => UnB (ρ 10) fun x10 => UnI (ρ 11) .u8 fun x11 => UnB (ρ 12) fun x12 => UnI (ρ 13) .i64 fun x13 => K x2 x3a x3l x3c x4b x4o x5b x5o x9 x10 x11 x12 x13 m
def l1B  (K1 : Int → Option Addr → Nat → Nat → Nat → Nat → Nat → Nat → Int → Bool → Int → Bool → Int → Mem → Prop) (x2 : Int) (x3a : Option Addr) (x3l : Nat) (x3c : Nat) (x4b : Nat) (x4o : Nat) (x5b : Nat) (x5o : Nat) (x9 : Int) (x10 : Bool) (x11 : Int) (x12 : Bool) (x13 : Int) (R : Ending → Mem → Prop) (m : Mem) : Prop :=
  Br (decide (x13 ≥ 0)) (
    LdV m x4b x4o fun v =>
    UnI v .u64 fun x28_0 =>
    LdV m x4b (x4o + 1) fun v =>
    UnI v .u64 fun x28_1 =>
    LdV m x4b (x4o + 2) fun v =>
    UnI v .u64 fun x28_2 =>
    LdV m x4b (x4o + 3) fun v =>
    UnI v .u64 fun x28_3 =>
    HC P eyotref8_Has.id #[.agg #[.int .u64 x28_0, .int .u64 x28_1, .int .u64 x28_2, .int .u64 x28_3], .int .u8 (IntKind.u8.wrap x13)] m (Cont (fun v m1 =>
        UnB v fun x31 =>
        Br x31 (
          K1 x2 x3a x3l x3c x4b x4o x5b x5o x9 x10 (IntKind.u8.wrap x13) true (IntKind.i64.wrap (x13 - 1)) m1) (
          K1 x2 x3a x3l x3c x4b x4o x5b x5o x9 x10 x11 x12 (IntKind.i64.wrap (x13 - 1)) m1)) (panicR R))) (
    k2  x2 x3a x3l x3c x4b x4o x5b x5o x9 x10 x11 x12 R m)
def l1  (x2 : Int) (x3a : Option Addr) (x3l : Nat) (x3c : Nat) (x4b : Nat) (x4o : Nat) (x5b : Nat) (x5o : Nat) (x9 : Int) (x10 : Bool) (x11 : Int) (x12 : Bool) (x13 : Int) (R : Ending → Mem → Prop) (m : Mem) : Prop :=
  ∃ (I : Nat → Int → Option Addr → Nat → Nat → Nat → Nat → Nat → Nat → Int → Bool → Int → Bool → Int → Mem → Prop) (N : Nat), I N x2 x3a x3l x3c x4b x4o x5b x5o x9 x10 x11 x12 x13 m ∧ ∀ N x2 x3a x3l x3c x4b x4o x5b x5o x9 x10 x11 x12 x13 m, I N x2 x3a x3l x3c x4b x4o x5b x5o x9 x10 x11 x12 x13 m → l1B  (fun x2 x3a x3l x3c x4b x4o x5b x5o x9 x10 x11 x12 x13 m => ∃ N1, N1 < N ∧ I N1 x2 x3a x3l x3c x4b x4o x5b x5o x9 x10 x11 x12 x13 m) x2 x3a x3l x3c x4b x4o x5b x5o x9 x10 x11 x12 x13 R m
noncomputable def l1A  (K1 : Int → Option Addr → Nat → Nat → Nat → Nat → Nat → Nat → Int → Bool → Int → Bool → Int → Mem → Prop) (R : Ending → Mem → Prop) : ACode := (.code (lP (bB (sR (sL (sR (sR (sR (sR (sR (body)))))))))))
def e0 (a0_0 : Int) (a0_1 : Int) (a0_2 : Int) (a0_3 : Int) (a1_0 : Int) (a1_1 : Int) (a1_2 : Int) (a1_3 : Int) (a2 : Int) (a3a : Option Addr) (a3l : Nat) (a3c : Nat) (R : Ending → Mem → Prop) (m : Mem) : Prop :=
  NewC m #[.int .u64 a0_0, .int .u64 a0_1, .int .u64 a0_2, .int .u64 a0_3] T_api_Set fun b4 m1 =>
  NewC m1 #[.int .u64 a1_0, .int .u64 a1_1, .int .u64 a1_2, .int .u64 a1_3] T_api_Set fun b5 m2 =>
  HC P eyotlaw8_begun.id #[] m2 (Cont (fun v m3 =>
      UnB v fun x14 =>
      Br (!x14) (
        R (.returned (.bool false)) m3) (
        Br (decide (((a3l : Nat) : Int) > 40)) (
          R (.returned (.bool true)) m3) (
          LdV m3 b4 0 fun v =>
          UnI v .u64 fun x20_0 =>
          LdV m3 b4 1 fun v =>
          UnI v .u64 fun x20_1 =>
          LdV m3 b4 2 fun v =>
          UnI v .u64 fun x20_2 =>
          LdV m3 b4 3 fun v =>
          UnI v .u64 fun x20_3 =>
          HC P class_Least.id #[.agg #[.int .u64 x20_0, .int .u64 x20_1, .int .u64 x20_2, .int .u64 x20_3]] m3 (Cont (fun v m4 =>
              UnTup v fun us0 =>
              UnCons us0 fun w us1 =>
              UnI w .u8 fun x21_0 =>
              UnCons us1 fun w us2 =>
              UnB w fun x21_1 =>
              UnNil us2 (
                l1  a2 a3a a3l a3c b4 0 b5 0 x21_0 x21_1 0 false 255 R m4)) (panicR R))))) (panicR R))
noncomputable def e0A (R : Ending → Mem → Prop) : ACode := (.seq (.code (sL (body))) (.seq (.code (sL (sR (body)))) (.seq (.code (sL (sR (sR (body))))) (.seq (.code (sL (sR (sR (sR (body)))))) (.seq (.code (sL (sR (sR (sR (sR (body))))))) (.seq (.seq (.code (sL (sL (sR (sR (sR (sR (sR (body))))))))) (.block 0 (.cut (l1E fun x2 x3a x3l x3c x4b x4o x5b x5o x9 x10 x11 x12 x13 m => l1  x2 x3a x3l x3c x4b x4o x5b x5o x9 x10 x11 x12 x13 R m) (.loop (lP (bB (sR (sL (sR (sR (sR (sR (sR (body)))))))))))))) (.cut (k2E fun x2 x3a x3l x3c x4b x4o x5b x5o x9 x10 x11 x12 m => k2  x2 x3a x3l x3c x4b x4o x5b x5o x9 x10 x11 x12 R m) (sR (sR (sR (sR (sR (sR (body))))))))))))))
theorem k7_eq  (R : Ending → Mem → Prop) (x4b : Nat) (x4o : Nat) (x9 : Int) (x10 : Bool) (x11 : Int) (x12 : Bool) (x73 : Bool) (r : Mem) (ρ : Env) (m : Mem) : k7  x4b x4o x9 x10 x11 x12 x73 R r m = hdraw P (rgOps (sL (sR (sR (sR (sR (sR (sR (body))))))))) ((thenQ (acpt P od (panicR R) (.code (sR (sR (sR (sR (sR (sR (sR (body))))))))) (bodyQ P fn R)) (bodyQ P fn R)) .normal) (panicR R) (dropO 40 (od 12)) r (upd (upd (upd (upd (upd (upd ρ 73 (.bool x73)) 12 (.bool x12)) 11 (.int .u8 x11)) 10 (.bool x10)) 9 (.int .u8 x9)) 4 (.pointer (some ⟨x4b, x4o, none⟩))) m := by kernel_rfl
theorem k7_ok  (R : Ending → Mem → Prop) (r : Mem) (ρ : Env) (m : Mem) (h : (k7E fun x4b x4o x9 x10 x11 x12 x73 r m => k7  x4b x4o x9 x10 x11 x12 x73 R r m) r ρ m) : hdraw P (rgOps (sL (sR (sR (sR (sR (sR (sR (body))))))))) ((thenQ (acpt P od (panicR R) (.code (sR (sR (sR (sR (sR (sR (sR (body))))))))) (bodyQ P fn R)) (bodyQ P fn R)) .normal) (panicR R) (dropO 40 (od 12)) r ρ m := by
  unfold k7E at h
  obtain ⟨x4b, x4o, e4, h⟩ := h.ex
  obtain ⟨x9, e9, h⟩ := h.ex
  obtain ⟨x10, e10, h⟩ := h.ex
  obtain ⟨x11, e11, h⟩ := h.ex
  obtain ⟨x12, e12, h⟩ := h.ex
  obtain ⟨x73, e73, h⟩ := h.ex
  rw [← upd_self e4, ← upd_self e9, ← upd_self e10, ← upd_self e11, ← upd_self e12, ← upd_self e73]
  exact Eq.mp (k7_eq  R x4b x4o x9 x10 x11 x12 x73 r ρ m) h
theorem k6_eqG (Kk7 : Nat → Nat → Int → Bool → Int → Bool → Bool → Mem → Mem → Prop)  (R : Ending → Mem → Prop) (x3a : Option Addr) (x3l : Nat) (x3c : Nat) (x4b : Nat) (x4o : Nat) (x9 : Int) (x10 : Bool) (x11 : Int) (x12 : Bool) (x66 : Bool) (r : Mem) (ρ : Env) (m : Mem) : k6G Kk7  x3a x3l x3c x4b x4o x9 x10 x11 x12 x66 R r m = hcut P (rgOps (sL (sR (sR (sR (sR (sR (sR (body))))))))) (k7E Kk7) (panicR R) 7 (dropO 33 (od 12)) r (upd (upd (upd (upd (upd (upd (upd ρ 66 (.bool x66)) 12 (.bool x12)) 11 (.int .u8 x11)) 10 (.bool x10)) 9 (.int .u8 x9)) 4 (.pointer (some ⟨x4b, x4o, none⟩))) 3 (.slice x3a x3l x3c)) m := by kernel_rfl
theorem k6_eq  (R : Ending → Mem → Prop) (x3a : Option Addr) (x3l : Nat) (x3c : Nat) (x4b : Nat) (x4o : Nat) (x9 : Int) (x10 : Bool) (x11 : Int) (x12 : Bool) (x66 : Bool) (r : Mem) (ρ : Env) (m : Mem) : k6  x3a x3l x3c x4b x4o x9 x10 x11 x12 x66 R r m = hcut P (rgOps (sL (sR (sR (sR (sR (sR (sR (body))))))))) (k7E fun x4b x4o x9 x10 x11 x12 x73 r m => k7  x4b x4o x9 x10 x11 x12 x73 R r m) (panicR R) 7 (dropO 33 (od 12)) r (upd (upd (upd (upd (upd (upd (upd ρ 66 (.bool x66)) 12 (.bool x12)) 11 (.int .u8 x11)) 10 (.bool x10)) 9 (.int .u8 x9)) 4 (.pointer (some ⟨x4b, x4o, none⟩))) 3 (.slice x3a x3l x3c)) m := by
  have h1 : k6  x3a x3l x3c x4b x4o x9 x10 x11 x12 x66 R r m = k6G (fun x4b x4o x9 x10 x11 x12 x73 r m => k7  x4b x4o x9 x10 x11 x12 x73 R r m)  x3a x3l x3c x4b x4o x9 x10 x11 x12 x66 R r m := by kernel_rfl
  exact h1.trans (k6_eqG (fun x4b x4o x9 x10 x11 x12 x73 r m => k7  x4b x4o x9 x10 x11 x12 x73 R r m)  R x3a x3l x3c x4b x4o x9 x10 x11 x12 x66 r ρ m)
theorem k6_ok  (R : Ending → Mem → Prop) (r : Mem) (ρ : Env) (m : Mem) (h : (k6E fun x3a x3l x3c x4b x4o x9 x10 x11 x12 x66 r m => k6  x3a x3l x3c x4b x4o x9 x10 x11 x12 x66 R r m) r ρ m) : hdraw P (rgOps (sL (sR (sR (sR (sR (sR (sR (body))))))))) ((thenQ (acpt P od (panicR R) (.code (sR (sR (sR (sR (sR (sR (sR (body))))))))) (bodyQ P fn R)) (bodyQ P fn R)) .normal) (panicR R) (dropO 33 (od 12)) r ρ m := by
  unfold k6E at h
  obtain ⟨x3a, x3l, x3c, e3, h⟩ := h.ex
  obtain ⟨x4b, x4o, e4, h⟩ := h.ex
  obtain ⟨x9, e9, h⟩ := h.ex
  obtain ⟨x10, e10, h⟩ := h.ex
  obtain ⟨x11, e11, h⟩ := h.ex
  obtain ⟨x12, e12, h⟩ := h.ex
  obtain ⟨x66, e66, h⟩ := h.ex
  rw [← upd_self e3, ← upd_self e4, ← upd_self e9, ← upd_self e10, ← upd_self e11, ← upd_self e12, ← upd_self e66]
  refine hcut_sound (P := P) (p := 7) (π := (dropO 33 (od 12))) (π2 := dropO 40 (od 12)) (by kernel_rfl) (fun r ρ m h => k7_ok  R r ρ m h) ?_
  exact Eq.mp (k6_eq  R x3a x3l x3c x4b x4o x9 x10 x11 x12 x66 r ρ m) h
theorem k5_eqG (Kk6 : Option Addr → Nat → Nat → Nat → Nat → Int → Bool → Int → Bool → Bool → Mem → Mem → Prop)  (R : Ending → Mem → Prop) (x3a : Option Addr) (x3l : Nat) (x3c : Nat) (x4b : Nat) (x4o : Nat) (x9 : Int) (x10 : Bool) (x11 : Int) (x12 : Bool) (x59 : Bool) (r : Mem) (ρ : Env) (m : Mem) : k5G Kk6  x3a x3l x3c x4b x4o x9 x10 x11 x12 x59 R r m = hcut P (rgOps (sL (sR (sR (sR (sR (sR (sR (body))))))))) (k6E Kk6) (panicR R) 7 (dropO 26 (od 12)) r (upd (upd (upd (upd (upd (upd (upd ρ 59 (.bool x59)) 12 (.bool x12)) 11 (.int .u8 x11)) 10 (.bool x10)) 9 (.int .u8 x9)) 4 (.pointer (some ⟨x4b, x4o, none⟩))) 3 (.slice x3a x3l x3c)) m := by kernel_rfl
theorem k5_eq  (R : Ending → Mem → Prop) (x3a : Option Addr) (x3l : Nat) (x3c : Nat) (x4b : Nat) (x4o : Nat) (x9 : Int) (x10 : Bool) (x11 : Int) (x12 : Bool) (x59 : Bool) (r : Mem) (ρ : Env) (m : Mem) : k5  x3a x3l x3c x4b x4o x9 x10 x11 x12 x59 R r m = hcut P (rgOps (sL (sR (sR (sR (sR (sR (sR (body))))))))) (k6E fun x3a x3l x3c x4b x4o x9 x10 x11 x12 x66 r m => k6  x3a x3l x3c x4b x4o x9 x10 x11 x12 x66 R r m) (panicR R) 7 (dropO 26 (od 12)) r (upd (upd (upd (upd (upd (upd (upd ρ 59 (.bool x59)) 12 (.bool x12)) 11 (.int .u8 x11)) 10 (.bool x10)) 9 (.int .u8 x9)) 4 (.pointer (some ⟨x4b, x4o, none⟩))) 3 (.slice x3a x3l x3c)) m := by
  have h1 : k5  x3a x3l x3c x4b x4o x9 x10 x11 x12 x59 R r m = k5G (fun x3a x3l x3c x4b x4o x9 x10 x11 x12 x66 r m => k6  x3a x3l x3c x4b x4o x9 x10 x11 x12 x66 R r m)  x3a x3l x3c x4b x4o x9 x10 x11 x12 x59 R r m := by kernel_rfl
  exact h1.trans (k5_eqG (fun x3a x3l x3c x4b x4o x9 x10 x11 x12 x66 r m => k6  x3a x3l x3c x4b x4o x9 x10 x11 x12 x66 R r m)  R x3a x3l x3c x4b x4o x9 x10 x11 x12 x59 r ρ m)
theorem k5_ok  (R : Ending → Mem → Prop) (r : Mem) (ρ : Env) (m : Mem) (h : (k5E fun x3a x3l x3c x4b x4o x9 x10 x11 x12 x59 r m => k5  x3a x3l x3c x4b x4o x9 x10 x11 x12 x59 R r m) r ρ m) : hdraw P (rgOps (sL (sR (sR (sR (sR (sR (sR (body))))))))) ((thenQ (acpt P od (panicR R) (.code (sR (sR (sR (sR (sR (sR (sR (body))))))))) (bodyQ P fn R)) (bodyQ P fn R)) .normal) (panicR R) (dropO 26 (od 12)) r ρ m := by
  unfold k5E at h
  obtain ⟨x3a, x3l, x3c, e3, h⟩ := h.ex
  obtain ⟨x4b, x4o, e4, h⟩ := h.ex
  obtain ⟨x9, e9, h⟩ := h.ex
  obtain ⟨x10, e10, h⟩ := h.ex
  obtain ⟨x11, e11, h⟩ := h.ex
  obtain ⟨x12, e12, h⟩ := h.ex
  obtain ⟨x59, e59, h⟩ := h.ex
  rw [← upd_self e3, ← upd_self e4, ← upd_self e9, ← upd_self e10, ← upd_self e11, ← upd_self e12, ← upd_self e59]
  refine hcut_sound (P := P) (p := 7) (π := (dropO 26 (od 12))) (π2 := dropO 33 (od 12)) (by kernel_rfl) (fun r ρ m h => k6_ok  R r ρ m h) ?_
  exact Eq.mp (k5_eq  R x3a x3l x3c x4b x4o x9 x10 x11 x12 x59 r ρ m) h
theorem k4_eqG (Kk5 : Option Addr → Nat → Nat → Nat → Nat → Int → Bool → Int → Bool → Bool → Mem → Mem → Prop)  (R : Ending → Mem → Prop) (x3a : Option Addr) (x3l : Nat) (x3c : Nat) (x4b : Nat) (x4o : Nat) (x5b : Nat) (x5o : Nat) (x9 : Int) (x10 : Bool) (x11 : Int) (x12 : Bool) (x50 : Bool) (r : Mem) (ρ : Env) (m : Mem) : k4G Kk5  x3a x3l x3c x4b x4o x5b x5o x9 x10 x11 x12 x50 R r m = hcut P (rgOps (sL (sR (sR (sR (sR (sR (sR (body))))))))) (k5E Kk5) (panicR R) 9 (dropO 17 (od 12)) r (upd (upd (upd (upd (upd (upd (upd (upd ρ 50 (.bool x50)) 12 (.bool x12)) 11 (.int .u8 x11)) 10 (.bool x10)) 9 (.int .u8 x9)) 5 (.pointer (some ⟨x5b, x5o, none⟩))) 4 (.pointer (some ⟨x4b, x4o, none⟩))) 3 (.slice x3a x3l x3c)) m := by kernel_rfl
theorem k4_eq  (R : Ending → Mem → Prop) (x3a : Option Addr) (x3l : Nat) (x3c : Nat) (x4b : Nat) (x4o : Nat) (x5b : Nat) (x5o : Nat) (x9 : Int) (x10 : Bool) (x11 : Int) (x12 : Bool) (x50 : Bool) (r : Mem) (ρ : Env) (m : Mem) : k4  x3a x3l x3c x4b x4o x5b x5o x9 x10 x11 x12 x50 R r m = hcut P (rgOps (sL (sR (sR (sR (sR (sR (sR (body))))))))) (k5E fun x3a x3l x3c x4b x4o x9 x10 x11 x12 x59 r m => k5  x3a x3l x3c x4b x4o x9 x10 x11 x12 x59 R r m) (panicR R) 9 (dropO 17 (od 12)) r (upd (upd (upd (upd (upd (upd (upd (upd ρ 50 (.bool x50)) 12 (.bool x12)) 11 (.int .u8 x11)) 10 (.bool x10)) 9 (.int .u8 x9)) 5 (.pointer (some ⟨x5b, x5o, none⟩))) 4 (.pointer (some ⟨x4b, x4o, none⟩))) 3 (.slice x3a x3l x3c)) m := by
  have h1 : k4  x3a x3l x3c x4b x4o x5b x5o x9 x10 x11 x12 x50 R r m = k4G (fun x3a x3l x3c x4b x4o x9 x10 x11 x12 x59 r m => k5  x3a x3l x3c x4b x4o x9 x10 x11 x12 x59 R r m)  x3a x3l x3c x4b x4o x5b x5o x9 x10 x11 x12 x50 R r m := by kernel_rfl
  exact h1.trans (k4_eqG (fun x3a x3l x3c x4b x4o x9 x10 x11 x12 x59 r m => k5  x3a x3l x3c x4b x4o x9 x10 x11 x12 x59 R r m)  R x3a x3l x3c x4b x4o x5b x5o x9 x10 x11 x12 x50 r ρ m)
theorem k4_ok  (R : Ending → Mem → Prop) (r : Mem) (ρ : Env) (m : Mem) (h : (k4E fun x3a x3l x3c x4b x4o x5b x5o x9 x10 x11 x12 x50 r m => k4  x3a x3l x3c x4b x4o x5b x5o x9 x10 x11 x12 x50 R r m) r ρ m) : hdraw P (rgOps (sL (sR (sR (sR (sR (sR (sR (body))))))))) ((thenQ (acpt P od (panicR R) (.code (sR (sR (sR (sR (sR (sR (sR (body))))))))) (bodyQ P fn R)) (bodyQ P fn R)) .normal) (panicR R) (dropO 17 (od 12)) r ρ m := by
  unfold k4E at h
  obtain ⟨x3a, x3l, x3c, e3, h⟩ := h.ex
  obtain ⟨x4b, x4o, e4, h⟩ := h.ex
  obtain ⟨x5b, x5o, e5, h⟩ := h.ex
  obtain ⟨x9, e9, h⟩ := h.ex
  obtain ⟨x10, e10, h⟩ := h.ex
  obtain ⟨x11, e11, h⟩ := h.ex
  obtain ⟨x12, e12, h⟩ := h.ex
  obtain ⟨x50, e50, h⟩ := h.ex
  rw [← upd_self e3, ← upd_self e4, ← upd_self e5, ← upd_self e9, ← upd_self e10, ← upd_self e11, ← upd_self e12, ← upd_self e50]
  refine hcut_sound (P := P) (p := 9) (π := (dropO 17 (od 12))) (π2 := dropO 26 (od 12)) (by kernel_rfl) (fun r ρ m h => k5_ok  R r ρ m h) ?_
  exact Eq.mp (k4_eq  R x3a x3l x3c x4b x4o x5b x5o x9 x10 x11 x12 x50 r ρ m) h
theorem k3_eqG (Kk4 : Option Addr → Nat → Nat → Nat → Nat → Nat → Nat → Int → Bool → Int → Bool → Bool → Mem → Mem → Prop)  (R : Ending → Mem → Prop) (x3a : Option Addr) (x3l : Nat) (x3c : Nat) (x4b : Nat) (x4o : Nat) (x5b : Nat) (x5o : Nat) (x9 : Int) (x10 : Bool) (x11 : Int) (x12 : Bool) (x41 : Bool) (r : Mem) (ρ : Env) (m : Mem) : k3G Kk4  x3a x3l x3c x4b x4o x5b x5o x9 x10 x11 x12 x41 R r m = hcut P (rgOps (sL (sR (sR (sR (sR (sR (sR (body))))))))) (k4E Kk4) (panicR R) 9 (dropO 8 (od 12)) r (upd (upd (upd (upd (upd (upd (upd (upd ρ 41 (.bool x41)) 12 (.bool x12)) 11 (.int .u8 x11)) 10 (.bool x10)) 9 (.int .u8 x9)) 5 (.pointer (some ⟨x5b, x5o, none⟩))) 4 (.pointer (some ⟨x4b, x4o, none⟩))) 3 (.slice x3a x3l x3c)) m := by kernel_rfl
theorem k3_eq  (R : Ending → Mem → Prop) (x3a : Option Addr) (x3l : Nat) (x3c : Nat) (x4b : Nat) (x4o : Nat) (x5b : Nat) (x5o : Nat) (x9 : Int) (x10 : Bool) (x11 : Int) (x12 : Bool) (x41 : Bool) (r : Mem) (ρ : Env) (m : Mem) : k3  x3a x3l x3c x4b x4o x5b x5o x9 x10 x11 x12 x41 R r m = hcut P (rgOps (sL (sR (sR (sR (sR (sR (sR (body))))))))) (k4E fun x3a x3l x3c x4b x4o x5b x5o x9 x10 x11 x12 x50 r m => k4  x3a x3l x3c x4b x4o x5b x5o x9 x10 x11 x12 x50 R r m) (panicR R) 9 (dropO 8 (od 12)) r (upd (upd (upd (upd (upd (upd (upd (upd ρ 41 (.bool x41)) 12 (.bool x12)) 11 (.int .u8 x11)) 10 (.bool x10)) 9 (.int .u8 x9)) 5 (.pointer (some ⟨x5b, x5o, none⟩))) 4 (.pointer (some ⟨x4b, x4o, none⟩))) 3 (.slice x3a x3l x3c)) m := by
  have h1 : k3  x3a x3l x3c x4b x4o x5b x5o x9 x10 x11 x12 x41 R r m = k3G (fun x3a x3l x3c x4b x4o x5b x5o x9 x10 x11 x12 x50 r m => k4  x3a x3l x3c x4b x4o x5b x5o x9 x10 x11 x12 x50 R r m)  x3a x3l x3c x4b x4o x5b x5o x9 x10 x11 x12 x41 R r m := by kernel_rfl
  exact h1.trans (k3_eqG (fun x3a x3l x3c x4b x4o x5b x5o x9 x10 x11 x12 x50 r m => k4  x3a x3l x3c x4b x4o x5b x5o x9 x10 x11 x12 x50 R r m)  R x3a x3l x3c x4b x4o x5b x5o x9 x10 x11 x12 x41 r ρ m)
theorem k3_ok  (R : Ending → Mem → Prop) (r : Mem) (ρ : Env) (m : Mem) (h : (k3E fun x3a x3l x3c x4b x4o x5b x5o x9 x10 x11 x12 x41 r m => k3  x3a x3l x3c x4b x4o x5b x5o x9 x10 x11 x12 x41 R r m) r ρ m) : hdraw P (rgOps (sL (sR (sR (sR (sR (sR (sR (body))))))))) ((thenQ (acpt P od (panicR R) (.code (sR (sR (sR (sR (sR (sR (sR (body))))))))) (bodyQ P fn R)) (bodyQ P fn R)) .normal) (panicR R) (dropO 8 (od 12)) r ρ m := by
  unfold k3E at h
  obtain ⟨x3a, x3l, x3c, e3, h⟩ := h.ex
  obtain ⟨x4b, x4o, e4, h⟩ := h.ex
  obtain ⟨x5b, x5o, e5, h⟩ := h.ex
  obtain ⟨x9, e9, h⟩ := h.ex
  obtain ⟨x10, e10, h⟩ := h.ex
  obtain ⟨x11, e11, h⟩ := h.ex
  obtain ⟨x12, e12, h⟩ := h.ex
  obtain ⟨x41, e41, h⟩ := h.ex
  rw [← upd_self e3, ← upd_self e4, ← upd_self e5, ← upd_self e9, ← upd_self e10, ← upd_self e11, ← upd_self e12, ← upd_self e41]
  refine hcut_sound (P := P) (p := 9) (π := (dropO 8 (od 12))) (π2 := dropO 17 (od 12)) (by kernel_rfl) (fun r ρ m h => k4_ok  R r ρ m h) ?_
  exact Eq.mp (k3_eq  R x3a x3l x3c x4b x4o x5b x5o x9 x10 x11 x12 x41 r ρ m) h
theorem k2_eqG (Kk3 : Option Addr → Nat → Nat → Nat → Nat → Nat → Nat → Int → Bool → Int → Bool → Bool → Mem → Mem → Prop)  (R : Ending → Mem → Prop) (x2 : Int) (x3a : Option Addr) (x3l : Nat) (x3c : Nat) (x4b : Nat) (x4o : Nat) (x5b : Nat) (x5o : Nat) (x9 : Int) (x10 : Bool) (x11 : Int) (x12 : Bool) (ρ : Env) (m : Mem) : k2G Kk3  x2 x3a x3l x3c x4b x4o x5b x5o x9 x10 x11 x12 R m = acpt P od (panicR R) (.seq (.draw 12 (rgOps (sL (sR (sR (sR (sR (sR (sR (body))))))))) 8 (k3E Kk3)) (.code (sR (sR (sR (sR (sR (sR (sR (body)))))))))) (bodyQ P fn R) (upd (upd (upd (upd (upd (upd (upd (upd ρ 12 (.bool x12)) 11 (.int .u8 x11)) 10 (.bool x10)) 9 (.int .u8 x9)) 5 (.pointer (some ⟨x5b, x5o, none⟩))) 4 (.pointer (some ⟨x4b, x4o, none⟩))) 3 (.slice x3a x3l x3c)) 2 (.int .u8 x2)) m := by kernel_rfl
theorem k2_eq  (R : Ending → Mem → Prop) (x2 : Int) (x3a : Option Addr) (x3l : Nat) (x3c : Nat) (x4b : Nat) (x4o : Nat) (x5b : Nat) (x5o : Nat) (x9 : Int) (x10 : Bool) (x11 : Int) (x12 : Bool) (ρ : Env) (m : Mem) : k2  x2 x3a x3l x3c x4b x4o x5b x5o x9 x10 x11 x12 R m = acpt P od (panicR R) (k2A  R) (bodyQ P fn R) (upd (upd (upd (upd (upd (upd (upd (upd ρ 12 (.bool x12)) 11 (.int .u8 x11)) 10 (.bool x10)) 9 (.int .u8 x9)) 5 (.pointer (some ⟨x5b, x5o, none⟩))) 4 (.pointer (some ⟨x4b, x4o, none⟩))) 3 (.slice x3a x3l x3c)) 2 (.int .u8 x2)) m := by
  have h1 : k2  x2 x3a x3l x3c x4b x4o x5b x5o x9 x10 x11 x12 R m = k2G (fun x3a x3l x3c x4b x4o x5b x5o x9 x10 x11 x12 x41 r m => k3  x3a x3l x3c x4b x4o x5b x5o x9 x10 x11 x12 x41 R r m)  x2 x3a x3l x3c x4b x4o x5b x5o x9 x10 x11 x12 R m := by kernel_rfl
  exact h1.trans (k2_eqG (fun x3a x3l x3c x4b x4o x5b x5o x9 x10 x11 x12 x41 r m => k3  x3a x3l x3c x4b x4o x5b x5o x9 x10 x11 x12 x41 R r m)  R x2 x3a x3l x3c x4b x4o x5b x5o x9 x10 x11 x12 ρ m)
theorem k2_er  (R : Ending → Mem → Prop) : (k2A  R).erase = sR (sR (sR (sR (sR (sR (body)))))) := by kernel_rfl
theorem k2_ok  (R : Ending → Mem → Prop) (ρ : Env) (m : Mem) (h : (k2E fun x2 x3a x3l x3c x4b x4o x5b x5o x9 x10 x11 x12 m => k2  x2 x3a x3l x3c x4b x4o x5b x5o x9 x10 x11 x12 R m) ρ m) : cpt P od (panicR R) (sR (sR (sR (sR (sR (sR (body))))))) (bodyQ P fn R) ρ m := by
  unfold k2E at h
  obtain ⟨x2, e2, h⟩ := h.ex
  obtain ⟨x3a, x3l, x3c, e3, h⟩ := h.ex
  obtain ⟨x4b, x4o, e4, h⟩ := h.ex
  obtain ⟨x5b, x5o, e5, h⟩ := h.ex
  obtain ⟨x9, e9, h⟩ := h.ex
  obtain ⟨x10, e10, h⟩ := h.ex
  obtain ⟨x11, e11, h⟩ := h.ex
  obtain ⟨x12, e12, h⟩ := h.ex
  rw [← upd_self e2, ← upd_self e3, ← upd_self e4, ← upd_self e5, ← upd_self e9, ← upd_self e10, ← upd_self e11, ← upd_self e12]
  rw [← k2_er  R]
  refine acpt_sound (P := P) (k2A  R) _ _ _ ⟨True.intro, (fun r ρ m h => k3_ok  R r ρ m h)⟩ ?_
  exact Eq.mp (k2_eq  R x2 x3a x3l x3c x4b x4o x5b x5o x9 x10 x11 x12 ρ m) h
theorem l1_eq  (K1 : Int → Option Addr → Nat → Nat → Nat → Nat → Nat → Nat → Int → Bool → Int → Bool → Int → Mem → Prop) (R : Ending → Mem → Prop) (x2 : Int) (x3a : Option Addr) (x3l : Nat) (x3c : Nat) (x4b : Nat) (x4o : Nat) (x5b : Nat) (x5o : Nat) (x9 : Int) (x10 : Bool) (x11 : Int) (x12 : Bool) (x13 : Int) (ρ : Env) (m : Mem) : l1B  K1 x2 x3a x3l x3c x4b x4o x5b x5o x9 x10 x11 x12 x13 R m = acpt P od (panicR R) (l1A  K1 R) (thenQ (l1E K1) (blockQ 0 (thenQ (acpt P od (panicR R) (.cut (k2E fun x2 x3a x3l x3c x4b x4o x5b x5o x9 x10 x11 x12 m => k2  x2 x3a x3l x3c x4b x4o x5b x5o x9 x10 x11 x12 R m) (sR (sR (sR (sR (sR (sR (body)))))))) (bodyQ P fn R)) (bodyQ P fn R)))) (upd (upd (upd (upd (upd (upd (upd (upd (upd ρ 13 (.int .i64 x13)) 12 (.bool x12)) 11 (.int .u8 x11)) 10 (.bool x10)) 9 (.int .u8 x9)) 5 (.pointer (some ⟨x5b, x5o, none⟩))) 4 (.pointer (some ⟨x4b, x4o, none⟩))) 3 (.slice x3a x3l x3c)) 2 (.int .u8 x2)) m := by kernel_rfl
theorem l1_er  (K1 : Int → Option Addr → Nat → Nat → Nat → Nat → Nat → Nat → Int → Bool → Int → Bool → Int → Mem → Prop) (R : Ending → Mem → Prop) : (l1A  K1 R).erase = lP (bB (sR (sL (sR (sR (sR (sR (sR (body))))))))) := by kernel_rfl
theorem l1_ok  (R : Ending → Mem → Prop) (ρ : Env) (m : Mem) (h : (l1E fun x2 x3a x3l x3c x4b x4o x5b x5o x9 x10 x11 x12 x13 m => l1  x2 x3a x3l x3c x4b x4o x5b x5o x9 x10 x11 x12 x13 R m) ρ m) : cpt P od (panicR R) (.loop (lP (bB (sR (sL (sR (sR (sR (sR (sR (body))))))))))) (blockQ 0 (thenQ (acpt P od (panicR R) (.cut (k2E fun x2 x3a x3l x3c x4b x4o x5b x5o x9 x10 x11 x12 m => k2  x2 x3a x3l x3c x4b x4o x5b x5o x9 x10 x11 x12 R m) (sR (sR (sR (sR (sR (sR (body)))))))) (bodyQ P fn R)) (bodyQ P fn R))) ρ m := by
  unfold l1E at h
  obtain ⟨x2, e2, h⟩ := h.ex
  obtain ⟨x3a, x3l, x3c, e3, h⟩ := h.ex
  obtain ⟨x4b, x4o, e4, h⟩ := h.ex
  obtain ⟨x5b, x5o, e5, h⟩ := h.ex
  obtain ⟨x9, e9, h⟩ := h.ex
  obtain ⟨x10, e10, h⟩ := h.ex
  obtain ⟨x11, e11, h⟩ := h.ex
  obtain ⟨x12, e12, h⟩ := h.ex
  obtain ⟨x13, e13, h⟩ := h.ex
  obtain ⟨I, N, h0, hs⟩ := h
  refine ⟨fun N => l1E (I N), N, (by show l1E (I N) ρ m; unfold l1E; rw [e2, e3, e4, e5, e9, e10, e11, e12, e13]; exact h0), ?_⟩
  clear h0 e2 e3 e4 e5 e9 e10 e11 e12 e13
  intro N ρ m h
  unfold l1E at h
  obtain ⟨x2, e2, h⟩ := h.ex
  obtain ⟨x3a, x3l, x3c, e3, h⟩ := h.ex
  obtain ⟨x4b, x4o, e4, h⟩ := h.ex
  obtain ⟨x5b, x5o, e5, h⟩ := h.ex
  obtain ⟨x9, e9, h⟩ := h.ex
  obtain ⟨x10, e10, h⟩ := h.ex
  obtain ⟨x11, e11, h⟩ := h.ex
  obtain ⟨x12, e12, h⟩ := h.ex
  obtain ⟨x13, e13, h⟩ := h.ex
  refine cpt_mono (P := P) (lP (bB (sR (sL (sR (sR (sR (sR (sR (body)))))))))) (Q := thenQ (l1E fun x2 x3a x3l x3c x4b x4o x5b x5o x9 x10 x11 x12 x13 m => ∃ N1, N1 < N ∧ I N1 x2 x3a x3l x3c x4b x4o x5b x5o x9 x10 x11 x12 x13 m) (blockQ 0 (thenQ (acpt P od (panicR R) (.cut (k2E fun x2 x3a x3l x3c x4b x4o x5b x5o x9 x10 x11 x12 m => k2  x2 x3a x3l x3c x4b x4o x5b x5o x9 x10 x11 x12 R m) (sR (sR (sR (sR (sR (sR (body)))))))) (bodyQ P fn R)) (bodyQ P fn R)))) (fun e ρ m h => ?_) ρ m ?_
  · cases e with
    | normal =>
      have h : l1E (fun x2 x3a x3l x3c x4b x4o x5b x5o x9 x10 x11 x12 x13 m => ∃ N1, N1 < N ∧ I N1 x2 x3a x3l x3c x4b x4o x5b x5o x9 x10 x11 x12 x13 m) ρ m := h
      unfold l1E at h
      obtain ⟨x2, e2, h⟩ := h.ex
      obtain ⟨x3a, x3l, x3c, e3, h⟩ := h.ex
      obtain ⟨x4b, x4o, e4, h⟩ := h.ex
      obtain ⟨x5b, x5o, e5, h⟩ := h.ex
      obtain ⟨x9, e9, h⟩ := h.ex
      obtain ⟨x10, e10, h⟩ := h.ex
      obtain ⟨x11, e11, h⟩ := h.ex
      obtain ⟨x12, e12, h⟩ := h.ex
      obtain ⟨x13, e13, h⟩ := h.ex
      obtain ⟨N1, hlt, h⟩ := h
      exact ⟨N1, hlt, (by show l1E (I N1) ρ m; unfold l1E; rw [e2, e3, e4, e5, e9, e10, e11, e12, e13]; exact h)⟩
    | _ => exact h
  have hh := hs N x2 x3a x3l x3c x4b x4o x5b x5o x9 x10 x11 x12 x13 m h
  generalize (fun x2 x3a x3l x3c x4b x4o x5b x5o x9 x10 x11 x12 x13 m => ∃ N1, N1 < N ∧ I N1 x2 x3a x3l x3c x4b x4o x5b x5o x9 x10 x11 x12 x13 m : Int → Option Addr → Nat → Nat → Nat → Nat → Nat → Nat → Int → Bool → Int → Bool → Int → Mem → Prop) = K1 at hh ⊢
  rw [← upd_self e2, ← upd_self e3, ← upd_self e4, ← upd_self e5, ← upd_self e9, ← upd_self e10, ← upd_self e11, ← upd_self e12, ← upd_self e13]
  rw [← l1_er  K1 R]
  refine acpt_sound (P := P) (l1A  K1 R) _ _ _ True.intro ?_
  exact Eq.mp (l1_eq  K1 R x2 x3a x3l x3c x4b x4o x5b x5o x9 x10 x11 x12 x13 ρ m) hh
theorem e0_eq (a0_0 : Int) (a0_1 : Int) (a0_2 : Int) (a0_3 : Int) (a1_0 : Int) (a1_1 : Int) (a1_2 : Int) (a1_3 : Int) (a2 : Int) (a3a : Option Addr) (a3l : Nat) (a3c : Nat) (R : Ending → Mem → Prop) (m : Mem) : e0 a0_0 a0_1 a0_2 a0_3 a1_0 a1_1 a1_2 a1_3 a2 a3a a3l a3c R m = acpt P od (panicR R) (e0A R) (bodyQ P fn R) (argE (#[.agg #[.int .u64 a0_0, .int .u64 a0_1, .int .u64 a0_2, .int .u64 a0_3], .agg #[.int .u64 a1_0, .int .u64 a1_1, .int .u64 a1_2, .int .u64 a1_3], .int .u8 a2, .slice a3a a3l a3c] : Array Value).toList) m := by kernel_rfl
theorem ok (a0_0 : Int) (a0_1 : Int) (a0_2 : Int) (a0_3 : Int) (a1_0 : Int) (a1_1 : Int) (a1_2 : Int) (a1_3 : Int) (a2 : Int) (a3a : Option Addr) (a3l : Nat) (a3c : Nat) (R : Ending → Mem → Prop) (m : Mem) (h : e0 a0_0 a0_1 a0_2 a0_3 a1_0 a1_1 a1_2 a1_3 a2 a3a a3l a3c R m) : HC P id #[.agg #[.int .u64 a0_0, .int .u64 a0_1, .int .u64 a0_2, .int .u64 a0_3], .agg #[.int .u64 a1_0, .int .u64 a1_1, .int .u64 a1_2, .int .u64 a1_3], .int .u8 a2, .slice a3a a3l a3c] m R := by
  refine HC_of (fn := fn) (c := body) (od := od) (tb := tb) Go.Proofs.Tryd.func8 (by kernel_rfl) (by kernel_rfl) follows (by kernel_rfl) (of_decide_eq_true (by kernel_rfl)) ?_
  have he : (e0A R).erase = body := by kernel_rfl
  rw [← he]
  refine acpt_sound (P := P) (e0A R) _ _ _ ⟨⟨⟨⟨⟨⟨(fun ρ m h => k2_ok  R ρ m h), ⟨(fun ρ m h => l1_ok  R ρ m h), True.intro⟩⟩, True.intro⟩, True.intro⟩, True.intro⟩, True.intro⟩, True.intro⟩ ?_
  exact Eq.mp (e0_eq a0_0 a0_1 a0_2 a0_3 a1_0 a1_1 a1_2 a1_3 a2 a3a a3l a3c R m) h
end eyotlaw8_ClassAll

/-! ### eyot/eyotlaw8.ClassLaws -/
namespace eyotlaw8_ClassLaws
noncomputable def fn : Func := Go.Proofs.Tryd.f9
noncomputable def body : Code := fn.body.getD .skip
def od : Nat → Ord := fun | 3 => ordL [(0, 1), (3, 1), (1, 0), (2, 0), (4, 3), (5, 3), (6, 1), (7, 1), (10, 1), (12, 1), (8, 0), (9, 0), (11, 0), (13, 0), (14, 0), (15, 3), (16, 3), (17, 3), (18, 1), (19, 1), (20, 1), (23, 1), (24, 1), (26, 1), (27, 1), (21, 0), (22, 0), (25, 0), (28, 0), (29, 0), (30, 3), (31, 3), (32, 3), (33, 1), (34, 1), (36, 1), (37, 1), (35, 0), (38, 0), (39, 3), (40, 3), (41, 3), (42, 1), (43, 1), (46, 3), (44, 0), (45, 2), (47, 3), (48, 3), (49, 3)] .done | _ => .done
def tb : Nat → Tab := fun | 3 => (35184372088832, [0, 1, 3, 0, 15, 31, 63, 63, 255, 511, 63, 2047, 63, 8191, 16383, 32767, 65535, 131071, 262143, 262143, 262143, 1835007, 4194303, 262143, 262143, 33554431, 262143, 262143, 268435455, 536870911, 1073741823, 2147483647, 4294967295, 8589934591, 8589934591, 34359738367, 8589934591, 8589934591, 274877906943, 549755813887, 1099511627775, 2199023255551, 4398046511103, 4398046511103, 13194139533311, 35184372088831, 4398046511103, 140737488355327, 281474976710655, 562949953421311], [(0, 8, 10), (1, 512, 11), (2, 1024, 12), (0, 8, 13), (12, 6144, 14), (20, 8192, 15), (32, 16392, 16), (32, 16400, 17), (224, 114688, 18), (288, 147456, 19), (32, 16392, 20), (1568, 540672, 21), (32, 16400, 22), (6176, 2113536, 23), (10272, 5259264, 24), (16928, 8667136, 25), (32800, 16793600, 26), (81920, 33554432, 27), (131072, 67108872, 28), (131072, 67108880, 29), (131072, 67108896, 30), (1703936, 872415232, 31), (2490368, 1275068416, 32), (131072, 67108872, 33), (131072, 67108880, 34), (29491200, 12952010752, 35), (131072, 67108872, 36), (131072, 67108896, 37), (235012096, 103146323968, 38), (302120960, 154685931520, 39), (541196288, 277092499456, 40), (1073872896, 549822922752, 41), (2684354560, 1099511627776, 42), (4294967296, 2199023255560, 43), (4294967296, 2199023255568, 44), (30064771072, 15393162788864, 45), (4294967296, 2199023255568, 46), (4294967296, 2199023255560, 47), (244813135872, 107752139522048, 48), (313532612608, 160528697655296, 49), (554050781184, 283673999966208, 50), (1374389534720, 562949953421312, 51), (2199023255552, 1125899906842632, 52), (2199023255552, 1125899906842632, 53), (10995116277760, 5629499534213120, 54), (24189255811072, 12384898975268864, 55), (2199023255552, 1125899906842624, 56), (107752139522048, 55169095435288576, 57), (142936511610880, 73183493944770560, 58), (562949953421311, 144115188075855872, 7)]) | _ => (0, [], [])
def k4E (K : Nat → Nat → Bool → Bool → Mem → Mem → Prop) : Mem → Env → Mem → Prop := fun r ρ m => UnPA (ρ 3) fun a_3b a_3o => UnB (ρ 6) fun x6 => UnB (ρ 50) fun x50 => K a_3b a_3o x6 x50 r m
def k4  (a_3b : Nat) (a_3o : Nat) (x6 : Bool) (x50 : Bool) (R : Ending → Mem → Prop) (r m : Mem) : Prop :=
  Br x50 (
    LdV r a_3b a_3o fun v =>
    UnI v .u64 fun x51_0 =>
    LdV r a_3b (a_3o + 1) fun v =>
    UnI v .u64 fun x51_1 =>
    LdV r a_3b (a_3o + 2) fun v =>
    UnI v .u64 fun x51_2 =>
    LdV r a_3b (a_3o + 3) fun v =>
    UnI v .u64 fun x51_3 =>
    LdV r a_3b a_3o fun v =>
    UnI v .u64 fun x52_0 =>
    LdV r a_3b (a_3o + 1) fun v =>
    UnI v .u64 fun x52_1 =>
    LdV r a_3b (a_3o + 2) fun v =>
    UnI v .u64 fun x52_2 =>
    LdV r a_3b (a_3o + 3) fun v =>
    UnI v .u64 fun x52_3 =>
    HC P class_Not.id #[.agg #[.int .u64 x52_0, .int .u64 x52_1, .int .u64 x52_2, .int .u64 x52_3]] m (Cont (fun v m1 =>
        UnAgg v fun l =>
        UnCons l fun v l =>
        UnI v .u64 fun x53_0 =>
        UnCons l fun v l =>
        UnI v .u64 fun x53_1 =>
        UnCons l fun v l =>
        UnI v .u64 fun x53_2 =>
        UnCons l fun v l =>
        UnI v .u64 fun x53_3 =>
        UnNil l (
          Lk r m1 fun r2 =>
          HC P class_And.id #[.agg #[.int .u64 x51_0, .int .u64 x51_1, .int .u64 x51_2, .int .u64 x51_3], .agg #[.int .u64 x53_0, .int .u64 x53_1, .int .u64 x53_2, .int .u64 x53_3]] m1 (Cont (fun v m3 =>
              UnAgg v fun l =>
              UnCons l fun v l =>
              UnI v .u64 fun x54_0 =>
              UnCons l fun v l =>
              UnI v .u64 fun x54_1 =>
              UnCons l fun v l =>
              UnI v .u64 fun x54_2 =>
              UnCons l fun v l =>
              UnI v .u64 fun x54_3 =>
              UnNil l (
                R (.returned (.bool (eqL [.int .u64 x54_0, .int .u64 x54_1, .int .u64 x54_2, .int .u64 x54_3] [.int .u64 0, .int .u64 0, .int .u64 0, .int .u64 0]))) m3)) (panicR R)))) (panicR R))) (
    R (.returned (.bool false)) m)
def k3E (K : Nat → Nat → Nat → Nat → Bool → Bool → Mem → Mem → Prop) : Mem → Env → Mem → Prop := fun r ρ m => UnPA (ρ 3) fun a_3b a_3o => UnPA (ρ 4) fun b_4b b_4o => UnB (ρ 6) fun x6 => UnB (ρ 41) fun x41 => K a_3b a_3o b_4b b_4o x6 x41 r m
def k3  (a_3b : Nat) (a_3o : Nat) (b_4b : Nat) (b_4o : Nat) (x6 : Bool) (x41 : Bool) (R : Ending → Mem → Prop) (r m : Mem) : Prop :=
  Br x41 (
    LdV r a_3b a_3o fun v =>
    UnI v .u64 fun x42_0 =>
    LdV r a_3b (a_3o + 1) fun v =>
    UnI v .u64 fun x42_1 =>
    LdV r a_3b (a_3o + 2) fun v =>
    UnI v .u64 fun x42_2 =>
    LdV r a_3b (a_3o + 3) fun v =>
    UnI v .u64 fun x42_3 =>
    LdV r b_4b b_4o fun v =>
    UnI v .u64 fun x43_0 =>
    LdV r b_4b (b_4o + 1) fun v =>
    UnI v .u64 fun x43_1 =>
    LdV r b_4b (b_4o + 2) fun v =>
    UnI v .u64 fun x43_2 =>
    LdV r b_4b (b_4o + 3) fun v =>
    UnI v .u64 fun x43_3 =>
    LdV r b_4b b_4o fun v =>
    UnI v .u64 fun x45_0 =>
    LdV r b_4b (b_4o + 1) fun v =>
    UnI v .u64 fun x45_1 =>
    LdV r b_4b (b_4o + 2) fun v =>
    UnI v .u64 fun x45_2 =>
    LdV r b_4b (b_4o + 3) fun v =>
    UnI v .u64 fun x45_3 =>
    LdV r a_3b a_3o fun v =>
    UnI v .u64 fun x46_0 =>
    LdV r a_3b (a_3o + 1) fun v =>
    UnI v .u64 fun x46_1 =>
    LdV r a_3b (a_3o + 2) fun v =>
    UnI v .u64 fun x46_2 =>
    LdV r a_3b (a_3o + 3) fun v =>
    UnI v .u64 fun x46_3 =>
    HC P class_Or.id #[.agg #[.int .u64 x42_0, .int .u64 x42_1, .int .u64 x42_2, .int .u64 x42_3], .agg #[.int .u64 x43_0, .int .u64 x43_1, .int .u64 x43_2, .int .u64 x43_3]] m (Cont (fun v m1 =>
        UnAgg v fun l =>
        UnCons l fun v l =>
        UnI v .u64 fun x44_0 =>
        UnCons l fun v l =>
        UnI v .u64 fun x44_1 =>
        UnCons l fun v l =>
        UnI v .u64 fun x44_2 =>
        UnCons l fun v l =>
        UnI v .u64 fun x44_3 =>
        UnNil l (
          Lk r m1 fun r2 =>
          HC P class_Or.id #[.agg #[.int .u64 x45_0, .int .u64 x45_1, .int .u64 x45_2, .int .u64 x45_3], .agg #[.int .u64 x46_0, .int .u64 x46_1, .int .u64 x46_2, .int .u64 x46_3]] m1 (Cont (fun v m3 =>
              UnAgg v fun l =>
              UnCons l fun v l =>
              UnI v .u64 fun x47_0 =>
              UnCons l fun v l =>
              UnI v .u64 fun x47_1 =>
              UnCons l fun v l =>
              UnI v .u64 fun x47_2 =>
              UnCons l fun v l =>
              UnI v .u64 fun x47_3 =>
              UnNil l (
                Lk r2 m3 fun r4 =>
                k4  a_3b a_3o x6 (eqL [.int .u64 x44_0, .int .u64 x44_1, .int .u64 x44_2, .int .u64 x44_3] [.int .u64 x47_0, .int .u64 x47_1, .int .u64 x47_2, .int .u64 x47_3]) R r4 m3)) (panicR R)))) (panicR R))) (
    k4  a_3b a_3o x6 false R r m)
def k3G (Kk4 : Nat → Nat → Bool → Bool → Mem → Mem → Prop)  (a_3b : Nat) (a_3o : Nat) (b_4b : Nat) (b_4o : Nat) (x6 : Bool) (x41 : Bool) (R : Ending → Mem → Prop) (r m : Mem) : Prop :=
  Br x41 (
    LdV r a_3b a_3o fun v =>
    UnI v .u64 fun x42_0 =>
    LdV r a_3b (a_3o + 1) fun v =>
    UnI v .u64 fun x42_1 =>
    LdV r a_3b (a_3o + 2) fun v =>
    UnI v .u64 fun x42_2 =>
    LdV r a_3b (a_3o + 3) fun v =>
    UnI v .u64 fun x42_3 =>
    LdV r b_4b b_4o fun v =>
    UnI v .u64 fun x43_0 =>
    LdV r b_4b (b_4o + 1) fun v =>
    UnI v .u64 fun x43_1 =>
    LdV r b_4b (b_4o + 2) fun v =>
    UnI v .u64 fun x43_2 =>
    LdV r b_4b (b_4o + 3) fun v =>
    UnI v .u64 fun x43_3 =>
    LdV r b_4b b_4o fun v =>
    UnI v .u64 fun x45_0 =>
    LdV r b_4b (b_4o + 1) fun v =>
    UnI v .u64 fun x45_1 =>
    LdV r b_4b (b_4o + 2) fun v =>
    UnI v .u64 fun x45_2 =>
    LdV r b_4b (b_4o + 3) fun v =>
    UnI v .u64 fun x45_3 =>
    LdV r a_3b a_3o fun v =>
    UnI v .u64 fun x46_0 =>
    LdV r a_3b (a_3o + 1) fun v =>
    UnI v .u64 fun x46_1 =>
    LdV r a_3b (a_3o + 2) fun v =>
    UnI v .u64 fun x46_2 =>
    LdV r a_3b (a_3o + 3) fun v =>
    UnI v .u64 fun x46_3 =>
    HC P class_Or.id #[.agg #[.int .u64 x42_0, .int .u64 x42_1, .int .u64 x42_2, .int .u64 x42_3], .agg #[.int .u64 x43_0, .int .u64 x43_1, .int .u64 x43_2, .int .u64 x43_3]] m (Cont (fun v m1 =>
        UnAgg v fun l =>
        UnCons l fun v l =>
        UnI v .u64 fun x44_0 =>
        UnCons l fun v l =>
        UnI v .u64 fun x44_1 =>
        UnCons l fun v l =>
        UnI v .u64 fun x44_2 =>
        UnCons l fun v l =>
        UnI v .u64 fun x44_3 =>
        UnNil l (
          Lk r m1 fun r2 =>
          HC P class_Or.id #[.agg #[.int .u64 x45_0, .int .u64 x45_1, .int .u64 x45_2, .int .u64 x45_3], .agg #[.int .u64 x46_0, .int .u64 x46_1, .int .u64 x46_2, .int .u64 x46_3]] m1 (Cont (fun v m3 =>
              UnAgg v fun l =>
              UnCons l fun v l =>
              UnI v .u64 fun x47_0 =>
              UnCons l fun v l =>
              UnI v .u64 fun x47_1 =>
              UnCons l fun v l =>
              UnI v .u64 fun x47_2 =>
              UnCons l fun v l =>
              UnI v .u64 fun x47_3 =>
              UnNil l (
                Lk r2 m3 fun r4 =>
                Kk4 a_3b a_3o x6 (eqL [.int .u64 x44_0, .int .u64 x44_1, .int .u64 x44_2, .int .u64 x44_3] [.int .u64 x47_0, .int .u64 x47_1, .int .u64 x47_2, .int .u64 x47_3])  r4 m3)) (panicR R)))) (panicR R))) (
    Kk4 a_3b a_3o x6 false  r m)
def k2E (K : Nat → Nat → Nat → Nat → Nat → Nat → Bool → Bool → Mem → Mem → Prop) : Mem → Env → Mem → Prop := fun r ρ m => UnPA (ρ 3) fun a_3b a_3o => UnPA (ρ 4) fun b_4b b_4o => UnPA (ρ 5) fun c_5b c_5o => UnB (ρ 6) fun x6 => UnB (ρ 26) fun x26 => K a_3b a_3o b_4b b_4o c_5b c_5o x6 x26 r m
def k2  (a_3b : Nat) (a_3o : Nat) (b_4b : Nat) (b_4o : Nat) (c_5b : Nat) (c_5o : Nat) (x6 : Bool) (x26 : Bool) (R : Ending → Mem → Prop) (r m : Mem) : Prop :=
  Br x26 (
    LdV r a_3b a_3o fun v =>
    UnI v .u64 fun x27_0 =>
    LdV r a_3b (a_3o + 1) fun v =>
    UnI v .u64 fun x27_1 =>
    LdV r a_3b (a_3o + 2) fun v =>
    UnI v .u64 fun x27_2 =>
    LdV r a_3b (a_3o + 3) fun v =>
    UnI v .u64 fun x27_3 =>
    LdV r b_4b b_4o fun v =>
    UnI v .u64 fun x28_0 =>
    LdV r b_4b (b_4o + 1) fun v =>
    UnI v .u64 fun x28_1 =>
    LdV r b_4b (b_4o + 2) fun v =>
    UnI v .u64 fun x28_2 =>
    LdV r b_4b (b_4o + 3) fun v =>
    UnI v .u64 fun x28_3 =>
    LdV r c_5b c_5o fun v =>
    UnI v .u64 fun x29_0 =>
    LdV r c_5b (c_5o + 1) fun v =>
    UnI v .u64 fun x29_1 =>
    LdV r c_5b (c_5o + 2) fun v =>
    UnI v .u64 fun x29_2 =>
    LdV r c_5b (c_5o + 3) fun v =>
    UnI v .u64 fun x29_3 =>
    LdV r a_3b a_3o fun v =>
    UnI v .u64 fun x32_0 =>
    LdV r a_3b (a_3o + 1) fun v =>
    UnI v .u64 fun x32_1 =>
    LdV r a_3b (a_3o + 2) fun v =>
    UnI v .u64 fun x32_2 =>
    LdV r a_3b (a_3o + 3) fun v =>
    UnI v .u64 fun x32_3 =>
    LdV r b_4b b_4o fun v =>
    UnI v .u64 fun x33_0 =>
    LdV r b_4b (b_4o + 1) fun v =>
    UnI v .u64 fun x33_1 =>
    LdV r b_4b (b_4o + 2) fun v =>
    UnI v .u64 fun x33_2 =>
    LdV r b_4b (b_4o + 3) fun v =>
    UnI v .u64 fun x33_3 =>
    LdV r a_3b a_3o fun v =>
    UnI v .u64 fun x35_0 =>
    LdV r a_3b (a_3o + 1) fun v =>
    UnI v .u64 fun x35_1 =>
    LdV r a_3b (a_3o + 2) fun v =>
    UnI v .u64 fun x35_2 =>
    LdV r a_3b (a_3o + 3) fun v =>
    UnI v .u64 fun x35_3 =>
    LdV r c_5b c_5o fun v =>
    UnI v .u64 fun x36_0 =>
    LdV r c_5b (c_5o + 1) fun v =>
    UnI v .u64 fun x36_1 =>
    LdV r c_5b (c_5o + 2) fun v =>
    UnI v .u64 fun x36_2 =>
    LdV r c_5b (c_5o + 3) fun v =>
    UnI v .u64 fun x36_3 =>
    HC P class_Or.id #[.agg #[.int .u64 x28_0, .int .u64 x28_1, .int .u64 x28_2, .int .u64 x28_3], .agg #[.int .u64 x29_0, .int .u64 x29_1, .int .u64 x29_2, .int .u64 x29_3]] m (Cont (fun v m1 =>
        UnAgg v fun l =>
        UnCons l fun v l =>
        UnI v .u64 fun x30_0 =>
        UnCons l fun v l =>
        UnI v .u64 fun x30_1 =>
        UnCons l fun v l =>
        UnI v .u64 fun x30_2 =>
        UnCons l fun v l =>
        UnI v .u64 fun x30_3 =>
        UnNil l (
          Lk r m1 fun r2 =>
          HC P class_And.id #[.agg #[.int .u64 x27_0, .int .u64 x27_1, .int .u64 x27_2, .int .u64 x27_3], .agg #[.int .u64 x30_0, .int .u64 x30_1, .int .u64 x30_2, .int .u64 x30_3]] m1 (Cont (fun v m3 =>
              UnAgg v fun l =>
              UnCons l fun v l =>
              UnI v .u64 fun x31_0 =>
              UnCons l fun v l =>
              UnI v .u64 fun x31_1 =>
              UnCons l fun v l =>
              UnI v .u64 fun x31_2 =>
              UnCons l fun v l =>
              UnI v .u64 fun x31_3 =>
              UnNil l (
                Lk r2 m3 fun r4 =>
                HC P class_And.id #[.agg #[.int .u64 x32_0, .int .u64 x32_1, .int .u64 x32_2, .int .u64 x32_3], .agg #[.int .u64 x33_0, .int .u64 x33_1, .int .u64 x33_2, .int .u64 x33_3]] m3 (Cont (fun v m5 =>
                    UnAgg v fun l =>
                    UnCons l fun v l =>
                    UnI v .u64 fun x34_0 =>
                    UnCons l fun v l =>
                    UnI v .u64 fun x34_1 =>
                    UnCons l fun v l =>
                    UnI v .u64 fun x34_2 =>
                    UnCons l fun v l =>
                    UnI v .u64 fun x34_3 =>
                    UnNil l (
                      Lk r4 m5 fun r6 =>
                      HC P class_And.id #[.agg #[.int .u64 x35_0, .int .u64 x35_1, .int .u64 x35_2, .int .u64 x35_3], .agg #[.int .u64 x36_0, .int .u64 x36_1, .int .u64 x36_2, .int .u64 x36_3]] m5 (Cont (fun v m7 =>
                        UnAgg v fun l =>
                        UnCons l fun v l =>
                        UnI v .u64 fun x37_0 =>
                        UnCons l fun v l =>
                        UnI v .u64 fun x37_1 =>
                        UnCons l fun v l =>
                        UnI v .u64 fun x37_2 =>
                        UnCons l fun v l =>
                        UnI v .u64 fun x37_3 =>
                        UnNil l (
                        Lk r6 m7 fun r8 =>
                        HC P class_Or.id #[.agg #[.int .u64 x34_0, .int .u64 x34_1, .int .u64 x34_2, .int .u64 x34_3], .agg #[.int .u64 x37_0, .int .u64 x37_1, .int .u64 x37_2, .int .u64 x37_3]] m7 (Cont (fun v m9 =>
                        UnAgg v fun l =>
                        UnCons l fun v l =>
                        UnI v .u64 fun x38_0 =>
                        UnCons l fun v l =>
                        UnI v .u64 fun x38_1 =>
                        UnCons l fun v l =>
                        UnI v .u64 fun x38_2 =>
                        UnCons l fun v l =>
                        UnI v .u64 fun x38_3 =>
                        UnNil l (
                        Lk r8 m9 fun r10 =>
                        k3  a_3b a_3o b_4b b_4o x6 (eqL [.int .u64 x31_0, .int .u64 x31_1, .int .u64 x31_2, .int .u64 x31_3] [.int .u64 x38_0, .int .u64 x38_1, .int .u64 x38_2, .int .u64 x38_3]) R r10 m9)) (panicR R)))) (panicR R)))) (panicR R)))) (panicR R)))) (panicR R))) (
    k3  a_3b a_3o b_4b b_4o x6 false R r m)
def k2G (Kk3 : Nat → Nat → Nat → Nat → Bool → Bool → Mem → Mem → Prop)  (a_3b : Nat) (a_3o : Nat) (b_4b : Nat) (b_4o : Nat) (c_5b : Nat) (c_5o : Nat) (x6 : Bool) (x26 : Bool) (R : Ending → Mem → Prop) (r m : Mem) : Prop :=
  Br x26 (
    LdV r a_3b a_3o fun v =>
    UnI v .u64 fun x27_0 =>
    LdV r a_3b (a_3o + 1) fun v =>
    UnI v .u64 fun x27_1 =>
    LdV r a_3b (a_3o + 2) fun v =>
    UnI v .u64 fun x27_2 =>
    LdV r a_3b (a_3o + 3) fun v =>
    UnI v .u64 fun x27_3 =>
    LdV r b_4b b_4o fun v =>
    UnI v .u64 fun x28_0 =>
    LdV r b_4b (b_4o + 1) fun v =>
    UnI v .u64 fun x28_1 =>
    LdV r b_4b (b_4o + 2) fun v =>
    UnI v .u64 fun x28_2 =>
    LdV r b_4b (b_4o + 3) fun v =>
    UnI v .u64 fun x28_3 =>
    LdV r c_5b c_5o fun v =>
    UnI v .u64 fun x29_0 =>
    LdV r c_5b (c_5o + 1) fun v =>
    UnI v .u64 fun x29_1 =>
    LdV r c_5b (c_5o + 2) fun v =>
    UnI v .u64 fun x29_2 =>
    LdV r c_5b (c_5o + 3) fun v =>
    UnI v .u64 fun x29_3 =>
    LdV r a_3b a_3o fun v =>
    UnI v .u64 fun x32_0 =>
    LdV r a_3b (a_3o + 1) fun v =>
    UnI v .u64 fun x32_1 =>
    LdV r a_3b (a_3o + 2) fun v =>
    UnI v .u64 fun x32_2 =>
    LdV r a_3b (a_3o + 3) fun v =>
    UnI v .u64 fun x32_3 =>
    LdV r b_4b b_4o fun v =>
    UnI v .u64 fun x33_0 =>
    LdV r b_4b (b_4o + 1) fun v =>
    UnI v .u64 fun x33_1 =>
    LdV r b_4b (b_4o + 2) fun v =>
    UnI v .u64 fun x33_2 =>
    LdV r b_4b (b_4o + 3) fun v =>
    UnI v .u64 fun x33_3 =>
    LdV r a_3b a_3o fun v =>
    UnI v .u64 fun x35_0 =>
    LdV r a_3b (a_3o + 1) fun v =>
    UnI v .u64 fun x35_1 =>
    LdV r a_3b (a_3o + 2) fun v =>
    UnI v .u64 fun x35_2 =>
    LdV r a_3b (a_3o + 3) fun v =>
    UnI v .u64 fun x35_3 =>
    LdV r c_5b c_5o fun v =>
    UnI v .u64 fun x36_0 =>
    LdV r c_5b (c_5o + 1) fun v =>
    UnI v .u64 fun x36_1 =>
    LdV r c_5b (c_5o + 2) fun v =>
    UnI v .u64 fun x36_2 =>
    LdV r c_5b (c_5o + 3) fun v =>
    UnI v .u64 fun x36_3 =>
    HC P class_Or.id #[.agg #[.int .u64 x28_0, .int .u64 x28_1, .int .u64 x28_2, .int .u64 x28_3], .agg #[.int .u64 x29_0, .int .u64 x29_1, .int .u64 x29_2, .int .u64 x29_3]] m (Cont (fun v m1 =>
        UnAgg v fun l =>
        UnCons l fun v l =>
        UnI v .u64 fun x30_0 =>
        UnCons l fun v l =>
        UnI v .u64 fun x30_1 =>
        UnCons l fun v l =>
        UnI v .u64 fun x30_2 =>
        UnCons l fun v l =>
        UnI v .u64 fun x30_3 =>
        UnNil l (
          Lk r m1 fun r2 =>
          HC P class_And.id #[.agg #[.int .u64 x27_0, .int .u64 x27_1, .int .u64 x27_2, .int .u64 x27_3], .agg #[.int .u64 x30_0, .int .u64 x30_1, .int .u64 x30_2, .int .u64 x30_3]] m1 (Cont (fun v m3 =>
              UnAgg v fun l =>
              UnCons l fun v l =>
              UnI v .u64 fun x31_0 =>
              UnCons l fun v l =>
              UnI v .u64 fun x31_1 =>
              UnCons l fun v l =>
              UnI v .u64 fun x31_2 =>
              UnCons l fun v l =>
              UnI v .u64 fun x31_3 =>
              UnNil l (
                Lk r2 m3 fun r4 =>
                HC P class_And.id #[.agg #[.int .u64 x32_0, .int .u64 x32_1, .int .u64 x32_2, .int .u64 x32_3], .agg #[.int .u64 x33_0, .int .u64 x33_1, .int .u64 x33_2, .int .u64 x33_3]] m3 (Cont (fun v m5 =>
                    UnAgg v fun l =>
                    UnCons l fun v l =>
                    UnI v .u64 fun x34_0 =>
                    UnCons l fun v l =>
                    UnI v .u64 fun x34_1 =>
                    UnCons l fun v l =>
                    UnI v .u64 fun x34_2 =>
                    UnCons l fun v l =>
                    UnI v .u64 fun x34_3 =>
                    UnNil l (
                      Lk r4 m5 fun r6 =>
                      HC P class_And.id #[.agg #[.int .u64 x35_0, .int .u64 x35_1, .int .u64 x35_2, .int .u64 x35_3], .agg #[.int .u64 x36_0, .int .u64 x36_1, .int .u64 x36_2, .int .u64 x36_3]] m5 (Cont (fun v m7 =>
                        UnAgg v fun l =>
                        UnCons l fun v l =>
                        UnI v .u64 fun x37_0 =>
                        UnCons l fun v l =>
                        UnI v .u64 fun x37_1 =>
                        UnCons l fun v l =>
                        UnI v .u64 fun x37_2 =>
                        UnCons l fun v l =>
                        UnI v .u64 fun x37_3 =>
                        UnNil l (
                        Lk r6 m7 fun r8 =>
                        HC P class_Or.id #[.agg #[.int .u64 x34_0, .int .u64 x34_1, .int .u64 x34_2, .int .u64 x34_3], .agg #[.int .u64 x37_0, .int .u64 x37_1, .int .u64 x37_2, .int .u64 x37_3]] m7 (Cont (fun v m9 =>
                        UnAgg v fun l =>
                        UnCons l fun v l =>
                        UnI v .u64 fun x38_0 =>
                        UnCons l fun v l =>
                        UnI v .u64 fun x38_1 =>
                        UnCons l fun v l =>
                        UnI v .u64 fun x38_2 =>
                        UnCons l fun v l =>
                        UnI v .u64 fun x38_3 =>
                        UnNil l (
                        Lk r8 m9 fun r10 =>
                        Kk3 a_3b a_3o b_4b b_4o x6 (eqL [.int .u64 x31_0, .int .u64 x31_1, .int .u64 x31_2, .int .u64 x31_3] [.int .u64 x38_0, .int .u64 x38_1, .int .u64 x38_2, .int .u64 x38_3])  r10 m9)) (panicR R)))) (panicR R)))) (panicR R)))) (panicR R)))) (panicR R))) (
    Kk3 a_3b a_3o b_4b b_4o x6 false  r m)
def k1E (K : Nat → Nat → Nat → Nat → Nat → Nat → Bool → Bool → Mem → Mem → Prop) : Mem → Env → Mem → Prop := fun r ρ m => UnPA (ρ 3) fun a_3b a_3o => UnPA (ρ 4) fun b_4b b_4o => UnPA (ρ 5) fun c_5b c_5o => UnB (ρ 6) fun x6 => UnB (ρ 14) fun x14 => K a_3b a_3o b_4b b_4o c_5b c_5o x6 x14 r m
def k1  (a_3b : Nat) (a_3o : Nat) (b_4b : Nat) (b_4o : Nat) (c_5b : Nat) (c_5o : Nat) (x6 : Bool) (x14 : Bool) (R : Ending → Mem → Prop) (r m : Mem) : Prop :=
  Br x14 (
    LdV r a_3b a_3o fun v =>
    UnI v .u64 fun x15_0 =>
    LdV r a_3b (a_3o + 1) fun v =>
    UnI v .u64 fun x15_1 =>
    LdV r a_3b (a_3o + 2) fun v =>
    UnI v .u64 fun x15_2 =>
    LdV r a_3b (a_3o + 3) fun v =>
    UnI v .u64 fun x15_3 =>
    LdV r b_4b b_4o fun v =>
    UnI v .u64 fun x16_0 =>
    LdV r b_4b (b_4o + 1) fun v =>
    UnI v .u64 fun x16_1 =>
    LdV r b_4b (b_4o + 2) fun v =>
    UnI v .u64 fun x16_2 =>
    LdV r b_4b (b_4o + 3) fun v =>
    UnI v .u64 fun x16_3 =>
    LdV r a_3b a_3o fun v =>
    UnI v .u64 fun x19_0 =>
    LdV r a_3b (a_3o + 1) fun v =>
    UnI v .u64 fun x19_1 =>
    LdV r a_3b (a_3o + 2) fun v =>
    UnI v .u64 fun x19_2 =>
    LdV r a_3b (a_3o + 3) fun v =>
    UnI v .u64 fun x19_3 =>
    LdV r b_4b b_4o fun v =>
    UnI v .u64 fun x21_0 =>
    LdV r b_4b (b_4o + 1) fun v =>
    UnI v .u64 fun x21_1 =>
    LdV r b_4b (b_4o + 2) fun v =>
    UnI v .u64 fun x21_2 =>
    LdV r b_4b (b_4o + 3) fun v =>
    UnI v .u64 fun x21_3 =>
    HC P class_Or.id #[.agg #[.int .u64 x15_0, .int .u64 x15_1, .int .u64 x15_2, .int .u64 x15_3], .agg #[.int .u64 x16_0, .int .u64 x16_1, .int .u64 x16_2, .int .u64 x16_3]] m (Cont (fun v m1 =>
        UnAgg v fun l =>
        UnCons l fun v l =>
        UnI v .u64 fun x17_0 =>
        UnCons l fun v l =>
        UnI v .u64 fun x17_1 =>
        UnCons l fun v l =>
        UnI v .u64 fun x17_2 =>
        UnCons l fun v l =>
        UnI v .u64 fun x17_3 =>
        UnNil l (
          Lk r m1 fun r2 =>
          HC P class_Not.id #[.agg #[.int .u64 x17_0, .int .u64 x17_1, .int .u64 x17_2, .int .u64 x17_3]] m1 (Cont (fun v m3 =>
              UnAgg v fun l =>
              UnCons l fun v l =>
              UnI v .u64 fun x18_0 =>
              UnCons l fun v l =>
              UnI v .u64 fun x18_1 =>
              UnCons l fun v l =>
              UnI v .u64 fun x18_2 =>
              UnCons l fun v l =>
              UnI v .u64 fun x18_3 =>
              UnNil l (
                Lk r2 m3 fun r4 =>
                HC P class_Not.id #[.agg #[.int .u64 x19_0, .int .u64 x19_1, .int .u64 x19_2, .int .u64 x19_3]] m3 (Cont (fun v m5 =>
                    UnAgg v fun l =>
                    UnCons l fun v l =>
                    UnI v .u64 fun x20_0 =>
                    UnCons l fun v l =>
                    UnI v .u64 fun x20_1 =>
                    UnCons l fun v l =>
                    UnI v .u64 fun x20_2 =>
                    UnCons l fun v l =>
                    UnI v .u64 fun x20_3 =>
                    UnNil l (
                      Lk r4 m5 fun r6 =>
                      HC P class_Not.id #[.agg #[.int .u64 x21_0, .int .u64 x21_1, .int .u64 x21_2, .int .u64 x21_3]] m5 (Cont (fun v m7 =>
                        UnAgg v fun l =>
                        UnCons l fun v l =>
                        UnI v .u64 fun x22_0 =>
                        UnCons l fun v l =>
                        UnI v .u64 fun x22_1 =>
                        UnCons l fun v l =>
                        UnI v .u64 fun x22_2 =>
                        UnCons l fun v l =>
                        UnI v .u64 fun x22_3 =>
                        UnNil l (
                        Lk r6 m7 fun r8 =>
                        HC P class_And.id #[.agg #[.int .u64 x20_0, .int .u64 x20_1, .int .u64 x20_2, .int .u64 x20_3], .agg #[.int .u64 x22_0, .int .u64 x22_1, .int .u64 x22_2, .int .u64 x22_3]] m7 (Cont (fun v m9 =>
                        UnAgg v fun l =>
                        UnCons l fun v l =>
                        UnI v .u64 fun x23_0 =>
                        UnCons l fun v l =>
                        UnI v .u64 fun x23_1 =>
                        UnCons l fun v l =>
                        UnI v .u64 fun x23_2 =>
                        UnCons l fun v l =>
                        UnI v .u64 fun x23_3 =>
                        UnNil l (
                        Lk r8 m9 fun r10 =>
                        k2  a_3b a_3o b_4b b_4o c_5b c_5o x6 (eqL [.int .u64 x18_0, .int .u64 x18_1, .int .u64 x18_2, .int .u64 x18_3] [.int .u64 x23_0, .int .u64 x23_1, .int .u64 x23_2, .int .u64 x23_3]) R r10 m9)) (panicR R)))) (panicR R)))) (panicR R)))) (panicR R)))) (panicR R))) (
    k2  a_3b a_3o b_4b b_4o c_5b c_5o x6 false R r m)
def k1G (Kk2 : Nat → Nat → Nat → Nat → Nat → Nat → Bool → Bool → Mem → Mem → Prop)  (a_3b : Nat) (a_3o : Nat) (b_4b : Nat) (b_4o : Nat) (c_5b : Nat) (c_5o : Nat) (x6 : Bool) (x14 : Bool) (R : Ending → Mem → Prop) (r m : Mem) : Prop :=
  Br x14 (
    LdV r a_3b a_3o fun v =>
    UnI v .u64 fun x15_0 =>
    LdV r a_3b (a_3o + 1) fun v =>
    UnI v .u64 fun x15_1 =>
    LdV r a_3b (a_3o + 2) fun v =>
    UnI v .u64 fun x15_2 =>
    LdV r a_3b (a_3o + 3) fun v =>
    UnI v .u64 fun x15_3 =>
    LdV r b_4b b_4o fun v =>
    UnI v .u64 fun x16_0 =>
    LdV r b_4b (b_4o + 1) fun v =>
    UnI v .u64 fun x16_1 =>
    LdV r b_4b (b_4o + 2) fun v =>
    UnI v .u64 fun x16_2 =>
    LdV r b_4b (b_4o + 3) fun v =>
    UnI v .u64 fun x16_3 =>
    LdV r a_3b a_3o fun v =>
    UnI v .u64 fun x19_0 =>
    LdV r a_3b (a_3o + 1) fun v =>
    UnI v .u64 fun x19_1 =>
    LdV r a_3b (a_3o + 2) fun v =>
    UnI v .u64 fun x19_2 =>
    LdV r a_3b (a_3o + 3) fun v =>
    UnI v .u64 fun x19_3 =>
    LdV r b_4b b_4o fun v =>
    UnI v .u64 fun x21_0 =>
    LdV r b_4b (b_4o + 1) fun v =>
    UnI v .u64 fun x21_1 =>
    LdV r b_4b (b_4o + 2) fun v =>
    UnI v .u64 fun x21_2 =>
    LdV r b_4b (b_4o + 3) fun v =>
    UnI v .u64 fun x21_3 =>
    HC P class_Or.id #[.agg #[.int .u64 x15_0, .int .u64 x15_1, .int .u64 x15_2, .int .u64 x15_3], .agg #[.int .u64 x16_0, .int .u64 x16_1, .int .u64 x16_2, .int .u64 x16_3]] m (Cont (fun v m1 =>
        UnAgg v fun l =>
        UnCons l fun v l =>
        UnI v .u64 fun x17_0 =>
        UnCons l fun v l =>
        UnI v .u64 fun x17_1 =>
        UnCons l fun v l =>
        UnI v .u64 fun x17_2 =>
        UnCons l fun v l =>
        UnI v .u64 fun x17_3 =>
        UnNil l (
          Lk r m1 fun r2 =>
          HC P class_Not.id #[.agg #[.int .u64 x17_0, .int .u64 x17_1, .int .u64 x17_2, .int .u64 x17_3]] m1 (Cont (fun v m3 =>
              UnAgg v fun l =>
              UnCons l fun v l =>
              UnI v .u64 fun x18_0 =>
              UnCons l fun v l =>
              UnI v .u64 fun x18_1 =>
              UnCons l fun v l =>
              UnI v .u64 fun x18_2 =>
              UnCons l fun v l =>
              UnI v .u64 fun x18_3 =>
              UnNil l (
                Lk r2 m3 fun r4 =>
                HC P class_Not.id #[.agg #[.int .u64 x19_0, .int .u64 x19_1, .int .u64 x19_2, .int .u64 x19_3]] m3 (Cont (fun v m5 =>
                    UnAgg v fun l =>
                    UnCons l fun v l =>
                    UnI v .u64 fun x20_0 =>
                    UnCons l fun v l =>
                    UnI v .u64 fun x20_1 =>
                    UnCons l fun v l =>
                    UnI v .u64 fun x20_2 =>
                    UnCons l fun v l =>
                    UnI v .u64 fun x20_3 =>
                    UnNil l (
                      Lk r4 m5 fun r6 =>
                      HC P class_Not.id #[.agg #[.int .u64 x21_0, .int .u64 x21_1, .int .u64 x21_2, .int .u64 x21_3]] m5 (Cont (fun v m7 =>
                        UnAgg v fun l =>
                        UnCons l fun v l =>
                        UnI v .u64 fun x22_0 =>
                        UnCons l fun v l =>
                        UnI v .u64 fun x22_1 =>
                        UnCons l fun v l =>
                        UnI v .u64 fun x22_2 =>
                        UnCons l fun v l =>
                        UnI v .u64 fun x22_3 =>
                        UnNil l (
                        Lk r6 m7 fun r8 =>
                        HC P class_And.id #[.agg #[.int .u64 x20_0, .int .u64 x20_1, .int .u64 x20_2, .int .u64 x20_3], .agg #[.int .u64 x22_0, .int .u64 x22_1, .int .u64 x22_2, .int .u64 x22_3]] m7 (Cont (fun v m9 =>
                        UnAgg v fun l =>
                        UnCons l fun v l =>
                        UnI v .u64 fun x23_0 =>
                        UnCons l fun v l =>
                        UnI v .u64 fun x23_1 =>
                        UnCons l fun v l =>
                        UnI v .u64 fun x23_2 =>
                        UnCons l fun v l =>
                        UnI v .u64 fun x23_3 =>
                        UnNil l (
                        Lk r8 m9 fun r10 =>
                        Kk2 a_3b a_3o b_4b b_4o c_5b c_5o x6 (eqL [.int .u64 x18_0, .int .u64 x18_1, .int .u64 x18_2, .int .u64 x18_3] [.int .u64 x23_0, .int .u64 x23_1, .int .u64 x23_2, .int .u64 x23_3])  r10 m9)) (panicR R)))) (panicR R)))) (panicR R)))) (panicR R)))) (panicR R))) (
    Kk2 a_3b a_3o b_4b b_4o c_5b c_5o x6 false  r m)
def e0 (a_0_0 : Int) (a_0_1 : Int) (a_0_2 : Int) (a_0_3 : Int) (b_1_0 : Int) (b_1_1 : Int) (b_1_2 : Int) (b_1_3 : Int) (c_2_0 : Int) (c_2_1 : Int) (c_2_2 : Int) (c_2_3 : Int) (R : Ending → Mem → Prop) (m : Mem) : Prop :=
  NewC m #[.int .u64 a_0_0, .int .u64 a_0_1, .int .u64 a_0_2, .int .u64 a_0_3] T_api_Set fun b_a_3 m1 =>
  NewC m1 #[.int .u64 b_1_0, .int .u64 b_1_1, .int .u64 b_1_2, .int .u64 b_1_3] T_api_Set fun b_4 m2 =>
  NewC m2 #[.int .u64 c_2_0, .int .u64 c_2_1, .int .u64 c_2_2, .int .u64 c_2_3] T_api_Set fun b_c_5 m3 =>
  HC P eyotlaw8_begun.id #[] m3 (Cont (fun v m4 =>
      UnB v fun x7 =>
      Br (!x7) (
        R (.returned (.bool false)) m4) (
        Sub m4 fun r5 =>
        LdV r5 b_a_3 0 fun v =>
        UnI v .u64 fun x9_0 =>
        LdV r5 b_a_3 1 fun v =>
        UnI v .u64 fun x9_1 =>
        LdV r5 b_a_3 2 fun v =>
        UnI v .u64 fun x9_2 =>
        LdV r5 b_a_3 3 fun v =>
        UnI v .u64 fun x9_3 =>
        LdV r5 b_a_3 0 fun v =>
        UnI v .u64 fun x12_0 =>
        LdV r5 b_a_3 1 fun v =>
        UnI v .u64 fun x12_1 =>
        LdV r5 b_a_3 2 fun v =>
        UnI v .u64 fun x12_2 =>
        LdV r5 b_a_3 3 fun v =>
        UnI v .u64 fun x12_3 =>
        HC P class_Not.id #[.agg #[.int .u64 x9_0, .int .u64 x9_1, .int .u64 x9_2, .int .u64 x9_3]] m4 (Cont (fun v m6 =>
            UnAgg v fun l =>
            UnCons l fun v l =>
            UnI v .u64 fun x10_0 =>
            UnCons l fun v l =>
            UnI v .u64 fun x10_1 =>
            UnCons l fun v l =>
            UnI v .u64 fun x10_2 =>
            UnCons l fun v l =>
            UnI v .u64 fun x10_3 =>
            UnNil l (
              Lk r5 m6 fun r7 =>
              HC P class_Not.id #[.agg #[.int .u64 x10_0, .int .u64 x10_1, .int .u64 x10_2, .int .u64 x10_3]] m6 (Cont (fun v m8 =>
                  UnAgg v fun l =>
                  UnCons l fun v l =>
                  UnI v .u64 fun x11_0 =>
                  UnCons l fun v l =>
                  UnI v .u64 fun x11_1 =>
                  UnCons l fun v l =>
                  UnI v .u64 fun x11_2 =>
                  UnCons l fun v l =>
                  UnI v .u64 fun x11_3 =>
                  UnNil l (
                    Lk r7 m8 fun r9 =>
                    k1  b_a_3 0 b_4 0 b_c_5 0 false (eqL [.int .u64 x11_0, .int .u64 x11_1, .int .u64 x11_2, .int .u64 x11_3] [.int .u64 x12_0, .int .u64 x12_1, .int .u64 x12_2, .int .u64 x12_3]) R r9 m8)) (panicR R)))) (panicR R)))) (panicR R))
def e0G (Kk1 : Nat → Nat → Nat → Nat → Nat → Nat → Bool → Bool → Mem → Mem → Prop) (a_0_0 : Int) (a_0_1 : Int) (a_0_2 : Int) (a_0_3 : Int) (b_1_0 : Int) (b_1_1 : Int) (b_1_2 : Int) (b_1_3 : Int) (c_2_0 : Int) (c_2_1 : Int) (c_2_2 : Int) (c_2_3 : Int) (R : Ending → Mem → Prop) (m : Mem) : Prop :=
  NewC m #[.int .u64 a_0_0, .int .u64 a_0_1, .int .u64 a_0_2, .int .u64 a_0_3] T_api_Set fun b_a_3 m1 =>
  NewC m1 #[.int .u64 b_1_0, .int .u64 b_1_1, .int .u64 b_1_2, .int .u64 b_1_3] T_api_Set fun b_4 m2 =>
  NewC m2 #[.int .u64 c_2_0, .int .u64 c_2_1, .int .u64 c_2_2, .int .u64 c_2_3] T_api_Set fun b_c_5 m3 =>
  HC P eyotlaw8_begun.id #[] m3 (Cont (fun v m4 =>
      UnB v fun x7 =>
      Br (!x7) (
        R (.returned (.bool false)) m4) (
        Sub m4 fun r5 =>
        LdV r5 b_a_3 0 fun v =>
        UnI v .u64 fun x9_0 =>
        LdV r5 b_a_3 1 fun v =>
        UnI v .u64 fun x9_1 =>
        LdV r5 b_a_3 2 fun v =>
        UnI v .u64 fun x9_2 =>
        LdV r5 b_a_3 3 fun v =>
        UnI v .u64 fun x9_3 =>
        LdV r5 b_a_3 0 fun v =>
        UnI v .u64 fun x12_0 =>
        LdV r5 b_a_3 1 fun v =>
        UnI v .u64 fun x12_1 =>
        LdV r5 b_a_3 2 fun v =>
        UnI v .u64 fun x12_2 =>
        LdV r5 b_a_3 3 fun v =>
        UnI v .u64 fun x12_3 =>
        HC P class_Not.id #[.agg #[.int .u64 x9_0, .int .u64 x9_1, .int .u64 x9_2, .int .u64 x9_3]] m4 (Cont (fun v m6 =>
            UnAgg v fun l =>
            UnCons l fun v l =>
            UnI v .u64 fun x10_0 =>
            UnCons l fun v l =>
            UnI v .u64 fun x10_1 =>
            UnCons l fun v l =>
            UnI v .u64 fun x10_2 =>
            UnCons l fun v l =>
            UnI v .u64 fun x10_3 =>
            UnNil l (
              Lk r5 m6 fun r7 =>
              HC P class_Not.id #[.agg #[.int .u64 x10_0, .int .u64 x10_1, .int .u64 x10_2, .int .u64 x10_3]] m6 (Cont (fun v m8 =>
                  UnAgg v fun l =>
                  UnCons l fun v l =>
                  UnI v .u64 fun x11_0 =>
                  UnCons l fun v l =>
                  UnI v .u64 fun x11_1 =>
                  UnCons l fun v l =>
                  UnI v .u64 fun x11_2 =>
                  UnCons l fun v l =>
                  UnI v .u64 fun x11_3 =>
                  UnNil l (
                    Lk r7 m8 fun r9 =>
                    Kk1 b_a_3 0 b_4 0 b_c_5 0 false (eqL [.int .u64 x11_0, .int .u64 x11_1, .int .u64 x11_2, .int .u64 x11_3] [.int .u64 x12_0, .int .u64 x12_1, .int .u64 x12_2, .int .u64 x12_3])  r9 m8)) (panicR R)))) (panicR R)))) (panicR R))
noncomputable def e0A (R : Ending → Mem → Prop) : ACode := (.seq (.code (sL (body))) (.seq (.code (sL (sR (body)))) (.seq (.draw 3 (rgOps (sL (sR (sR (body))))) 6 (k1E fun a_3b a_3o b_4b b_4o c_5b c_5o x6 x14 r m => k1  a_3b a_3o b_4b b_4o c_5b c_5o x6 x14 R r m)) (.code (sR (sR (sR (body))))))))
theorem k4_eq  (R : Ending → Mem → Prop) (a_3b : Nat) (a_3o : Nat) (x6 : Bool) (x50 : Bool) (r : Mem) (ρ : Env) (m : Mem) : k4  a_3b a_3o x6 x50 R r m = hdraw P (rgOps (sL (sR (sR (body))))) ((thenQ (acpt P od (panicR R) (.code (sR (sR (sR (body))))) (bodyQ P fn R)) (bodyQ P fn R)) .normal) (panicR R) (dropO 42 (od 3)) r (upd (upd (upd ρ 50 (.bool x50)) 6 (.bool x6)) 3 (.pointer (some ⟨a_3b, a_3o, none⟩))) m := by kernel_rfl
theorem k4_ok  (R : Ending → Mem → Prop) (r : Mem) (ρ : Env) (m : Mem) (h : (k4E fun a_3b a_3o x6 x50 r m => k4  a_3b a_3o x6 x50 R r m) r ρ m) : hdraw P (rgOps (sL (sR (sR (body))))) ((thenQ (acpt P od (panicR R) (.code (sR (sR (sR (body))))) (bodyQ P fn R)) (bodyQ P fn R)) .normal) (panicR R) (dropO 42 (od 3)) r ρ m := by
  unfold k4E at h
  obtain ⟨a_3b, a_3o, e3, h⟩ := h.ex
  obtain ⟨x6, e6, h⟩ := h.ex
  obtain ⟨x50, e50, h⟩ := h.ex
  rw [← upd_self e3, ← upd_self e6, ← upd_self e50]
  exact Eq.mp (k4_eq  R a_3b a_3o x6 x50 r ρ m) h
theorem k3_eqG (Kk4 : Nat → Nat → Bool → Bool → Mem → Mem → Prop)  (R : Ending → Mem → Prop) (a_3b : Nat) (a_3o : Nat) (b_4b : Nat) (b_4o : Nat) (x6 : Bool) (x41 : Bool) (r : Mem) (ρ : Env) (m : Mem) : k3G Kk4  a_3b a_3o b_4b b_4o x6 x41 R r m = hcut P (rgOps (sL (sR (sR (body))))) (k4E Kk4) (panicR R) 9 (dropO 33 (od 3)) r (upd (upd (upd (upd ρ 41 (.bool x41)) 6 (.bool x6)) 4 (.pointer (some ⟨b_4b, b_4o, none⟩))) 3 (.pointer (some ⟨a_3b, a_3o, none⟩))) m := by kernel_rfl
theorem k3_eq  (R : Ending → Mem → Prop) (a_3b : Nat) (a_3o : Nat) (b_4b : Nat) (b_4o : Nat) (x6 : Bool) (x41 : Bool) (r : Mem) (ρ : Env) (m : Mem) : k3  a_3b a_3o b_4b b_4o x6 x41 R r m = hcut P (rgOps (sL (sR (sR (body))))) (k4E fun a_3b a_3o x6 x50 r m => k4  a_3b a_3o x6 x50 R r m) (panicR R) 9 (dropO 33 (od 3)) r (upd (upd (upd (upd ρ 41 (.bool x41)) 6 (.bool x6)) 4 (.pointer (some ⟨b_4b, b_4o, none⟩))) 3 (.pointer (some ⟨a_3b, a_3o, none⟩))) m := by
  have h1 : k3  a_3b a_3o b_4b b_4o x6 x41 R r m = k3G (fun a_3b a_3o x6 x50 r m => k4  a_3b a_3o x6 x50 R r m)  a_3b a_3o b_4b b_4o x6 x41 R r m := by kernel_rfl
  exact h1.trans (k3_eqG (fun a_3b a_3o x6 x50 r m => k4  a_3b a_3o x6 x50 R r m)  R a_3b a_3o b_4b b_4o x6 x41 r ρ m)
theorem k3_ok  (R : Ending → Mem → Prop) (r : Mem) (ρ : Env) (m : Mem) (h : (k3E fun a_3b a_3o b_4b b_4o x6 x41 r m => k3  a_3b a_3o b_4b b_4o x6 x41 R r m) r ρ m) : hdraw P (rgOps (sL (sR (sR (body))))) ((thenQ (acpt P od (panicR R) (.code (sR (sR (sR (body))))) (bodyQ P fn R)) (bodyQ P fn R)) .normal) (panicR R) (dropO 33 (od 3)) r ρ m := by
  unfold k3E at h
  obtain ⟨a_3b, a_3o, e3, h⟩ := h.ex
  obtain ⟨b_4b, b_4o, e4, h⟩ := h.ex
  obtain ⟨x6, e6, h⟩ := h.ex
  obtain ⟨x41, e41, h⟩ := h.ex
  rw [← upd_self e3, ← upd_self e4, ← upd_self e6, ← upd_self e41]
  refine hcut_sound (P := P) (p := 9) (π := (dropO 33 (od 3))) (π2 := dropO 42 (od 3)) (by kernel_rfl) (fun r ρ m h => k4_ok  R r ρ m h) ?_
  exact Eq.mp (k3_eq  R a_3b a_3o b_4b b_4o x6 x41 r ρ m) h
theorem k2_eqG (Kk3 : Nat → Nat → Nat → Nat → Bool → Bool → Mem → Mem → Prop)  (R : Ending → Mem → Prop) (a_3b : Nat) (a_3o : Nat) (b_4b : Nat) (b_4o : Nat) (c_5b : Nat) (c_5o : Nat) (x6 : Bool) (x26 : Bool) (r : Mem) (ρ : Env) (m : Mem) : k2G Kk3  a_3b a_3o b_4b b_4o c_5b c_5o x6 x26 R r m = hcut P (rgOps (sL (sR (sR (body))))) (k3E Kk3) (panicR R) 15 (dropO 18 (od 3)) r (upd (upd (upd (upd (upd ρ 26 (.bool x26)) 6 (.bool x6)) 5 (.pointer (some ⟨c_5b, c_5o, none⟩))) 4 (.pointer (some ⟨b_4b, b_4o, none⟩))) 3 (.pointer (some ⟨a_3b, a_3o, none⟩))) m := by kernel_rfl
theorem k2_eq  (R : Ending → Mem → Prop) (a_3b : Nat) (a_3o : Nat) (b_4b : Nat) (b_4o : Nat) (c_5b : Nat) (c_5o : Nat) (x6 : Bool) (x26 : Bool) (r : Mem) (ρ : Env) (m : Mem) : k2  a_3b a_3o b_4b b_4o c_5b c_5o x6 x26 R r m = hcut P (rgOps (sL (sR (sR (body))))) (k3E fun a_3b a_3o b_4b b_4o x6 x41 r m => k3  a_3b a_3o b_4b b_4o x6 x41 R r m) (panicR R) 15 (dropO 18 (od 3)) r (upd (upd (upd (upd (upd ρ 26 (.bool x26)) 6 (.bool x6)) 5 (.pointer (some ⟨c_5b, c_5o, none⟩))) 4 (.pointer (some ⟨b_4b, b_4o, none⟩))) 3 (.pointer (some ⟨a_3b, a_3o, none⟩))) m := by
  have h1 : k2  a_3b a_3o b_4b b_4o c_5b c_5o x6 x26 R r m = k2G (fun a_3b a_3o b_4b b_4o x6 x41 r m => k3  a_3b a_3o b_4b b_4o x6 x41 R r m)  a_3b a_3o b_4b b_4o c_5b c_5o x6 x26 R r m := by kernel_rfl
  exact h1.trans (k2_eqG (fun a_3b a_3o b_4b b_4o x6 x41 r m => k3  a_3b a_3o b_4b b_4o x6 x41 R r m)  R a_3b a_3o b_4b b_4o c_5b c_5o x6 x26 r ρ m)
theorem k2_ok  (R : Ending → Mem → Prop) (r : Mem) (ρ : Env) (m : Mem) (h : (k2E fun a_3b a_3o b_4b b_4o c_5b c_5o x6 x26 r m => k2  a_3b a_3o b_4b b_4o c_5b c_5o x6 x26 R r m) r ρ m) : hdraw P (rgOps (sL (sR (sR (body))))) ((thenQ (acpt P od (panicR R) (.code (sR (sR (sR (body))))) (bodyQ P fn R)) (bodyQ P fn R)) .normal) (panicR R) (dropO 18 (od 3)) r ρ m := by
  unfold k2E at h
  obtain ⟨a_3b, a_3o, e3, h⟩ := h.ex
  obtain ⟨b_4b, b_4o, e4, h⟩ := h.ex
  obtain ⟨c_5b, c_5o, e5, h⟩ := h.ex
  obtain ⟨x6, e6, h⟩ := h.ex
  obtain ⟨x26, e26, h⟩ := h.ex
  rw [← upd_self e3, ← upd_self e4, ← upd_self e5, ← upd_self e6, ← upd_self e26]
  refine hcut_sound (P := P) (p := 15) (π := (dropO 18 (od 3))) (π2 := dropO 33 (od 3)) (by kernel_rfl) (fun r ρ m h => k3_ok  R r ρ m h) ?_
  exact Eq.mp (k2_eq  R a_3b a_3o b_4b b_4o c_5b c_5o x6 x26 r ρ m) h
theorem k1_eqG (Kk2 : Nat → Nat → Nat → Nat → Nat → Nat → Bool → Bool → Mem → Mem → Prop)  (R : Ending → Mem → Prop) (a_3b : Nat) (a_3o : Nat) (b_4b : Nat) (b_4o : Nat) (c_5b : Nat) (c_5o : Nat) (x6 : Bool) (x14 : Bool) (r : Mem) (ρ : Env) (m : Mem) : k1G Kk2  a_3b a_3o b_4b b_4o c_5b c_5o x6 x14 R r m = hcut P (rgOps (sL (sR (sR (body))))) (k2E Kk2) (panicR R) 12 (dropO 6 (od 3)) r (upd (upd (upd (upd (upd ρ 14 (.bool x14)) 6 (.bool x6)) 5 (.pointer (some ⟨c_5b, c_5o, none⟩))) 4 (.pointer (some ⟨b_4b, b_4o, none⟩))) 3 (.pointer (some ⟨a_3b, a_3o, none⟩))) m := by kernel_rfl
theorem k1_eq  (R : Ending → Mem → Prop) (a_3b : Nat) (a_3o : Nat) (b_4b : Nat) (b_4o : Nat) (c_5b : Nat) (c_5o : Nat) (x6 : Bool) (x14 : Bool) (r : Mem) (ρ : Env) (m : Mem) : k1  a_3b a_3o b_4b b_4o c_5b c_5o x6 x14 R r m = hcut P (rgOps (sL (sR (sR (body))))) (k2E fun a_3b a_3o b_4b b_4o c_5b c_5o x6 x26 r m => k2  a_3b a_3o b_4b b_4o c_5b c_5o x6 x26 R r m) (panicR R) 12 (dropO 6 (od 3)) r (upd (upd (upd (upd (upd ρ 14 (.bool x14)) 6 (.bool x6)) 5 (.pointer (some ⟨c_5b, c_5o, none⟩))) 4 (.pointer (some ⟨b_4b, b_4o, none⟩))) 3 (.pointer (some ⟨a_3b, a_3o, none⟩))) m := by
  have h1 : k1  a_3b a_3o b_4b b_4o c_5b c_5o x6 x14 R r m = k1G (fun a_3b a_3o b_4b b_4o c_5b c_5o x6 x26 r m => k2  a_3b a_3o b_4b b_4o c_5b c_5o x6 x26 R r m)  a_3b a_3o b_4b b_4o c_5b c_5o x6 x14 R r m := by kernel_rfl
  exact h1.trans (k1_eqG (fun a_3b a_3o b_4b b_4o c_5b c_5o x6 x26 r m => k2  a_3b a_3o b_4b b_4o c_5b c_5o x6 x26 R r m)  R a_3b a_3o b_4b b_4o c_5b c_5o x6 x14 r ρ m)
theorem k1_ok  (R : Ending → Mem → Prop) (r : Mem) (ρ : Env) (m : Mem) (h : (k1E fun a_3b a_3o b_4b b_4o c_5b c_5o x6 x14 r m => k1  a_3b a_3o b_4b b_4o c_5b c_5o x6 x14 R r m) r ρ m) : hdraw P (rgOps (sL (sR (sR (body))))) ((thenQ (acpt P od (panicR R) (.code (sR (sR (sR (body))))) (bodyQ P fn R)) (bodyQ P fn R)) .normal) (panicR R) (dropO 6 (od 3)) r ρ m := by
  unfold k1E at h
  obtain ⟨a_3b, a_3o, e3, h⟩ := h.ex
  obtain ⟨b_4b, b_4o, e4, h⟩ := h.ex
  obtain ⟨c_5b, c_5o, e5, h⟩ := h.ex
  obtain ⟨x6, e6, h⟩ := h.ex
  obtain ⟨x14, e14, h⟩ := h.ex
  rw [← upd_self e3, ← upd_self e4, ← upd_self e5, ← upd_self e6, ← upd_self e14]
  refine hcut_sound (P := P) (p := 12) (π := (dropO 6 (od 3))) (π2 := dropO 18 (od 3)) (by kernel_rfl) (fun r ρ m h => k2_ok  R r ρ m h) ?_
  exact Eq.mp (k1_eq  R a_3b a_3o b_4b b_4o c_5b c_5o x6 x14 r ρ m) h
theorem e0_eqG (Kk1 : Nat → Nat → Nat → Nat → Nat → Nat → Bool → Bool → Mem → Mem → Prop) (a_0_0 : Int) (a_0_1 : Int) (a_0_2 : Int) (a_0_3 : Int) (b_1_0 : Int) (b_1_1 : Int) (b_1_2 : Int) (b_1_3 : Int) (c_2_0 : Int) (c_2_1 : Int) (c_2_2 : Int) (c_2_3 : Int) (R : Ending → Mem → Prop) (m : Mem) : e0G Kk1 a_0_0 a_0_1 a_0_2 a_0_3 b_1_0 b_1_1 b_1_2 b_1_3 c_2_0 c_2_1 c_2_2 c_2_3 R m = acpt P od (panicR R) (.seq (.code (sL (body))) (.seq (.code (sL (sR (body)))) (.seq (.draw 3 (rgOps (sL (sR (sR (body))))) 6 (k1E Kk1)) (.code (sR (sR (sR (body)))))))) (bodyQ P fn R) (argE (#[.agg #[.int .u64 a_0_0, .int .u64 a_0_1, .int .u64 a_0_2, .int .u64 a_0_3], .agg #[.int .u64 b_1_0, .int .u64 b_1_1, .int .u64 b_1_2, .int .u64 b_1_3], .agg #[.int .u64 c_2_0, .int .u64 c_2_1, .int .u64 c_2_2, .int .u64 c_2_3]] : Array Value).toList) m := by kernel_rfl
theorem e0_eq (a_0_0 : Int) (a_0_1 : Int) (a_0_2 : Int) (a_0_3 : Int) (b_1_0 : Int) (b_1_1 : Int) (b_1_2 : Int) (b_1_3 : Int) (c_2_0 : Int) (c_2_1 : Int) (c_2_2 : Int) (c_2_3 : Int) (R : Ending → Mem → Prop) (m : Mem) : e0 a_0_0 a_0_1 a_0_2 a_0_3 b_1_0 b_1_1 b_1_2 b_1_3 c_2_0 c_2_1 c_2_2 c_2_3 R m = acpt P od (panicR R) (e0A R) (bodyQ P fn R) (argE (#[.agg #[.int .u64 a_0_0, .int .u64 a_0_1, .int .u64 a_0_2, .int .u64 a_0_3], .agg #[.int .u64 b_1_0, .int .u64 b_1_1, .int .u64 b_1_2, .int .u64 b_1_3], .agg #[.int .u64 c_2_0, .int .u64 c_2_1, .int .u64 c_2_2, .int .u64 c_2_3]] : Array Value).toList) m := by
  have h1 : e0 a_0_0 a_0_1 a_0_2 a_0_3 b_1_0 b_1_1 b_1_2 b_1_3 c_2_0 c_2_1 c_2_2 c_2_3 R m = e0G (fun a_3b a_3o b_4b b_4o c_5b c_5o x6 x14 r m => k1  a_3b a_3o b_4b b_4o c_5b c_5o x6 x14 R r m) a_0_0 a_0_1 a_0_2 a_0_3 b_1_0 b_1_1 b_1_2 b_1_3 c_2_0 c_2_1 c_2_2 c_2_3 R m := by kernel_rfl
  exact h1.trans (e0_eqG (fun a_3b a_3o b_4b b_4o c_5b c_5o x6 x14 r m => k1  a_3b a_3o b_4b b_4o c_5b c_5o x6 x14 R r m) a_0_0 a_0_1 a_0_2 a_0_3 b_1_0 b_1_1 b_1_2 b_1_3 c_2_0 c_2_1 c_2_2 c_2_3 R m)
theorem ok (a_0_0 : Int) (a_0_1 : Int) (a_0_2 : Int) (a_0_3 : Int) (b_1_0 : Int) (b_1_1 : Int) (b_1_2 : Int) (b_1_3 : Int) (c_2_0 : Int) (c_2_1 : Int) (c_2_2 : Int) (c_2_3 : Int) (R : Ending → Mem → Prop) (m : Mem) (h : e0 a_0_0 a_0_1 a_0_2 a_0_3 b_1_0 b_1_1 b_1_2 b_1_3 c_2_0 c_2_1 c_2_2 c_2_3 R m) : HC P id #[.agg #[.int .u64 a_0_0, .int .u64 a_0_1, .int .u64 a_0_2, .int .u64 a_0_3], .agg #[.int .u64 b_1_0, .int .u64 b_1_1, .int .u64 b_1_2, .int .u64 b_1_3], .agg #[.int .u64 c_2_0, .int .u64 c_2_1, .int .u64 c_2_2, .int .u64 c_2_3]] m R := by
  refine HC_of (fn := fn) (c := body) (od := od) (tb := tb) Go.Proofs.Tryd.func9 (by kernel_rfl) (by kernel_rfl) follows (by kernel_rfl) (of_decide_eq_true (by kernel_rfl)) ?_
  have he : (e0A R).erase = body := by kernel_rfl
  rw [← he]
  refine acpt_sound (P := P) (e0A R) _ _ _ ⟨⟨⟨True.intro, (fun r ρ m h => k1_ok  R r ρ m h)⟩, True.intro⟩, True.intro⟩ ?_
  exact Eq.mp (e0_eq a_0_0 a_0_1 a_0_2 a_0_3 b_1_0 b_1_1 b_1_2 b_1_3 c_2_0 c_2_1 c_2_2 c_2_3 R m) h
end eyotlaw8_ClassLaws

/-! ### eyot/eyotlaw8.begun -/
namespace eyotlaw8_begun
noncomputable def fn : Func := Go.Proofs.Tryd.f10
noncomputable def body : Code := fn.body.getD .skip
def od : Nat → Ord := fun | 3 => ordL [(0, 3), (1, 3), (2, 3), (3, 3), (4, 3), (5, 3), (6, 3), (7, 0), (8, 0), (9, 3), (10, 3), (11, 0), (12, 0), (13, 3), (14, 3), (15, 3), (16, 3), (17, 3), (18, 3), (19, 3), (20, 3), (21, 3), (22, 3), (23, 0), (24, 0), (25, 3), (26, 3), (27, 3), (30, 1), (28, 0), (29, 0), (31, 3), (32, 3), (33, 3)] .done | _ => .done
def tb : Nat → Tab := fun | 3 => (0, [0, 1, 3, 7, 15, 31, 63, 127, 255, 511, 1023, 2047, 4095, 8191, 16383, 32767, 65535, 131071, 262143, 524287, 1048575, 2097151, 4194303, 8388607, 16777215, 33554431, 67108863, 134217727, 268435455, 536870911, 268435455, 2147483647, 4294967295, 8589934591], [(0, 8, 17), (1, 65536, 18), (2, 131072, 19), (4, 262148, 20), (12, 786432, 21), (20, 1310720, 22), (36, 2097152, 23), (64, 4194306, 24), (192, 12582912, 25), (320, 20971520, 26), (768, 33554432, 27), (1024, 67108866, 28), (3072, 201326592, 29), (5120, 335544320, 30), (9216, 603979776, 31), (20480, 1073741824, 32), (32768, 2147483680, 33), (98304, 6442450944, 34), (163840, 8589934592, 35), (262144, 17179869200, 36), (786432, 51539607552, 37), (1310720, 85899345920, 38), (2359296, 137438953472, 39), (4194304, 274877906946, 40), (12582912, 824633720832, 41), (20971520, 1374389534720, 42), (37748736, 2473901162496, 43), (83886080, 4398046511104, 44), (134217728, 8796093022208, 45), (402653184, 26388279066624, 46), (134217728, 8796093022210, 47), (1744830464, 114349209288704, 48), (2281701376, 149533581377536, 49), (8589934591, 281474976710656, 1)]) | _ => (0, [], [])
def e0  (R : Ending → Mem → Prop) (m : Mem) : Prop :=
  HC P class_Parse.id #[.string (ByteArray.mk #[91, 97, 45, 99, 93, 120])] m (Cont (fun v m1 =>
      UnTup v fun us0 =>
      UnCons us0 fun w us1 =>
      UnAgg w fun l =>
      UnCons l fun v l =>
      UnI v .u64 fun x7_0_0 =>
      UnCons l fun v l =>
      UnI v .u64 fun x7_0_1 =>
      UnCons l fun v l =>
      UnI v .u64 fun x7_0_2 =>
      UnCons l fun v l =>
      UnI v .u64 fun x7_0_3 =>
      UnNil l (
        UnCons us1 fun w us2 =>
        UnI w .i64 fun x7_1 =>
        UnCons us2 fun w us3 =>
        UnI w .i64 fun x7_2 =>
        UnNil us3 (
          NewC m1 #[.int .u64 0, .int .u64 0, .int .u64 0, .int .u64 0] T_api_Set fun b_s_1 m2 =>
          St1 m2 b_s_1 0 (.int .u64 x7_0_0) fun m3 =>
          St1 m3 b_s_1 1 (.int .u64 x7_0_1) fun m4 =>
          St1 m4 b_s_1 2 (.int .u64 x7_0_2) fun m5 =>
          St1 m5 b_s_1 3 (.int .u64 x7_0_3) fun m6 =>
          LdV m6 b_s_1 0 fun v =>
          UnI v .u64 fun x12_0 =>
          LdV m6 b_s_1 1 fun v =>
          UnI v .u64 fun x12_1 =>
          LdV m6 b_s_1 2 fun v =>
          UnI v .u64 fun x12_2 =>
          LdV m6 b_s_1 3 fun v =>
          UnI v .u64 fun x12_3 =>
          HC P class_Least.id #[.agg #[.int .u64 x12_0, .int .u64 x12_1, .int .u64 x12_2, .int .u64 x12_3]] m6 (Cont (fun v m7 =>
              UnTup v fun us0 =>
              UnCons us0 fun w us1 =>
              UnI w .u8 fun x13_0 =>
              UnCons us1 fun w us2 =>
              UnB w fun x13_1 =>
              UnNil us2 (
                Sub m7 fun r8 =>
                Br (x7_2 == 0) (
                  Br (x7_1 == 5) (
                    LdV m7 b_s_1 0 fun v =>
                    UnI v .u64 fun x23_0 =>
                    LdV m7 b_s_1 1 fun v =>
                    UnI v .u64 fun x23_1 =>
                    LdV m7 b_s_1 2 fun v =>
                    UnI v .u64 fun x23_2 =>
                    LdV m7 b_s_1 3 fun v =>
                    UnI v .u64 fun x23_3 =>
                    HC P class_Has.id #[.agg #[.int .u64 x23_0, .int .u64 x23_1, .int .u64 x23_2, .int .u64 x23_3], .int .u8 98] m7 (Cont (fun v m9 =>
                        UnB v fun x24 =>
                        Lk r8 m9 fun r10 =>
                        Br x24 (
                        LdV m9 b_s_1 0 fun v =>
                        UnI v .u64 fun x27_0 =>
                        LdV m9 b_s_1 1 fun v =>
                        UnI v .u64 fun x27_1 =>
                        LdV m9 b_s_1 2 fun v =>
                        UnI v .u64 fun x27_2 =>
                        LdV m9 b_s_1 3 fun v =>
                        UnI v .u64 fun x27_3 =>
                        HC P class_Has.id #[.agg #[.int .u64 x27_0, .int .u64 x27_1, .int .u64 x27_2, .int .u64 x27_3], .int .u8 100] m9 (Cont (fun v m11 =>
                        UnB v fun x28 =>
                        Lk r10 m11 fun r12 =>
                        Br (!x28) (
                        Br x13_1 (
                        Br (x13_0 == 97) (
                        LdV m11 b_s_1 0 fun v =>
                        UnI v .u64 fun x39_0 =>
                        LdV m11 b_s_1 1 fun v =>
                        UnI v .u64 fun x39_1 =>
                        LdV m11 b_s_1 2 fun v =>
                        UnI v .u64 fun x39_2 =>
                        LdV m11 b_s_1 3 fun v =>
                        UnI v .u64 fun x39_3 =>
                        HC P class_Show.id #[.agg #[.int .u64 x39_0, .int .u64 x39_1, .int .u64 x39_2, .int .u64 x39_3]] m11 (Cont (fun v m13 =>
                        UnStr v fun x40 =>
                        Lk r12 m13 fun r14 =>
                        Br (x40.toList == (ByteArray.mk #[91, 97, 45, 99, 93]).toList) (
                        LdV r14 b_s_1 0 fun v =>
                        UnI v .u64 fun x46_0 =>
                        LdV r14 b_s_1 1 fun v =>
                        UnI v .u64 fun x46_1 =>
                        LdV r14 b_s_1 2 fun v =>
                        UnI v .u64 fun x46_2 =>
                        LdV r14 b_s_1 3 fun v =>
                        UnI v .u64 fun x46_3 =>
                        NewC m13 #[.int .u8 97, .int .u8 98, .int .u8 99] T_uint8 fun b44 m15 =>
                        Lk r14 m15 fun r16 =>
                        HC P class_Of.id #[.slice (some ⟨b44, 0, none⟩) 3 3] m15 (Cont (fun v m17 =>
                        UnAgg v fun l =>
                        UnCons l fun v l =>
                        UnI v .u64 fun x45_0 =>
                        UnCons l fun v l =>
                        UnI v .u64 fun x45_1 =>
                        UnCons l fun v l =>
                        UnI v .u64 fun x45_2 =>
                        UnCons l fun v l =>
                        UnI v .u64 fun x45_3 =>
                        UnNil l (
                        Lk r16 m17 fun r18 =>
                        R (.returned (.bool (eqL [.int .u64 x45_0, .int .u64 x45_1, .int .u64 x45_2, .int .u64 x45_3] [.int .u64 x46_0, .int .u64 x46_1, .int .u64 x46_2, .int .u64 x46_3]))) m17)) (panicR R))) (
                        R (.returned (.bool false)) m13)) (panicR R))) (
                        R (.returned (.bool false)) m11)) (
                        R (.returned (.bool false)) m11)) (
                        R (.returned (.bool false)) m11)) (panicR R))) (
                        R (.returned (.bool false)) m9)) (panicR R))) (
                    R (.returned (.bool false)) m7)) (
                  R (.returned (.bool false)) m7))) (panicR R))))) (panicR R))
noncomputable def e0A (R : Ending → Mem → Prop) : ACode := (.code (body))
theorem e0_eq  (R : Ending → Mem → Prop) (m : Mem) : e0  R m = acpt P od (panicR R) (e0A R) (bodyQ P fn R) (argE (#[] : Array Value).toList) m := by kernel_rfl
theorem ok  (R : Ending → Mem → Prop) (m : Mem) (h : e0  R m) : HC P id #[] m R := by
  refine HC_of (fn := fn) (c := body) (od := od) (tb := tb) Go.Proofs.Tryd.func10 (by kernel_rfl) (by kernel_rfl) follows (by kernel_rfl) (of_decide_eq_true (by kernel_rfl)) ?_
  have he : (e0A R).erase = body := by kernel_rfl
  rw [← he]
  refine acpt_sound (P := P) (e0A R) _ _ _ True.intro ?_
  exact Eq.mp (e0_eq  R m) h
end eyotlaw8_begun

/-! ### eyot/class.Parse -/
namespace class_Parse
noncomputable def fn : Func := Go.Proofs.Tryd.f11
noncomputable def fnR : Func := { fn with results := #[] }
noncomputable def body : Code := sR (sR (fn.body.getD .skip))
def od : Nat → Ord := fun | 7 => ordL [(0, 1), (1, 3), (2, 3), (3, 3), (4, 1), (5, 0), (6, 2), (7, 2)] .done | _ => .done
def tb : Nat → Tab := fun | 7 => (192, [0, 0, 2, 6, 14, 1, 63, 127], [(0, 4, 24), (0, 32, 25), (2, 16777216, 26), (4, 33554432, 27), (8, 67108864, 28), (1, 8388612, 0), (63, 134217736, 0), (127, 16, 0)]) | _ => (0, [], [])
def e0 (s_0 : ByteArray) (d2b : Nat) (d3b : Nat) (d4b : Nat) (R : Ending → Mem → Prop) (m : Mem) : Prop :=
  NewC m #[.string s_0, .int .i64 0] T_class_reader fun b11 m1 =>
  HC P class_reader_class.id #[.pointer (some ⟨b11, 0, none⟩)] m1 (Cont (fun v m2 =>
      UnAgg v fun l =>
      UnCons l fun v l =>
      UnI v .u64 fun x13_0 =>
      UnCons l fun v l =>
      UnI v .u64 fun x13_1 =>
      UnCons l fun v l =>
      UnI v .u64 fun x13_2 =>
      UnCons l fun v l =>
      UnI v .u64 fun x13_3 =>
      UnNil l (
        St1 m2 d2b 0 (.int .u64 x13_0) fun m3 =>
        St1 m3 d2b 1 (.int .u64 x13_1) fun m4 =>
        St1 m4 d2b 2 (.int .u64 x13_2) fun m5 =>
        St1 m5 d2b 3 (.int .u64 x13_3) fun m6 =>
        LdV m6 d2b 0 fun v =>
        UnI v .u64 fun x15_0 =>
        LdV m6 d2b 1 fun v =>
        UnI v .u64 fun x15_1 =>
        LdV m6 d2b 2 fun v =>
        UnI v .u64 fun x15_2 =>
        LdV m6 d2b 3 fun v =>
        UnI v .u64 fun x15_3 =>
        HC P class_Least.id #[.agg #[.int .u64 x15_0, .int .u64 x15_1, .int .u64 x15_2, .int .u64 x15_3]] m6 (Cont (fun v m7 =>
            UnTup v fun us0 =>
            UnCons us0 fun w us1 =>
            UnI w .u8 fun x16_0 =>
            UnCons us1 fun w us2 =>
            UnB w fun x16_1 =>
            UnNil us2 (
              Br (!x16_1) (
                R (.panicked [{ v := .iface T_class_refusal (.agg #[]), recovered := false }]) m7) (
                Sub m7 fun r8 =>
                LdV r8 d2b 0 fun v =>
                UnI v .u64 fun x23_0 =>
                LdV r8 d2b 1 fun v =>
                UnI v .u64 fun x23_1 =>
                LdV r8 d2b 2 fun v =>
                UnI v .u64 fun x23_2 =>
                LdV r8 d2b 3 fun v =>
                UnI v .u64 fun x23_3 =>
                LdV r8 b11 1 fun v =>
                UnI v .i64 fun x27 =>
                St1 m7 d2b 0 (.int .u64 x23_0) fun m9 =>
                St1 m9 d2b 1 (.int .u64 x23_1) fun m10 =>
                St1 m10 d2b 2 (.int .u64 x23_2) fun m11 =>
                St1 m11 d2b 3 (.int .u64 x23_3) fun m12 =>
                Lk r8 m12 fun r13 =>
                St1 m12 d3b 0 (.int .i64 x27) fun m14 =>
                St1 m14 d4b 0 (.int .i64 0) fun m15 =>
                R (.returned (.tuple #[])) m15))) (panicR R)))) (panicR R))
noncomputable def e0A (R : Ending → Mem → Prop) : ACode := (.code (body))
def caps (d2b : Nat) (d3b : Nat) (d4b : Nat) : Array Value := #[.pointer (some ⟨d2b, 0, none⟩), .pointer (some ⟨d3b, 0, none⟩), .pointer (some ⟨d4b, 0, none⟩)]
theorem e0_eq (s_0 : ByteArray) (d2b : Nat) (d3b : Nat) (d4b : Nat) (R : Ending → Mem → Prop) (m : Mem) : e0 s_0 d2b d3b d4b R m = acpt P od (panicR R) (e0A R) (bodyQ P fnR R) (upd (upd (upd (upd (argE (#[.string s_0] : Array Value).toList) 2 (.pointer (some ⟨d2b, 0, none⟩))) 3 (.pointer (some ⟨d3b, 0, none⟩))) 4 (.pointer (some ⟨d4b, 0, none⟩))) 8 (.func (.func 28) #[] #[.pointer (some ⟨d2b, 0, none⟩), .pointer (some ⟨d3b, 0, none⟩), .pointer (some ⟨d4b, 0, none⟩)])) m := by kernel_rfl
theorem cok : codeOk P od tb 5 fn.ntmps body = true := by kernel_rfl
theorem ok (s_0 : ByteArray) (d2b : Nat) (d3b : Nat) (d4b : Nat) (R : Ending → Mem → Prop) (m : Mem) (h : e0 s_0 d2b d3b d4b R m) : cpt P od (panicR R) body (bodyQ P fnR R) (upd (upd (upd (upd (argE (#[.string s_0] : Array Value).toList) 2 (.pointer (some ⟨d2b, 0, none⟩))) 3 (.pointer (some ⟨d3b, 0, none⟩))) 4 (.pointer (some ⟨d4b, 0, none⟩))) 8 (.func (.func 28) #[] #[.pointer (some ⟨d2b, 0, none⟩), .pointer (some ⟨d3b, 0, none⟩), .pointer (some ⟨d4b, 0, none⟩)])) m := by
  have he : (e0A R).erase = body := by kernel_rfl
  rw [← he]
  refine acpt_sound (P := P) (e0A R) _ _ _ True.intro ?_
  exact Eq.mp (e0_eq s_0 d2b d3b d4b R m) h
end class_Parse

end
end Go.E
