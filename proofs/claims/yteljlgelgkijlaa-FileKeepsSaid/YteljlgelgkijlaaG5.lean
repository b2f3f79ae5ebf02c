/- Printed by this project's own gen.py: the shallow forms of Go functions over the logic H, and that the machine meets them. -/
import Derived.Test.YteljlgelgkijlaaHD2
import Derived.Test.YteljlgelgkijlaaProg
set_option linter.unusedVariables false
set_option maxRecDepth 100000
namespace Go.E
open Go.H
noncomputable section
noncomputable abbrev P : Program := Go.Proofs.Try.prog
theorem follows : P.follows .mixedOrders = true := by kernel_rfl
abbrev T_ : TypeId := 0
abbrev T_api_Errno : TypeId := 25
abbrev T_api_Errno_bool : TypeId := 63
abbrev T_arr0_ptr_runtime_PanicNilError : TypeId := 93
abbrev T_bool : TypeId := 4
abbrev T_eyotlaw5_Op : TypeId := 47
abbrev T_eyotref3_Cache : TypeId := 45
abbrev T_file_File : TypeId := 62
abbrev T_int : TypeId := 3
abbrev T_int32 : TypeId := 21
abbrev T_int64 : TypeId := 2
abbrev T_int_api_Errno : TypeId := 49
abbrev T_int_bool : TypeId := 65
abbrev T_internal_abi_BoundsErrorCode : TypeId := 6
abbrev T_internal_abi_Kind : TypeId := 98
abbrev T_internal_abi_NameOff : TypeId := 101
abbrev T_internal_abi_TFlag : TypeId := 97
abbrev T_internal_abi_Type : TypeId := 104
abbrev T_internal_abi_TypeOff : TypeId := 102
abbrev T_internal_runtime_maps_unhashableTypeError : TypeId := 19
abbrev T_lru_Cache_byte : TypeId := 73
abbrev T_lru_entry_byte : TypeId := 79
abbrev T_map_int_bool : TypeId := 56
abbrev T_page_Pages : TypeId := 58
abbrev T_page_Pages_api_Errno : TypeId := 26
abbrev T_ptr_eyotref3_Cache : TypeId := 42
abbrev T_ptr_file_File : TypeId := 28
abbrev T_ptr_internal_abi_Type : TypeId := 17
abbrev T_ptr_lru_Cache_byte : TypeId := 59
abbrev T_ptr_page_Pages : TypeId := 24
abbrev T_ptr_runtime_PanicNilError : TypeId := 16
abbrev T_ptr_runtime_TypeAssertionError : TypeId := 15
abbrev T_ptr_uint8 : TypeId := 100
abbrev T_runtime_PanicNilError : TypeId := 95
abbrev T_runtime_TypeAssertionError : TypeId := 92
abbrev T_runtime_boundsError : TypeId := 8
abbrev T_runtime_errorAddressString : TypeId := 14
abbrev T_runtime_errorString : TypeId := 10
abbrev T_runtime_plainError : TypeId := 11
abbrev T_sl_eyotlaw5_Op : TypeId := 41
abbrev T_sl_int : TypeId := 43
abbrev T_sl_lru_entry_byte : TypeId := 71
abbrev T_sl_uint16 : TypeId := 36
abbrev T_sl_uint8 : TypeId := 22
abbrev T_string : TypeId := 9
abbrev T_struct103 : TypeId := 103
abbrev T_struct13 : TypeId := 13
abbrev T_struct18 : TypeId := 18
abbrev T_struct44 : TypeId := 44
abbrev T_struct46 : TypeId := 46
abbrev T_struct57 : TypeId := 57
abbrev T_struct61 : TypeId := 61
abbrev T_struct7 : TypeId := 7
abbrev T_struct72 : TypeId := 72
abbrev T_struct78 : TypeId := 78
abbrev T_struct91 : TypeId := 91
abbrev T_struct94 : TypeId := 94
abbrev T_t1 : TypeId := 1
abbrev T_t20 : TypeId := 20
abbrev T_t23 : TypeId := 23
abbrev T_t27 : TypeId := 27
abbrev T_t29 : TypeId := 29
abbrev T_t31 : TypeId := 31
abbrev T_t33 : TypeId := 33
abbrev T_t34 : TypeId := 34
abbrev T_t35 : TypeId := 35
abbrev T_t39 : TypeId := 39
abbrev T_t40 : TypeId := 40
abbrev T_t48 : TypeId := 48
abbrev T_t50 : TypeId := 50
abbrev T_t51 : TypeId := 51
abbrev T_t52 : TypeId := 52
abbrev T_t53 : TypeId := 53
abbrev T_t54 : TypeId := 54
abbrev T_t55 : TypeId := 55
abbrev T_t60 : TypeId := 60
abbrev T_t64 : TypeId := 64
abbrev T_t66 : TypeId := 66
abbrev T_t67 : TypeId := 67
abbrev T_t68 : TypeId := 68
abbrev T_t69 : TypeId := 69
abbrev T_t70 : TypeId := 70
abbrev T_t75 : TypeId := 75
abbrev T_t76 : TypeId := 76
abbrev T_t77 : TypeId := 77
abbrev T_t80 : TypeId := 80
abbrev T_t81 : TypeId := 81
abbrev T_t82 : TypeId := 82
abbrev T_t83 : TypeId := 83
abbrev T_t84 : TypeId := 84
abbrev T_t85 : TypeId := 85
abbrev T_t86 : TypeId := 86
abbrev T_t87 : TypeId := 87
abbrev T_t88 : TypeId := 88
abbrev T_t89 : TypeId := 89
abbrev T_t90 : TypeId := 90
abbrev T_t99 : TypeId := 99
abbrev T_uint : TypeId := 38
abbrev T_uint16 : TypeId := 37
abbrev T_uint32 : TypeId := 96
abbrev T_uint8 : TypeId := 5
abbrev T_uint8_api_Errno : TypeId := 30
abbrev T_uint8_api_Errno_32 : TypeId := 32
abbrev T_uint8_bool : TypeId := 74
abbrev T_uintptr : TypeId := 12
abbrev T_unsafe_Pointer : TypeId := 105
namespace page_safe_s_int
def id : FuncId := 32
end page_safe_s_int
namespace page_safe_int
def id : FuncId := 35
end page_safe_int
namespace page_safe_s_int_1
def id : FuncId := 44
end page_safe_s_int_1
namespace page_safe_int_1
def id : FuncId := 45
end page_safe_int_1
namespace slices_overlaps_lru_entry_s_byte
def id : FuncId := 53
end slices_overlaps_lru_entry_s_byte
def eyotlaw5_FileParts.id : FuncId := 3
def eyotlaw5_FileNew.id : FuncId := 4
def eyotlaw5_FileSame.id : FuncId := 5
def eyotlaw5_FileAll.id : FuncId := 6
def eyotlaw5_FileKeeps.id : FuncId := 7
def eyotlaw5_begun.id : FuncId := 8
def page_New.id : FuncId := 9
def file_New.id : FuncId := 10
def file_File_Bytes.id : FuncId := 11
def file_File_At.id : FuncId := 12
def file_File_Kept.id : FuncId := 13
def file_File_Evict.id : FuncId := 14
def file_File_Len.id : FuncId := 15
def page_Pages_Clear.id : FuncId := 16
def page_Pages_Fault.id : FuncId := 17
def eyotlaw5_walk.id : FuncId := 18
def eyotref13_SameInts.id : FuncId := 19
def page_Pages_Reads.id : FuncId := 20
def page_Pages_Count.id : FuncId := 21
def slices_Clone_s_byte_byte.id : FuncId := 22
def lru_New_s_byte.id : FuncId := 23
def file_File_Bytes_1.id : FuncId := 24
def page_Pages_Size.id : FuncId := 25
def file_File_page.id : FuncId := 26
def lru_Cache_s_byte_Keys.id : FuncId := 27
def lru_Cache_s_byte_Clear.id : FuncId := 28
def page_Pages_Len.id : FuncId := 29
def eyotref3_Cache_Get.id : FuncId := 30
def eyotref3_Cache_Put.id : FuncId := 31
def page_Pages_Reads_1.id : FuncId := 33
def slices_Clone_s_int_int.id : FuncId := 34
def page_Pages_Count_1.id : FuncId := 36
def page_Pages_Size_1.id : FuncId := 37
def lru_Cache_s_byte_Get.id : FuncId := 38
def page_Pages_Read.id : FuncId := 39
def lru_Cache_s_byte_Put.id : FuncId := 40
def page_Pages_Len_1.id : FuncId := 41
def eyotref3_Cache_at.id : FuncId := 42
def eyotref3_Cache_Drop.id : FuncId := 43
def lru_Cache_s_byte_at.id : FuncId := 46
def slices_Delete_s_lru_entry_s_byte_lru_entry_s_byte.id : FuncId := 47
def lru_Cache_s_byte_front.id : FuncId := 48
def lru_Cache_s_byte_Drop.id : FuncId := 49
def slices_IndexFunc_s_lru_entry_s_byte_lru_entry_s_byte.id : FuncId := 50
def lru_Cache_s_byte_at_1.id : FuncId := 51
def slices_Insert_s_lru_entry_s_byte_lru_entry_s_byte.id : FuncId := 52
def slices_rotateRight_lru_entry_s_byte.id : FuncId := 54
def slices_rotateLeft_lru_entry_s_byte.id : FuncId := 55
def slices_Reverse_s_lru_entry_s_byte_lru_entry_s_byte.id : FuncId := 56
/-! ### eyot/eyotlaw5.FileParts -/
namespace eyotlaw5_FileParts
noncomputable def fn : Func := Go.Proofs.Try.f3
noncomputable def body : Code := fn.body.getD .skip
def od : Nat → Ord := fun _ => .done
def tb : Nat → Tab := fun _ => (0, [], [])
def e0 (a0a : Option Addr) (a0l : Nat) (a0c : Nat) (a1 : Int) (a2 : Int) (a3 : Int) (a4 : Int) (a5 : Int) (R : Ending → Mem → Prop) (m : Mem) : Prop :=
  HC P eyotlaw5_begun.id #[] m (Cont (fun v m1 =>
      UnB v fun x29 =>
      Br (!x29) (
        R (.returned (.bool false)) m1) (
        Br (((a0l : Nat) : Int) == 0) (
          R (.returned (.bool true)) m1) (
          Br (decide (((a0l : Nat) : Int) > 200)) (
            R (.returned (.bool true)) m1) (
            HC P page_New.id #[.slice a0a a0l a0c, .int .i64 (IntKind.i64.wrap (1 + (Int.tmod (IntKind.i64.wrap a1) 30)))] m1 (Cont (fun v m2 =>
                UnTup v fun us0 =>
                UnCons us0 fun w us1 =>
                UnP w fun x45_0 =>
                UnCons us1 fun w us2 =>
                UnI w .i64 fun x45_1 =>
                UnNil us2 (
                  HC P file_New.id #[.pointer x45_0, .int .i64 (IntKind.i64.wrap (Int.tmod a2 4))] m2 (Cont (fun v m3 =>
                      UnP v fun x52 =>
                      Br (x45_1 != 0) (
                        R (.returned (.bool false)) m3) (
                        Br x52.isNone (
                        R (.returned (.bool false)) m3) (
                        NzI ((a0l : Nat) : Int) (
                        HC P file_File_Bytes.id #[.pointer x52, .int .i64 (Int.tmod (IntKind.i64.wrap a3) ((a0l : Nat) : Int)), .int .i64 (if ((a0l : Nat) : Int) < (IntKind.i64.wrap ((Int.tmod (IntKind.i64.wrap a3) ((a0l : Nat) : Int)) + (IntKind.i64.wrap a4))) then ((a0l : Nat) : Int) else IntKind.i64.wrap ((Int.tmod (IntKind.i64.wrap a3) ((a0l : Nat) : Int)) + (IntKind.i64.wrap a4)))] m3 (Cont (fun v m4 =>
                        UnTup v fun us0 =>
                        UnCons us0 fun w us1 =>
                        UnS w fun x82_0a x82_0l x82_0c =>
                        UnCons us1 fun w us2 =>
                        UnI w .i64 fun x82_1 =>
                        UnNil us2 (
                        HC P file_File_Bytes.id #[.pointer x52, .int .i64 (if ((a0l : Nat) : Int) < (IntKind.i64.wrap ((Int.tmod (IntKind.i64.wrap a3) ((a0l : Nat) : Int)) + (IntKind.i64.wrap a4))) then ((a0l : Nat) : Int) else IntKind.i64.wrap ((Int.tmod (IntKind.i64.wrap a3) ((a0l : Nat) : Int)) + (IntKind.i64.wrap a4))), .int .i64 (if ((a0l : Nat) : Int) < (IntKind.i64.wrap ((if ((a0l : Nat) : Int) < (IntKind.i64.wrap ((Int.tmod (IntKind.i64.wrap a3) ((a0l : Nat) : Int)) + (IntKind.i64.wrap a4))) then ((a0l : Nat) : Int) else IntKind.i64.wrap ((Int.tmod (IntKind.i64.wrap a3) ((a0l : Nat) : Int)) + (IntKind.i64.wrap a4))) + (IntKind.i64.wrap a5))) then ((a0l : Nat) : Int) else IntKind.i64.wrap ((if ((a0l : Nat) : Int) < (IntKind.i64.wrap ((Int.tmod (IntKind.i64.wrap a3) ((a0l : Nat) : Int)) + (IntKind.i64.wrap a4))) then ((a0l : Nat) : Int) else IntKind.i64.wrap ((Int.tmod (IntKind.i64.wrap a3) ((a0l : Nat) : Int)) + (IntKind.i64.wrap a4))) + (IntKind.i64.wrap a5)))] m4 (Cont (fun v m5 =>
                        UnTup v fun us0 =>
                        UnCons us0 fun w us1 =>
                        UnS w fun x89_0a x89_0l x89_0c =>
                        UnCons us1 fun w us2 =>
                        UnI w .i64 fun x89_1 =>
                        UnNil us2 (
                        HC P file_File_Bytes.id #[.pointer x52, .int .i64 (Int.tmod (IntKind.i64.wrap a3) ((a0l : Nat) : Int)), .int .i64 (if ((a0l : Nat) : Int) < (IntKind.i64.wrap ((if ((a0l : Nat) : Int) < (IntKind.i64.wrap ((Int.tmod (IntKind.i64.wrap a3) ((a0l : Nat) : Int)) + (IntKind.i64.wrap a4))) then ((a0l : Nat) : Int) else IntKind.i64.wrap ((Int.tmod (IntKind.i64.wrap a3) ((a0l : Nat) : Int)) + (IntKind.i64.wrap a4))) + (IntKind.i64.wrap a5))) then ((a0l : Nat) : Int) else IntKind.i64.wrap ((if ((a0l : Nat) : Int) < (IntKind.i64.wrap ((Int.tmod (IntKind.i64.wrap a3) ((a0l : Nat) : Int)) + (IntKind.i64.wrap a4))) then ((a0l : Nat) : Int) else IntKind.i64.wrap ((Int.tmod (IntKind.i64.wrap a3) ((a0l : Nat) : Int)) + (IntKind.i64.wrap a4))) + (IntKind.i64.wrap a5)))] m5 (Cont (fun v m6 =>
                        UnTup v fun us0 =>
                        UnCons us0 fun w us1 =>
                        UnS w fun x96_0a x96_0l x96_0c =>
                        UnCons us1 fun w us2 =>
                        UnI w .i64 fun x96_1 =>
                        UnNil us2 (
                        HC P file_File_At.id #[.pointer x52, .int .i64 (Int.tmod (IntKind.i64.wrap a3) ((a0l : Nat) : Int))] m6 (Cont (fun v m7 =>
                        UnTup v fun us0 =>
                        UnCons us0 fun w us1 =>
                        UnI w .u8 fun x102_0 =>
                        UnCons us1 fun w us2 =>
                        UnI w .i64 fun x102_1 =>
                        UnNil us2 (
                        HC P file_File_Bytes.id #[.pointer x52, .int .i64 (Int.tmod (IntKind.i64.wrap a3) ((a0l : Nat) : Int)), .int .i64 (IntKind.i64.wrap ((Int.tmod (IntKind.i64.wrap a3) ((a0l : Nat) : Int)) + 1))] m7 (Cont (fun v m8 =>
                        UnTup v fun us0 =>
                        UnCons us0 fun w us1 =>
                        UnS w fun x110_0a x110_0l x110_0c =>
                        UnCons us1 fun w us2 =>
                        UnI w .i64 fun x110_1 =>
                        UnNil us2 (
                        Br (x82_1 == 0) (
                        Br (x89_1 == 0) (
                        Br (x96_1 == 0) (
                        B2S m8 x82_0a x82_0l fun s125 =>
                        B2S m8 x89_0a x89_0l fun s127 =>
                        CatB s125 s127 (
                        B2S m8 x96_0a x96_0l fun s130 =>
                        Br ((s125 ++ s127).toList == s130.toList) (
                        Br (x102_1 == 0) (
                        Br (x110_1 == 0) (
                        Br (((x110_0l : Nat) : Int) == 1) (
                        IxS x110_0a x110_0l 0 1 fun x148b x148o =>
                        LdV m8 x148b x148o fun v =>
                        UnI v .u8 fun x149 =>
                        Br (x149 == x102_0) (
                        IxS a0a a0l (Int.tmod (IntKind.i64.wrap a3) ((a0l : Nat) : Int)) 1 fun x157b x157o =>
                        LdV m8 x157b x157o fun v =>
                        UnI v .u8 fun x158 =>
                        R (.returned (.bool (x102_0 == x158))) m8) (
                        R (.returned (.bool false)) m8)) (
                        R (.returned (.bool false)) m8)) (
                        R (.returned (.bool false)) m8)) (
                        R (.returned (.bool false)) m8)) (
                        R (.returned (.bool false)) m8))) (
                        R (.returned (.bool false)) m8)) (
                        R (.returned (.bool false)) m8)) (
                        R (.returned (.bool false)) m8))) (panicR R)))) (panicR R)))) (panicR R)))) (panicR R)))) (panicR R)))))) (panicR R)))) (panicR R)))))) (panicR R))
noncomputable def e0A (R : Ending → Mem → Prop) : ACode := (.code (body))
theorem e0_eq (a0a : Option Addr) (a0l : Nat) (a0c : Nat) (a1 : Int) (a2 : Int) (a3 : Int) (a4 : Int) (a5 : Int) (R : Ending → Mem → Prop) (m : Mem) : e0 a0a a0l a0c a1 a2 a3 a4 a5 R m = acpt P od (panicR R) (e0A R) (bodyQ P fn R) (argE (#[.slice a0a a0l a0c, .int .u8 a1, .int .u8 a2, .int .u8 a3, .int .u8 a4, .int .u8 a5] : Array Value).toList) m := by kernel_rfl
theorem ok (a0a : Option Addr) (a0l : Nat) (a0c : Nat) (a1 : Int) (a2 : Int) (a3 : Int) (a4 : Int) (a5 : Int) (R : Ending → Mem → Prop) (m : Mem) (h : e0 a0a a0l a0c a1 a2 a3 a4 a5 R m) : HC P id #[.slice a0a a0l a0c, .int .u8 a1, .int .u8 a2, .int .u8 a3, .int .u8 a4, .int .u8 a5] m R := by
  refine HC_of (fn := fn) (c := body) (od := od) (tb := tb) Go.Proofs.Try.func3 (by kernel_rfl) (by kernel_rfl) follows (by kernel_rfl) (of_decide_eq_true (by kernel_rfl)) ?_
  have he : (e0A R).erase = body := by kernel_rfl
  rw [← he]
  refine acpt_sound (P := P) (e0A R) _ _ _ True.intro ?_
  exact Eq.mp (e0_eq a0a a0l a0c a1 a2 a3 a4 a5 R m) h
end eyotlaw5_FileParts

/-! ### eyot/eyotlaw5.FileNew -/
namespace eyotlaw5_FileNew
noncomputable def fn : Func := Go.Proofs.Try.f4
noncomputable def body : Code := fn.body.getD .skip
def od : Nat → Ord := fun _ => .done
def tb : Nat → Tab := fun _ => (0, [], [])
def k2E (K : Option Addr → Nat → Nat → Option Addr → Option Addr → Nat → Nat → Int → Mem → Prop) : Env → Mem → Prop := fun ρ m => UnS (ρ 0) fun x0a x0l x0c => UnP (ρ 9) fun x9 => UnS (ρ 10) fun x10a x10l x10c => UnI (ρ 11) .i64 fun x11 => K x0a x0l x0c x9 x10a x10l x10c x11 m
def k2  (x0a : Option Addr) (x0l : Nat) (x0c : Nat) (x9 : Option Addr) (x10a : Option Addr) (x10l : Nat) (x10c : Nat) (x11 : Int) (R : Ending → Mem → Prop) (m : Mem) : Prop :=
  HC P file_File_Bytes.id #[.pointer x9, .int .i64 0, .int .i64 ((x0l : Nat) : Int)] m (Cont (fun v m1 =>
      UnTup v fun us0 =>
      UnCons us0 fun w us1 =>
      UnS w fun x63_0a x63_0l x63_0c =>
      UnCons us1 fun w us2 =>
      UnI w .i64 fun x63_1 =>
      UnNil us2 (
        Br (x11 == 0) (
          Br (x63_1 == 0) (
            B2S m1 x63_0a x63_0l fun s74 =>
            B2S m1 x0a x0l fun s76 =>
            Br (s74.toList == s76.toList) (
              R (.returned (.bool (((x10l : Nat) : Int) == ((x0l : Nat) : Int)))) m1) (
              R (.returned (.bool false)) m1)) (
            R (.returned (.bool false)) m1)) (
          R (.returned (.bool false)) m1))) (panicR R))
noncomputable def k2A  (R : Ending → Mem → Prop) : ACode := (.code (sR (sR (sR (sR (sR (sR (sR (sR (body))))))))))
def l1E (K : Option Addr → Nat → Nat → Option Addr → Option Addr → Nat → Nat → Int → Int → Mem → Prop) : Env → Mem → Prop := fun ρ m => UnS (ρ 0) fun x0a x0l x0c => UnP (ρ 9) fun x9 => UnS (ρ 10) fun x10a x10l x10c => UnI (ρ 11) .i64 fun x11 => UnI (ρ 12) .i64 fun x12 => K x0a x0l x0c x9 x10a x10l x10c x11 x12 m
def l1B  (K1 : Option Addr → Nat → Nat → Option Addr → Option Addr → Nat → Nat → Int → Int → Mem → Prop) (x0a : Option Addr) (x0l : Nat) (x0c : Nat) (x9 : Option Addr) (x10a : Option Addr) (x10l : Nat) (x10c : Nat) (x11 : Int) (x12 : Int) (R : Ending → Mem → Prop) (m : Mem) : Prop :=
  Br (decide (x12 < ((x10l : Nat) : Int))) (
    IxS x10a x10l x12 1 fun x55b x55o =>
    LdV m x55b x55o fun v =>
    UnI v .u8 fun x56 =>
    IxS x10a x10l x12 1 fun x58b x58o =>
    St1 m x58b x58o (.int .u8 (bitsV .xor .u8 x56 51)) fun m1 =>
    K1 x0a x0l x0c x9 x10a x10l x10c x11 (IntKind.i64.wrap (x12 + 1)) m1) (
    k2  x0a x0l x0c x9 x10a x10l x10c x11 R m)
def l1  (x0a : Option Addr) (x0l : Nat) (x0c : Nat) (x9 : Option Addr) (x10a : Option Addr) (x10l : Nat) (x10c : Nat) (x11 : Int) (x12 : Int) (R : Ending → Mem → Prop) (m : Mem) : Prop :=
  ∃ (I : Nat → Option Addr → Nat → Nat → Option Addr → Option Addr → Nat → Nat → Int → Int → Mem → Prop) (N : Nat), I N x0a x0l x0c x9 x10a x10l x10c x11 x12 m ∧ ∀ N x0a x0l x0c x9 x10a x10l x10c x11 x12 m, I N x0a x0l x0c x9 x10a x10l x10c x11 x12 m → l1B  (fun x0a x0l x0c x9 x10a x10l x10c x11 x12 m => ∃ N1, N1 < N ∧ I N1 x0a x0l x0c x9 x10a x10l x10c x11 x12 m) x0a x0l x0c x9 x10a x10l x10c x11 x12 R m
noncomputable def l1A  (K1 : Option Addr → Nat → Nat → Option Addr → Option Addr → Nat → Nat → Int → Int → Mem → Prop) (R : Ending → Mem → Prop) : ACode := (.code (lP (bB (sR (sL (sR (sR (sR (sR (sR (sR (sR (body)))))))))))))
def e0 (a0a : Option Addr) (a0l : Nat) (a0c : Nat) (a1 : Int) (a2 : Int) (R : Ending → Mem → Prop) (m : Mem) : Prop :=
  HC P eyotlaw5_begun.id #[] m (Cont (fun v m1 =>
      UnB v fun x15 =>
      Br (!x15) (
        R (.returned (.bool false)) m1) (
        Br (decide (((a0l : Nat) : Int) > 200)) (
          R (.returned (.bool true)) m1) (
          HC P page_New.id #[.slice a0a a0l a0c, .int .i64 (IntKind.i64.wrap (1 + (Int.tmod (IntKind.i64.wrap a1) 30)))] m1 (Cont (fun v m2 =>
              UnTup v fun us0 =>
              UnCons us0 fun w us1 =>
              UnP w fun x26_0 =>
              UnCons us1 fun w us2 =>
              UnI w .i64 fun x26_1 =>
              UnNil us2 (
                HC P file_New.id #[.pointer x26_0, .int .i64 (IntKind.i64.wrap (Int.tmod a2 9))] m2 (Cont (fun v m3 =>
                    UnP v fun x33 =>
                    Br (x26_1 != 0) (
                      R (.returned (.bool false)) m3) (
                      Br x33.isNone (
                        R (.returned (.bool false)) m3) (
                        HC P file_File_Bytes.id #[.pointer x33, .int .i64 0, .int .i64 ((a0l : Nat) : Int)] m3 (Cont (fun v m4 =>
                        UnTup v fun us0 =>
                        UnCons us0 fun w us1 =>
                        UnS w fun x44_0a x44_0l x44_0c =>
                        UnCons us1 fun w us2 =>
                        UnI w .i64 fun x44_1 =>
                        UnNil us2 (
                        l1  a0a a0l a0c x33 x44_0a x44_0l x44_0c x44_1 0 R m4)) (panicR R))))) (panicR R)))) (panicR R))))) (panicR R))
noncomputable def e0A (R : Ending → Mem → Prop) : ACode := (.seq (.code (sL (body))) (.seq (.code (sL (sR (body)))) (.seq (.code (sL (sR (sR (body))))) (.seq (.code (sL (sR (sR (sR (body)))))) (.seq (.code (sL (sR (sR (sR (sR (body))))))) (.seq (.code (sL (sR (sR (sR (sR (sR (body)))))))) (.seq (.code (sL (sR (sR (sR (sR (sR (sR (body))))))))) (.seq (.seq (.code (sL (sL (sR (sR (sR (sR (sR (sR (sR (body))))))))))) (.block 0 (.cut (l1E fun x0a x0l x0c x9 x10a x10l x10c x11 x12 m => l1  x0a x0l x0c x9 x10a x10l x10c x11 x12 R m) (.loop (lP (bB (sR (sL (sR (sR (sR (sR (sR (sR (sR (body)))))))))))))))) (.cut (k2E fun x0a x0l x0c x9 x10a x10l x10c x11 m => k2  x0a x0l x0c x9 x10a x10l x10c x11 R m) (sR (sR (sR (sR (sR (sR (sR (sR (body))))))))))))))))))
theorem k2_eq  (R : Ending → Mem → Prop) (x0a : Option Addr) (x0l : Nat) (x0c : Nat) (x9 : Option Addr) (x10a : Option Addr) (x10l : Nat) (x10c : Nat) (x11 : Int) (ρ : Env) (m : Mem) : k2  x0a x0l x0c x9 x10a x10l x10c x11 R m = acpt P od (panicR R) (k2A  R) (bodyQ P fn R) (upd (upd (upd (upd ρ 11 (.int .i64 x11)) 10 (.slice x10a x10l x10c)) 9 (.pointer x9)) 0 (.slice x0a x0l x0c)) m := by kernel_rfl
theorem k2_er  (R : Ending → Mem → Prop) : (k2A  R).erase = sR (sR (sR (sR (sR (sR (sR (sR (body)))))))) := by kernel_rfl
theorem k2_ok  (R : Ending → Mem → Prop) (ρ : Env) (m : Mem) (h : (k2E fun x0a x0l x0c x9 x10a x10l x10c x11 m => k2  x0a x0l x0c x9 x10a x10l x10c x11 R m) ρ m) : cpt P od (panicR R) (sR (sR (sR (sR (sR (sR (sR (sR (body))))))))) (bodyQ P fn R) ρ m := by
  unfold k2E at h
  obtain ⟨x0a, x0l, x0c, e0, h⟩ := h.ex
  obtain ⟨x9, e9, h⟩ := h.ex
  obtain ⟨x10a, x10l, x10c, e10, h⟩ := h.ex
  obtain ⟨x11, e11, h⟩ := h.ex
  rw [← upd_self e0, ← upd_self e9, ← upd_self e10, ← upd_self e11]
  rw [← k2_er  R]
  refine acpt_sound (P := P) (k2A  R) _ _ _ True.intro ?_
  exact Eq.mp (k2_eq  R x0a x0l x0c x9 x10a x10l x10c x11 ρ m) h
theorem l1_eq  (K1 : Option Addr → Nat → Nat → Option Addr → Option Addr → Nat → Nat → Int → Int → Mem → Prop) (R : Ending → Mem → Prop) (x0a : Option Addr) (x0l : Nat) (x0c : Nat) (x9 : Option Addr) (x10a : Option Addr) (x10l : Nat) (x10c : Nat) (x11 : Int) (x12 : Int) (ρ : Env) (m : Mem) : l1B  K1 x0a x0l x0c x9 x10a x10l x10c x11 x12 R m = acpt P od (panicR R) (l1A  K1 R) (thenQ (l1E K1) (blockQ 0 (thenQ (acpt P od (panicR R) (.cut (k2E fun x0a x0l x0c x9 x10a x10l x10c x11 m => k2  x0a x0l x0c x9 x10a x10l x10c x11 R m) (sR (sR (sR (sR (sR (sR (sR (sR (body)))))))))) (bodyQ P fn R)) (bodyQ P fn R)))) (upd (upd (upd (upd (upd ρ 12 (.int .i64 x12)) 11 (.int .i64 x11)) 10 (.slice x10a x10l x10c)) 9 (.pointer x9)) 0 (.slice x0a x0l x0c)) m := by kernel_rfl
theorem l1_er  (K1 : Option Addr → Nat → Nat → Option Addr → Option Addr → Nat → Nat → Int → Int → Mem → Prop) (R : Ending → Mem → Prop) : (l1A  K1 R).erase = lP (bB (sR (sL (sR (sR (sR (sR (sR (sR (sR (body))))))))))) := by kernel_rfl
theorem l1_ok  (R : Ending → Mem → Prop) (ρ : Env) (m : Mem) (h : (l1E fun x0a x0l x0c x9 x10a x10l x10c x11 x12 m => l1  x0a x0l x0c x9 x10a x10l x10c x11 x12 R m) ρ m) : cpt P od (panicR R) (.loop (lP (bB (sR (sL (sR (sR (sR (sR (sR (sR (sR (body))))))))))))) (blockQ 0 (thenQ (acpt P od (panicR R) (.cut (k2E fun x0a x0l x0c x9 x10a x10l x10c x11 m => k2  x0a x0l x0c x9 x10a x10l x10c x11 R m) (sR (sR (sR (sR (sR (sR (sR (sR (body)))))))))) (bodyQ P fn R)) (bodyQ P fn R))) ρ m := by
  unfold l1E at h
  obtain ⟨x0a, x0l, x0c, e0, h⟩ := h.ex
  obtain ⟨x9, e9, h⟩ := h.ex
  obtain ⟨x10a, x10l, x10c, e10, h⟩ := h.ex
  obtain ⟨x11, e11, h⟩ := h.ex
  obtain ⟨x12, e12, h⟩ := h.ex
  obtain ⟨I, N, h0, hs⟩ := h
  refine ⟨fun N => l1E (I N), N, (by show l1E (I N) ρ m; unfold l1E; rw [e0, e9, e10, e11, e12]; exact h0), ?_⟩
  clear h0 e0 e9 e10 e11 e12
  intro N ρ m h
  unfold l1E at h
  obtain ⟨x0a, x0l, x0c, e0, h⟩ := h.ex
  obtain ⟨x9, e9, h⟩ := h.ex
  obtain ⟨x10a, x10l, x10c, e10, h⟩ := h.ex
  obtain ⟨x11, e11, h⟩ := h.ex
  obtain ⟨x12, e12, h⟩ := h.ex
  refine cpt_mono (P := P) (lP (bB (sR (sL (sR (sR (sR (sR (sR (sR (sR (body)))))))))))) (Q := thenQ (l1E fun x0a x0l x0c x9 x10a x10l x10c x11 x12 m => ∃ N1, N1 < N ∧ I N1 x0a x0l x0c x9 x10a x10l x10c x11 x12 m) (blockQ 0 (thenQ (acpt P od (panicR R) (.cut (k2E fun x0a x0l x0c x9 x10a x10l x10c x11 m => k2  x0a x0l x0c x9 x10a x10l x10c x11 R m) (sR (sR (sR (sR (sR (sR (sR (sR (body)))))))))) (bodyQ P fn R)) (bodyQ P fn R)))) (fun e ρ m h => ?_) ρ m ?_
  · cases e with
    | normal =>
      have h : l1E (fun x0a x0l x0c x9 x10a x10l x10c x11 x12 m => ∃ N1, N1 < N ∧ I N1 x0a x0l x0c x9 x10a x10l x10c x11 x12 m) ρ m := h
      unfold l1E at h
      obtain ⟨x0a, x0l, x0c, e0, h⟩ := h.ex
      obtain ⟨x9, e9, h⟩ := h.ex
      obtain ⟨x10a, x10l, x10c, e10, h⟩ := h.ex
      obtain ⟨x11, e11, h⟩ := h.ex
      obtain ⟨x12, e12, h⟩ := h.ex
      obtain ⟨N1, hlt, h⟩ := h
      exact ⟨N1, hlt, (by show l1E (I N1) ρ m; unfold l1E; rw [e0, e9, e10, e11, e12]; exact h)⟩
    | _ => exact h
  have hh := hs N x0a x0l x0c x9 x10a x10l x10c x11 x12 m h
  generalize (fun x0a x0l x0c x9 x10a x10l x10c x11 x12 m => ∃ N1, N1 < N ∧ I N1 x0a x0l x0c x9 x10a x10l x10c x11 x12 m : Option Addr → Nat → Nat → Option Addr → Option Addr → Nat → Nat → Int → Int → Mem → Prop) = K1 at hh ⊢
  rw [← upd_self e0, ← upd_self e9, ← upd_self e10, ← upd_self e11, ← upd_self e12]
  rw [← l1_er  K1 R]
  refine acpt_sound (P := P) (l1A  K1 R) _ _ _ True.intro ?_
  exact Eq.mp (l1_eq  K1 R x0a x0l x0c x9 x10a x10l x10c x11 x12 ρ m) hh
theorem e0_eq (a0a : Option Addr) (a0l : Nat) (a0c : Nat) (a1 : Int) (a2 : Int) (R : Ending → Mem → Prop) (m : Mem) : e0 a0a a0l a0c a1 a2 R m = acpt P od (panicR R) (e0A R) (bodyQ P fn R) (argE (#[.slice a0a a0l a0c, .int .u8 a1, .int .u8 a2] : Array Value).toList) m := by kernel_rfl
theorem ok (a0a : Option Addr) (a0l : Nat) (a0c : Nat) (a1 : Int) (a2 : Int) (R : Ending → Mem → Prop) (m : Mem) (h : e0 a0a a0l a0c a1 a2 R m) : HC P id #[.slice a0a a0l a0c, .int .u8 a1, .int .u8 a2] m R := by
  refine HC_of (fn := fn) (c := body) (od := od) (tb := tb) Go.Proofs.Try.func4 (by kernel_rfl) (by kernel_rfl) follows (by kernel_rfl) (of_decide_eq_true (by kernel_rfl)) ?_
  have he : (e0A R).erase = body := by kernel_rfl
  rw [← he]
  refine acpt_sound (P := P) (e0A R) _ _ _ ⟨⟨⟨⟨⟨⟨⟨⟨(fun ρ m h => k2_ok  R ρ m h), ⟨(fun ρ m h => l1_ok  R ρ m h), True.intro⟩⟩, True.intro⟩, True.intro⟩, True.intro⟩, True.intro⟩, True.intro⟩, True.intro⟩, True.intro⟩ ?_
  exact Eq.mp (e0_eq a0a a0l a0c a1 a2 R m) h
end eyotlaw5_FileNew

/-! ### eyot/eyotlaw5.FileSame -/
namespace eyotlaw5_FileSame
noncomputable def fn : Func := Go.Proofs.Try.f5
noncomputable def body : Code := fn.body.getD .skip
def od : Nat → Ord := fun _ => .done
def tb : Nat → Tab := fun _ => (0, [], [])
def k2E (K : Mem → Prop) : Env → Mem → Prop := fun ρ m => K  m
def k2   (R : Ending → Mem → Prop) (m : Mem) : Prop :=
  HC P file_File_At.id #[.pointer none, .int .i64 0] m (Cont (fun v m1 =>
      UnTup v fun us0 =>
      UnCons us0 fun w us1 =>
      UnI w .u8 fun x162_0 =>
      UnCons us1 fun w us2 =>
      UnI w .i64 fun x162_1 =>
      UnNil us2 (
        HC P file_File_Bytes.id #[.pointer none, .int .i64 0, .int .i64 0] m1 (Cont (fun v m2 =>
            UnTup v fun us0 =>
            UnCons us0 fun w us1 =>
            UnS w fun x167_0a x167_0l x167_0c =>
            UnCons us1 fun w us2 =>
            UnI w .i64 fun x167_1 =>
            UnNil us2 (
              HC P file_File_Evict.id #[.pointer none] m2 (Cont (fun v m3 =>
                  UnTup v fun us0 =>
                  UnNil us0 (
                    HC P file_New.id #[.pointer none, .int .i64 3] m3 (Cont (fun v m4 =>
                        UnP v fun x172 =>
                        HC P file_File_Bytes.id #[.pointer x172, .int .i64 0, .int .i64 0] m4 (Cont (fun v m5 =>
                        UnTup v fun us0 =>
                        UnCons us0 fun w us1 =>
                        UnS w fun x175_0a x175_0l x175_0c =>
                        UnCons us1 fun w us2 =>
                        UnI w .i64 fun x175_1 =>
                        UnNil us2 (
                        Br (x162_1 == 1) (
                        Br (x167_1 == 1) (
                        HC P file_File_Len.id #[.pointer none] m5 (Cont (fun v m6 =>
                        UnI v .i64 fun x186 =>
                        HC P file_File_Kept.id #[.pointer none] m6 (Cont (fun v m7 =>
                        UnI v .i64 fun x188 =>
                        Br ((IntKind.i64.wrap (x186 + x188)) == 0) (
                        Br (x175_1 == 1) (
                        HC P file_File_Len.id #[.pointer x172] m7 (Cont (fun v m8 =>
                        UnI v .i64 fun x198 =>
                        R (.returned (.bool (x198 == 0))) m8) (panicR R))) (
                        R (.returned (.bool false)) m7)) (
                        R (.returned (.bool false)) m7)) (panicR R))) (panicR R))) (
                        R (.returned (.bool false)) m5)) (
                        R (.returned (.bool false)) m5))) (panicR R))) (panicR R)))) (panicR R)))) (panicR R)))) (panicR R))
noncomputable def k2A  (R : Ending → Mem → Prop) : ACode := (.code (sR (sR (sR (sR (sR (sR (sR (sR (body))))))))))
def l1E (K : Option Addr → Nat → Nat → Int → Option Addr → Nat → Nat → Option Addr → Option Addr → Int → Mem → Prop) : Env → Mem → Prop := fun ρ m => UnS (ρ 0) fun x0a x0l x0c => UnI (ρ 3) .u8 fun x3 => UnS (ρ 5) fun x5a x5l x5c => UnP (ρ 17) fun x17 => UnP (ρ 18) fun x18 => UnI (ρ 19) .i64 fun x19 => K x0a x0l x0c x3 x5a x5l x5c x17 x18 x19 m
def l1B  (K1 : Option Addr → Nat → Nat → Int → Option Addr → Nat → Nat → Option Addr → Option Addr → Int → Mem → Prop) (x0a : Option Addr) (x0l : Nat) (x0c : Nat) (x3 : Int) (x5a : Option Addr) (x5l : Nat) (x5c : Nat) (x17 : Option Addr) (x18 : Option Addr) (x19 : Int) (R : Ending → Mem → Prop) (m : Mem) : Prop :=
  Br (decide (x19 < ((x5l : Nat) : Int))) (
    IxS x5a x5l x19 1 fun x99b x99o =>
    LdV m x99b x99o fun v =>
    UnI v .u16 fun x100 =>
    NzI ((x0l : Nat) : Int) (
      IxS x5a x5l x19 1 fun x108b x108o =>
      LdV m x108b x108o fun v =>
      UnI v .u16 fun x109 =>
      HC P file_File_Bytes.id #[.pointer x17, .int .i64 (Int.tmod (IntKind.i64.wrap x100) ((x0l : Nat) : Int)), .int .i64 (if ((x0l : Nat) : Int) < (IntKind.i64.wrap ((Int.tmod (IntKind.i64.wrap x100) ((x0l : Nat) : Int)) + (IntKind.i64.wrap (shrV .u16 x109 8)))) then ((x0l : Nat) : Int) else IntKind.i64.wrap ((Int.tmod (IntKind.i64.wrap x100) ((x0l : Nat) : Int)) + (IntKind.i64.wrap (shrV .u16 x109 8))))] m (Cont (fun v m1 =>
          UnTup v fun us0 =>
          UnCons us0 fun w us1 =>
          UnS w fun x120_0a x120_0l x120_0c =>
          UnCons us1 fun w us2 =>
          UnI w .i64 fun x120_1 =>
          UnNil us2 (
            HC P file_File_Bytes.id #[.pointer x18, .int .i64 (Int.tmod (IntKind.i64.wrap x100) ((x0l : Nat) : Int)), .int .i64 (if ((x0l : Nat) : Int) < (IntKind.i64.wrap ((Int.tmod (IntKind.i64.wrap x100) ((x0l : Nat) : Int)) + (IntKind.i64.wrap (shrV .u16 x109 8)))) then ((x0l : Nat) : Int) else IntKind.i64.wrap ((Int.tmod (IntKind.i64.wrap x100) ((x0l : Nat) : Int)) + (IntKind.i64.wrap (shrV .u16 x109 8))))] m1 (Cont (fun v m2 =>
                UnTup v fun us0 =>
                UnCons us0 fun w us1 =>
                UnS w fun x127_0a x127_0l x127_0c =>
                UnCons us1 fun w us2 =>
                UnI w .i64 fun x127_1 =>
                UnNil us2 (
                  Br (x120_1 != 0) (
                    R (.returned (.bool false)) m2) (
                    Br (x127_1 != 0) (
                      R (.returned (.bool false)) m2) (
                      B2S m2 x120_0a x120_0l fun s138 =>
                      B2S m2 x127_0a x127_0l fun s140 =>
                      Br (!(s138.toList == s140.toList)) (
                        R (.returned (.bool false)) m2) (
                        HC P file_File_Kept.id #[.pointer x17] m2 (Cont (fun v m3 =>
                        UnI v .i64 fun x145 =>
                        Br (decide (x145 > (if 1 > (IntKind.i64.wrap (Int.tmod x3 5)) then 1 else IntKind.i64.wrap (Int.tmod x3 5)))) (
                        R (.returned (.bool false)) m3) (
                        IxS x5a x5l x19 1 fun x154b x154o =>
                        LdV m3 x154b x154o fun v =>
                        UnI v .u16 fun x155 =>
                        Br ((Int.tmod x155 3) == 0) (
                        HC P file_File_Evict.id #[.pointer x18] m3 (Cont (fun v m4 =>
                        UnTup v fun us0 =>
                        UnNil us0 (
                        K1 x0a x0l x0c x3 x5a x5l x5c x17 x18 (IntKind.i64.wrap (x19 + 1)) m4)) (panicR R))) (
                        K1 x0a x0l x0c x3 x5a x5l x5c x17 x18 (IntKind.i64.wrap (x19 + 1)) m3))) (panicR R))))))) (panicR R)))) (panicR R)))) (
    k2   R m)
def l1  (x0a : Option Addr) (x0l : Nat) (x0c : Nat) (x3 : Int) (x5a : Option Addr) (x5l : Nat) (x5c : Nat) (x17 : Option Addr) (x18 : Option Addr) (x19 : Int) (R : Ending → Mem → Prop) (m : Mem) : Prop :=
  ∃ (I : Nat → Option Addr → Nat → Nat → Int → Option Addr → Nat → Nat → Option Addr → Option Addr → Int → Mem → Prop) (N : Nat), I N x0a x0l x0c x3 x5a x5l x5c x17 x18 x19 m ∧ ∀ N x0a x0l x0c x3 x5a x5l x5c x17 x18 x19 m, I N x0a x0l x0c x3 x5a x5l x5c x17 x18 x19 m → l1B  (fun x0a x0l x0c x3 x5a x5l x5c x17 x18 x19 m => ∃ N1, N1 < N ∧ I N1 x0a x0l x0c x3 x5a x5l x5c x17 x18 x19 m) x0a x0l x0c x3 x5a x5l x5c x17 x18 x19 R m
noncomputable def l1A  (K1 : Option Addr → Nat → Nat → Int → Option Addr → Nat → Nat → Option Addr → Option Addr → Int → Mem → Prop) (R : Ending → Mem → Prop) : ACode := (.code (lP (bB (sR (sL (sR (sR (sR (sR (sR (sR (sR (body)))))))))))))
def e0 (a0a : Option Addr) (a0l : Nat) (a0c : Nat) (a1 : Int) (a2 : Int) (a3 : Int) (a4 : Int) (a5a : Option Addr) (a5l : Nat) (a5c : Nat) (R : Ending → Mem → Prop) (m : Mem) : Prop :=
  HC P eyotlaw5_begun.id #[] m (Cont (fun v m1 =>
      UnB v fun x34 =>
      Br (!x34) (
        R (.returned (.bool false)) m1) (
        Br (((a0l : Nat) : Int) == 0) (
          R (.returned (.bool true)) m1) (
          Br (decide (((a0l : Nat) : Int) > 300)) (
            R (.returned (.bool true)) m1) (
            Br (decide (((a5l : Nat) : Int) > 20)) (
              R (.returned (.bool true)) m1) (
              HC P page_New.id #[.slice a0a a0l a0c, .int .i64 (IntKind.i64.wrap (1 + (Int.tmod (IntKind.i64.wrap a1) 30)))] m1 (Cont (fun v m2 =>
                  UnTup v fun us0 =>
                  UnCons us0 fun w us1 =>
                  UnP w fun x55_0 =>
                  UnCons us1 fun w us2 =>
                  UnI w .i64 fun x55_1 =>
                  UnNil us2 (
                    HC P page_New.id #[.slice a0a a0l a0c, .int .i64 (IntKind.i64.wrap (1 + (Int.tmod (IntKind.i64.wrap a2) 30)))] m2 (Cont (fun v m3 =>
                        UnTup v fun us0 =>
                        UnCons us0 fun w us1 =>
                        UnP w fun x64_0 =>
                        UnCons us1 fun w us2 =>
                        UnI w .i64 fun x64_1 =>
                        UnNil us2 (
                        HC P file_New.id #[.pointer x55_0, .int .i64 (IntKind.i64.wrap (Int.tmod a3 5))] m3 (Cont (fun v m4 =>
                        UnP v fun x71 =>
                        HC P file_New.id #[.pointer x64_0, .int .i64 (IntKind.i64.wrap (Int.tmod a4 5))] m4 (Cont (fun v m5 =>
                        UnP v fun x76 =>
                        Br (x55_1 != 0) (
                        R (.returned (.bool false)) m5) (
                        Br (x64_1 != 0) (
                        R (.returned (.bool false)) m5) (
                        Br x71.isNone (
                        R (.returned (.bool false)) m5) (
                        Br x76.isNone (
                        R (.returned (.bool false)) m5) (
                        l1  a0a a0l a0c a3 a5a a5l a5c x71 x76 0 R m5))))) (panicR R))) (panicR R)))) (panicR R)))) (panicR R))))))) (panicR R))
noncomputable def e0A (R : Ending → Mem → Prop) : ACode := (.seq (.code (sL (body))) (.seq (.code (sL (sR (body)))) (.seq (.code (sL (sR (sR (body))))) (.seq (.code (sL (sR (sR (sR (body)))))) (.seq (.code (sL (sR (sR (sR (sR (body))))))) (.seq (.code (sL (sR (sR (sR (sR (sR (body)))))))) (.seq (.code (sL (sR (sR (sR (sR (sR (sR (body))))))))) (.seq (.seq (.code (sL (sL (sR (sR (sR (sR (sR (sR (sR (body))))))))))) (.block 0 (.cut (l1E fun x0a x0l x0c x3 x5a x5l x5c x17 x18 x19 m => l1  x0a x0l x0c x3 x5a x5l x5c x17 x18 x19 R m) (.loop (lP (bB (sR (sL (sR (sR (sR (sR (sR (sR (sR (body)))))))))))))))) (.cut (k2E fun  m => k2   R m) (sR (sR (sR (sR (sR (sR (sR (sR (body))))))))))))))))))
theorem k2_eq  (R : Ending → Mem → Prop)  (ρ : Env) (m : Mem) : k2   R m = acpt P od (panicR R) (k2A  R) (bodyQ P fn R) ρ m := by kernel_rfl
theorem k2_er  (R : Ending → Mem → Prop) : (k2A  R).erase = sR (sR (sR (sR (sR (sR (sR (sR (body)))))))) := by kernel_rfl
theorem k2_ok  (R : Ending → Mem → Prop) (ρ : Env) (m : Mem) (h : (k2E fun  m => k2   R m) ρ m) : cpt P od (panicR R) (sR (sR (sR (sR (sR (sR (sR (sR (body))))))))) (bodyQ P fn R) ρ m := by
  unfold k2E at h
  rw [← k2_er  R]
  refine acpt_sound (P := P) (k2A  R) _ _ _ True.intro ?_
  exact Eq.mp (k2_eq  R  ρ m) h
theorem l1_eq  (K1 : Option Addr → Nat → Nat → Int → Option Addr → Nat → Nat → Option Addr → Option Addr → Int → Mem → Prop) (R : Ending → Mem → Prop) (x0a : Option Addr) (x0l : Nat) (x0c : Nat) (x3 : Int) (x5a : Option Addr) (x5l : Nat) (x5c : Nat) (x17 : Option Addr) (x18 : Option Addr) (x19 : Int) (ρ : Env) (m : Mem) : l1B  K1 x0a x0l x0c x3 x5a x5l x5c x17 x18 x19 R m = acpt P od (panicR R) (l1A  K1 R) (thenQ (l1E K1) (blockQ 0 (thenQ (acpt P od (panicR R) (.cut (k2E fun  m => k2   R m) (sR (sR (sR (sR (sR (sR (sR (sR (body)))))))))) (bodyQ P fn R)) (bodyQ P fn R)))) (upd (upd (upd (upd (upd (upd ρ 19 (.int .i64 x19)) 18 (.pointer x18)) 17 (.pointer x17)) 5 (.slice x5a x5l x5c)) 3 (.int .u8 x3)) 0 (.slice x0a x0l x0c)) m := by kernel_rfl
theorem l1_er  (K1 : Option Addr → Nat → Nat → Int → Option Addr → Nat → Nat → Option Addr → Option Addr → Int → Mem → Prop) (R : Ending → Mem → Prop) : (l1A  K1 R).erase = lP (bB (sR (sL (sR (sR (sR (sR (sR (sR (sR (body))))))))))) := by kernel_rfl
theorem l1_ok  (R : Ending → Mem → Prop) (ρ : Env) (m : Mem) (h : (l1E fun x0a x0l x0c x3 x5a x5l x5c x17 x18 x19 m => l1  x0a x0l x0c x3 x5a x5l x5c x17 x18 x19 R m) ρ m) : cpt P od (panicR R) (.loop (lP (bB (sR (sL (sR (sR (sR (sR (sR (sR (sR (body))))))))))))) (blockQ 0 (thenQ (acpt P od (panicR R) (.cut (k2E fun  m => k2   R m) (sR (sR (sR (sR (sR (sR (sR (sR (body)))))))))) (bodyQ P fn R)) (bodyQ P fn R))) ρ m := by
  unfold l1E at h
  obtain ⟨x0a, x0l, x0c, e0, h⟩ := h.ex
  obtain ⟨x3, e3, h⟩ := h.ex
  obtain ⟨x5a, x5l, x5c, e5, h⟩ := h.ex
  obtain ⟨x17, e17, h⟩ := h.ex
  obtain ⟨x18, e18, h⟩ := h.ex
  obtain ⟨x19, e19, h⟩ := h.ex
  obtain ⟨I, N, h0, hs⟩ := h
  refine ⟨fun N => l1E (I N), N, (by show l1E (I N) ρ m; unfold l1E; rw [e0, e3, e5, e17, e18, e19]; exact h0), ?_⟩
  clear h0 e0 e3 e5 e17 e18 e19
  intro N ρ m h
  unfold l1E at h
  obtain ⟨x0a, x0l, x0c, e0, h⟩ := h.ex
  obtain ⟨x3, e3, h⟩ := h.ex
  obtain ⟨x5a, x5l, x5c, e5, h⟩ := h.ex
  obtain ⟨x17, e17, h⟩ := h.ex
  obtain ⟨x18, e18, h⟩ := h.ex
  obtain ⟨x19, e19, h⟩ := h.ex
  refine cpt_mono (P := P) (lP (bB (sR (sL (sR (sR (sR (sR (sR (sR (sR (body)))))))))))) (Q := thenQ (l1E fun x0a x0l x0c x3 x5a x5l x5c x17 x18 x19 m => ∃ N1, N1 < N ∧ I N1 x0a x0l x0c x3 x5a x5l x5c x17 x18 x19 m) (blockQ 0 (thenQ (acpt P od (panicR R) (.cut (k2E fun  m => k2   R m) (sR (sR (sR (sR (sR (sR (sR (sR (body)))))))))) (bodyQ P fn R)) (bodyQ P fn R)))) (fun e ρ m h => ?_) ρ m ?_
  · cases e with
    | normal =>
      have h : l1E (fun x0a x0l x0c x3 x5a x5l x5c x17 x18 x19 m => ∃ N1, N1 < N ∧ I N1 x0a x0l x0c x3 x5a x5l x5c x17 x18 x19 m) ρ m := h
      unfold l1E at h
      obtain ⟨x0a, x0l, x0c, e0, h⟩ := h.ex
      obtain ⟨x3, e3, h⟩ := h.ex
      obtain ⟨x5a, x5l, x5c, e5, h⟩ := h.ex
      obtain ⟨x17, e17, h⟩ := h.ex
      obtain ⟨x18, e18, h⟩ := h.ex
      obtain ⟨x19, e19, h⟩ := h.ex
      obtain ⟨N1, hlt, h⟩ := h
      exact ⟨N1, hlt, (by show l1E (I N1) ρ m; unfold l1E; rw [e0, e3, e5, e17, e18, e19]; exact h)⟩
    | _ => exact h
  have hh := hs N x0a x0l x0c x3 x5a x5l x5c x17 x18 x19 m h
  generalize (fun x0a x0l x0c x3 x5a x5l x5c x17 x18 x19 m => ∃ N1, N1 < N ∧ I N1 x0a x0l x0c x3 x5a x5l x5c x17 x18 x19 m : Option Addr → Nat → Nat → Int → Option Addr → Nat → Nat → Option Addr → Option Addr → Int → Mem → Prop) = K1 at hh ⊢
  rw [← upd_self e0, ← upd_self e3, ← upd_self e5, ← upd_self e17, ← upd_self e18, ← upd_self e19]
  rw [← l1_er  K1 R]
  refine acpt_sound (P := P) (l1A  K1 R) _ _ _ True.intro ?_
  exact Eq.mp (l1_eq  K1 R x0a x0l x0c x3 x5a x5l x5c x17 x18 x19 ρ m) hh
theorem e0_eq (a0a : Option Addr) (a0l : Nat) (a0c : Nat) (a1 : Int) (a2 : Int) (a3 : Int) (a4 : Int) (a5a : Option Addr) (a5l : Nat) (a5c : Nat) (R : Ending → Mem → Prop) (m : Mem) : e0 a0a a0l a0c a1 a2 a3 a4 a5a a5l a5c R m = acpt P od (panicR R) (e0A R) (bodyQ P fn R) (argE (#[.slice a0a a0l a0c, .int .u8 a1, .int .u8 a2, .int .u8 a3, .int .u8 a4, .slice a5a a5l a5c] : Array Value).toList) m := by kernel_rfl
theorem ok (a0a : Option Addr) (a0l : Nat) (a0c : Nat) (a1 : Int) (a2 : Int) (a3 : Int) (a4 : Int) (a5a : Option Addr) (a5l : Nat) (a5c : Nat) (R : Ending → Mem → Prop) (m : Mem) (h : e0 a0a a0l a0c a1 a2 a3 a4 a5a a5l a5c R m) : HC P id #[.slice a0a a0l a0c, .int .u8 a1, .int .u8 a2, .int .u8 a3, .int .u8 a4, .slice a5a a5l a5c] m R := by
  refine HC_of (fn := fn) (c := body) (od := od) (tb := tb) Go.Proofs.Try.func5 (by kernel_rfl) (by kernel_rfl) follows (by kernel_rfl) (of_decide_eq_true (by kernel_rfl)) ?_
  have he : (e0A R).erase = body := by kernel_rfl
  rw [← he]
  refine acpt_sound (P := P) (e0A R) _ _ _ ⟨⟨⟨⟨⟨⟨⟨⟨(fun ρ m h => k2_ok  R ρ m h), ⟨(fun ρ m h => l1_ok  R ρ m h), True.intro⟩⟩, True.intro⟩, True.intro⟩, True.intro⟩, True.intro⟩, True.intro⟩, True.intro⟩, True.intro⟩ ?_
  exact Eq.mp (e0_eq a0a a0l a0c a1 a2 a3 a4 a5a a5l a5c R m) h
end eyotlaw5_FileSame

/-! ### eyot/eyotlaw5.FileAll -/
namespace eyotlaw5_FileAll
noncomputable def fn : Func := Go.Proofs.Try.f6
noncomputable def body : Code := fn.body.getD .skip
def od : Nat → Ord := fun | 25 => ordL [(0, 3), (1, 3), (2, 3), (3, 3), (4, 3), (5, 3), (6, 3), (7, 3), (8, 1), (9, 3), (10, 3), (11, 1), (12, 3), (13, 0), (14, 3), (15, 0), (16, 3), (17, 3), (18, 3), (19, 3), (20, 3), (21, 3), (22, 3), (23, 3), (24, 3), (25, 3), (26, 3), (27, 3)] .done | 47 => ordL [(0, 3), (2, 3), (1, 0), (3, 0), (4, 3), (5, 3), (6, 3), (8, 3), (9, 3), (10, 3), (11, 1), (12, 3), (7, 0), (13, 3), (14, 3), (15, 3), (16, 3), (18, 3), (19, 3), (17, 2), (20, 3), (21, 3)] .done | _ => .done
def tb : Nat → Tab := fun | 25 => (0, [0, 0, 3, 7, 15, 31, 63, 127, 255, 127, 127, 1151, 127, 4223, 15999, 32383, 65535, 131071, 262143, 524287, 1048575, 2097151, 4194303, 8388607, 16777215, 33554431, 67108863, 134217727], [(0, 4194304, 118), (0, 8388608, 119), (3, 498460498419343452338927647605129216, 120), (4, 664613997892457936451903530140172288, 121), (8, 1329227995784915872903807060288733184, 122), (24, 3987683987354747618711421180841033728, 123), (40, 6646139978924579364519035301401722880, 124), (64, 10633823966279326983230456482244853760, 125), (192, 31901471898837980949691369446728269824, 126), (64, 10633823966279326983230456482242756609, 127), (64, 10633823966279326983230456482242822144, 128), (1088, 180775007426748558714917760198126862336, 129), (64, 10633823966279326983230456482242822144, 130), (4160, 691198557808156253909979671345779179520, 131), (10816, 1797116250301206260165947145499025866752, 132), (16448, 2732892759333787034690227315936388448256, 133), (33088, 5497686990566412050330146001319505166336, 134), (65608, 10900998793432095073684121701359105867776, 135), (131080, 21779400710935846577528878682693445877760, 136), (262208, 43556142965880123323311949751266331066368, 137), (524288, 87112285931760246646623899502532670521344, 138), (1572864, 261336857795280739939871698507597986398208, 139), (2621440, 435561429658801233233119497512663310663680, 140), (4194304, 696898287454081973172991196020261299159040, 141), (12582912, 2090694862362245919518973588060783891185664, 142), (20971520, 3484491437270409865864955980101306485309440, 143), (38273024, 6359196873018498005203544663684884335689728, 144), (67633152, 11237484885197071817414483035826713415122944, 145)]) | 47 => (131072, [0, 1, 0, 7, 15, 31, 63, 127, 63, 319, 831, 1855, 3903, 8191, 16383, 32767, 65535, 131071, 65535, 327679, 1048575, 2097151], [(0, 1024, 231), (1, 1725436586697640946858688965569256363112777243042596638790631055949824, 232), (0, 131072, 233), (6, 10352619520185845681152133793415538178676663458255579832743786335698944, 234), (8, 13803492693581127574869511724554050904902217944340773110325048447598592, 235), (24, 27606985387162255149739023449108101809804435888681546220650096895197184, 236), (32, 55213970774324510299478046898216203619608871777363092441300193790398464, 237), (96, 165641912322973530898434140694648610858826615332089277323900581371183104, 238), (32, 55213970774324510299478046898216203619608871777363092441300193790402560, 239), (288, 496925736968920592695302422083945832576479845996267831971701744113549312, 240), (544, 938637503163516675091126797269675461533350820215172571502103294436704256, 241), (1056, 1822061035552708839882775547641134719447092768652982050562906395083014144, 242), (2080, 3588908100331093169466073048384053235274576665528601008684512596375633920, 243), (4256, 7343458112985159869830580237462755081407979946389291294692925774122450944, 244), (8224, 14189990489001399146965858052841564330239480046782314757414149804131352576, 245), (16512, 28269553036454149273332760011886696253239742350009903329945699220681916416, 246), (32768, 56539106072908298546665520023773392506479484700019806659891398441363836928, 247), (98304, 169617318218724895639996560071320177519438454100059419979674195324091498496, 248), (32768, 56539106072908298546665520023773392506479484700019806659891398441363832833, 249), (294912, 508851954656174686919989680213960532558315362300178259939022585972274495488, 250), (688128, 1187321227531074269479975920499241242636069178700415939857719367268640489472, 251), (1081344, 1865790500405973852039962160784521952713822995100653619776416148565006483456, 252)]) | _ => (0, [], [])
def k2E (K : Option Addr → Nat → Nat → Option Addr → Nat → Nat → Int → Option Addr → Option Addr → Nat → Nat → Int → Int → Option Addr → Nat → Nat → Mem → Prop) : Env → Mem → Prop := fun ρ m => UnS (ρ 0) fun x0a x0l x0c => UnS (ρ 3) fun x3a x3l x3c => UnI (ρ 9) .i64 fun x9 => UnP (ρ 10) fun x10 => UnP (ρ 12) fun x12 => UnPA (ρ 13) fun x13b x13o => UnI (ρ 14) .i64 fun x14 => UnI (ρ 15) .i64 fun x15 => UnS (ρ 17) fun x17a x17l x17c => K x0a x0l x0c x3a x3l x3c x9 x10 x12 x13b x13o x14 x15 x17a x17l x17c m
def k2 (K1 : Option Addr → Nat → Nat → Option Addr → Nat → Nat → Int → Option Addr → Option Addr → Nat → Nat → Int → Int → Mem → Prop) (x0a : Option Addr) (x0l : Nat) (x0c : Nat) (x3a : Option Addr) (x3l : Nat) (x3c : Nat) (x9 : Int) (x10 : Option Addr) (x12 : Option Addr) (x13b : Nat) (x13o : Nat) (x14 : Int) (x15 : Int) (x17a : Option Addr) (x17l : Nat) (x17c : Nat) (R : Ending → Mem → Prop) (m : Mem) : Prop :=
  Sub m fun r1 =>
  HC P page_Pages_Reads.id #[.pointer x10] m (Cont (fun v m2 =>
      UnS v fun x231a x231l x231c =>
      Lk r1 m2 fun r3 =>
      HC P eyotref13_SameInts.id #[.slice x231a x231l x231c, .slice x17a x17l x17c] m2 (Cont (fun v m4 =>
          UnB v fun x233 =>
          Lk r3 m4 fun r5 =>
          Br (!x233) (
            R (.returned (.bool false)) m4) (
            LdV r5 x13b (x13o + 1) fun v =>
            UnS v fun x241a x241l x241c =>
            HC P file_File_Kept.id #[.pointer x12] m4 (Cont (fun v m6 =>
                UnI v .i64 fun x237 =>
                Lk r5 m6 fun r7 =>
                Br (x237 != ((x241l : Nat) : Int)) (
                  R (.returned (.bool false)) m6) (
                  HC P file_File_Len.id #[.pointer x12] m6 (Cont (fun v m8 =>
                      UnI v .i64 fun x247 =>
                      Br (x247 != ((x0l : Nat) : Int)) (
                        R (.returned (.bool false)) m8) (
                        K1 x0a x0l x0c x3a x3l x3c x9 x10 x12 x13b x13o x14 (IntKind.i64.wrap (x15 + 1)) m8)) (panicR R)))) (panicR R)))) (panicR R))) (panicR R))
noncomputable def k2A (K1 : Option Addr → Nat → Nat → Option Addr → Nat → Nat → Int → Option Addr → Option Addr → Nat → Nat → Int → Int → Mem → Prop) (R : Ending → Mem → Prop) : ACode := (.code (sR (sR (sR (sR (bB (sL (sR (lP (bB (sR (sL (sR (sR (sR (sR (sR (sR (sR (sR (sR (body))))))))))))))))))))))
def k4E (K : Option Addr → Nat → Nat → Option Addr → Nat → Nat → Int → Option Addr → Option Addr → Nat → Nat → Int → Int → Nat → Nat → Option Addr → Nat → Nat → Int → Int → Bool → Mem → Prop) : Env → Mem → Prop := fun ρ m => UnS (ρ 0) fun x0a x0l x0c => UnS (ρ 3) fun x3a x3l x3c => UnI (ρ 9) .i64 fun x9 => UnP (ρ 10) fun x10 => UnP (ρ 12) fun x12 => UnPA (ρ 13) fun x13b x13o => UnI (ρ 14) .i64 fun x14 => UnI (ρ 15) .i64 fun x15 => UnPA (ρ 16) fun x16b x16o => UnS (ρ 17) fun x17a x17l x17c => UnI (ρ 18) .u8 fun x18 => UnI (ρ 19) .i64 fun x19 => UnB (ρ 187) fun x187 => K x0a x0l x0c x3a x3l x3c x9 x10 x12 x13b x13o x14 x15 x16b x16o x17a x17l x17c x18 x19 x187 m
def k4 (K1 : Option Addr → Nat → Nat → Option Addr → Nat → Nat → Int → Option Addr → Option Addr → Nat → Nat → Int → Int → Mem → Prop) (x0a : Option Addr) (x0l : Nat) (x0c : Nat) (x3a : Option Addr) (x3l : Nat) (x3c : Nat) (x9 : Int) (x10 : Option Addr) (x12 : Option Addr) (x13b : Nat) (x13o : Nat) (x14 : Int) (x15 : Int) (x16b : Nat) (x16o : Nat) (x17a : Option Addr) (x17l : Nat) (x17c : Nat) (x18 : Int) (x19 : Int) (x187 : Bool) (R : Ending → Mem → Prop) (m : Mem) : Prop :=
  Br x187 (
    Br (x19 != 1) (
      R (.returned (.bool false)) m) (
      Br (x18 != 0) (
        R (.returned (.bool false)) m) (
        k2 K1 x0a x0l x0c x3a x3l x3c x9 x10 x12 x13b x13o x14 x15 x17a x17l x17c R m))) (
    LdV m x16b (x16o + 1) fun v =>
    UnI v .i64 fun x197 =>
    LdV m x16b (x16o + 1) fun v =>
    UnI v .i64 fun x199 =>
    HC P eyotlaw5_walk.id #[.pointer (some ⟨x13b, x13o, none⟩), .int .i64 x197, .int .i64 (IntKind.i64.wrap (x199 + 1)), .int .i64 x9, .int .i64 x14] m (Cont (fun v m1 =>
        UnTup v fun us0 =>
        UnCons us0 fun w us1 =>
        UnS w fun x203_0a x203_0l x203_0c =>
        UnCons us1 fun w us2 =>
        UnI w .i64 fun x203_1 =>
        UnNil us2 (
          Br (x19 != x203_1) (
            R (.returned (.bool false)) m1) (
            Br (x203_1 == 0) (
              LdV m1 x16b (x16o + 1) fun v =>
              UnI v .i64 fun x216 =>
              IxS x0a x0l x216 1 fun x217b x217o =>
              LdV m1 x217b x217o fun v =>
              UnI v .u8 fun x218 =>
              Br (x18 != x218) (
                R (.returned (.bool false)) m1) (
                Br (x203_1 != 0) (
                  Br (x18 != 0) (
                    R (.returned (.bool false)) m1) (
                    k2 K1 x0a x0l x0c x3a x3l x3c x9 x10 x12 x13b x13o x14 x15 x203_0a x203_0l x203_0c R m1)) (
                  k2 K1 x0a x0l x0c x3a x3l x3c x9 x10 x12 x13b x13o x14 x15 x203_0a x203_0l x203_0c R m1))) (
              Br (x203_1 != 0) (
                Br (x18 != 0) (
                  R (.returned (.bool false)) m1) (
                  k2 K1 x0a x0l x0c x3a x3l x3c x9 x10 x12 x13b x13o x14 x15 x203_0a x203_0l x203_0c R m1)) (
                k2 K1 x0a x0l x0c x3a x3l x3c x9 x10 x12 x13b x13o x14 x15 x203_0a x203_0l x203_0c R m1))))) (panicR R)))
noncomputable def k4A (K1 : Option Addr → Nat → Nat → Option Addr → Nat → Nat → Int → Option Addr → Option Addr → Nat → Nat → Int → Int → Mem → Prop) (R : Ending → Mem → Prop) : ACode := (.code (sR (sL (sR (cT (sR (cE (sR (cE (sR (cE (sR (bB (sR (sL (sR (sR (sR (bB (sL (sR (lP (bB (sR (sL (sR (sR (sR (sR (sR (sR (sR (sR (sR (body)))))))))))))))))))))))))))))))))))
def k5E (K : Option Addr → Nat → Nat → Option Addr → Nat → Nat → Int → Option Addr → Option Addr → Nat → Nat → Int → Int → Nat → Nat → Option Addr → Nat → Nat → Option Addr → Nat → Nat → Int → Bool → Mem → Prop) : Env → Mem → Prop := fun ρ m => UnS (ρ 0) fun x0a x0l x0c => UnS (ρ 3) fun x3a x3l x3c => UnI (ρ 9) .i64 fun x9 => UnP (ρ 10) fun x10 => UnP (ρ 12) fun x12 => UnPA (ρ 13) fun x13b x13o => UnI (ρ 14) .i64 fun x14 => UnI (ρ 15) .i64 fun x15 => UnPA (ρ 16) fun x16b x16o => UnS (ρ 17) fun x17a x17l x17c => UnS (ρ 21) fun x21a x21l x21c => UnI (ρ 22) .i64 fun x22 => UnB (ρ 98) fun x98 => K x0a x0l x0c x3a x3l x3c x9 x10 x12 x13b x13o x14 x15 x16b x16o x17a x17l x17c x21a x21l x21c x22 x98 m
def k5 (K1 : Option Addr → Nat → Nat → Option Addr → Nat → Nat → Int → Option Addr → Option Addr → Nat → Nat → Int → Int → Mem → Prop) (x0a : Option Addr) (x0l : Nat) (x0c : Nat) (x3a : Option Addr) (x3l : Nat) (x3c : Nat) (x9 : Int) (x10 : Option Addr) (x12 : Option Addr) (x13b : Nat) (x13o : Nat) (x14 : Int) (x15 : Int) (x16b : Nat) (x16o : Nat) (x17a : Option Addr) (x17l : Nat) (x17c : Nat) (x21a : Option Addr) (x21l : Nat) (x21c : Nat) (x22 : Int) (x98 : Bool) (R : Ending → Mem → Prop) (m : Mem) : Prop :=
  Br x98 (
    Br (x22 != 1) (
      R (.returned (.bool false)) m) (
      Br (decide (((x21l : Nat) : Int) > 0)) (
        R (.returned (.bool false)) m) (
        k2 K1 x0a x0l x0c x3a x3l x3c x9 x10 x12 x13b x13o x14 x15 x17a x17l x17c R m))) (
    LdV m x16b (x16o + 1) fun v =>
    UnI v .i64 fun x109 =>
    LdV m x16b (x16o + 2) fun v =>
    UnI v .i64 fun x111 =>
    HC P eyotlaw5_walk.id #[.pointer (some ⟨x13b, x13o, none⟩), .int .i64 x109, .int .i64 x111, .int .i64 x9, .int .i64 x14] m (Cont (fun v m1 =>
        UnTup v fun us0 =>
        UnCons us0 fun w us1 =>
        UnS w fun x114_0a x114_0l x114_0c =>
        UnCons us1 fun w us2 =>
        UnI w .i64 fun x114_1 =>
        UnNil us2 (
          Sub m1 fun r2 =>
          Br (x22 != x114_1) (
            R (.returned (.bool false)) m1) (
            Br (x114_1 == 0) (
              B2S r2 x21a x21l fun s125 =>
              LdV r2 x16b (x16o + 1) fun v =>
              UnI v .i64 fun x128 =>
              LdV m1 x16b (x16o + 2) fun v =>
              UnI v .i64 fun x130 =>
              SlS x0a x0c x128 x130 1 fun x131a x131l x131c =>
              B2S m1 x131a x131l fun s132 =>
              Br (!(s125.toList == s132.toList)) (
                R (.returned (.bool false)) m1) (
                Br (x114_1 != 0) (
                  Br (decide (((x21l : Nat) : Int) > 0)) (
                    R (.returned (.bool false)) m1) (
                    k2 K1 x0a x0l x0c x3a x3l x3c x9 x10 x12 x13b x13o x14 x15 x114_0a x114_0l x114_0c R m1)) (
                  k2 K1 x0a x0l x0c x3a x3l x3c x9 x10 x12 x13b x13o x14 x15 x114_0a x114_0l x114_0c R m1))) (
              Br (x114_1 != 0) (
                Br (decide (((x21l : Nat) : Int) > 0)) (
                  R (.returned (.bool false)) m1) (
                  k2 K1 x0a x0l x0c x3a x3l x3c x9 x10 x12 x13b x13o x14 x15 x114_0a x114_0l x114_0c R m1)) (
                k2 K1 x0a x0l x0c x3a x3l x3c x9 x10 x12 x13b x13o x14 x15 x114_0a x114_0l x114_0c R m1))))) (panicR R)))
noncomputable def k5A (K1 : Option Addr → Nat → Nat → Option Addr → Nat → Nat → Int → Option Addr → Option Addr → Nat → Nat → Int → Int → Mem → Prop) (R : Ending → Mem → Prop) : ACode := (.code (sR (sL (sR (cE (sR (cE (sR (cE (sR (cE (sR (bB (sR (sL (sR (sR (sR (bB (sL (sR (lP (bB (sR (sL (sR (sR (sR (sR (sR (sR (sR (sR (sR (body)))))))))))))))))))))))))))))))))))
def k3E (K : Option Addr → Nat → Nat → Option Addr → Nat → Nat → Int → Option Addr → Option Addr → Nat → Nat → Int → Int → Nat → Nat → Option Addr → Nat → Nat → Bool → Mem → Prop) : Env → Mem → Prop := fun ρ m => UnS (ρ 0) fun x0a x0l x0c => UnS (ρ 3) fun x3a x3l x3c => UnI (ρ 9) .i64 fun x9 => UnP (ρ 10) fun x10 => UnP (ρ 12) fun x12 => UnPA (ρ 13) fun x13b x13o => UnI (ρ 14) .i64 fun x14 => UnI (ρ 15) .i64 fun x15 => UnPA (ρ 16) fun x16b x16o => UnS (ρ 17) fun x17a x17l x17c => UnB (ρ 167) fun x167 => K x0a x0l x0c x3a x3l x3c x9 x10 x12 x13b x13o x14 x15 x16b x16o x17a x17l x17c x167 m
def k3 (K1 : Option Addr → Nat → Nat → Option Addr → Nat → Nat → Int → Option Addr → Option Addr → Nat → Nat → Int → Int → Mem → Prop) (x0a : Option Addr) (x0l : Nat) (x0c : Nat) (x3a : Option Addr) (x3l : Nat) (x3c : Nat) (x9 : Int) (x10 : Option Addr) (x12 : Option Addr) (x13b : Nat) (x13o : Nat) (x14 : Int) (x15 : Int) (x16b : Nat) (x16o : Nat) (x17a : Option Addr) (x17l : Nat) (x17c : Nat) (x167 : Bool) (R : Ending → Mem → Prop) (m : Mem) : Prop :=
  Br x167 (
    LdV m x16b (x16o + 1) fun v =>
    UnI v .i64 fun x174 =>
    HC P file_File_At.id #[.pointer x12, .int .i64 x174] m (Cont (fun v m1 =>
        UnTup v fun us0 =>
        UnCons us0 fun w us1 =>
        UnI w .u8 fun x175_0 =>
        UnCons us1 fun w us2 =>
        UnI w .i64 fun x175_1 =>
        UnNil us2 (
          LdV m1 x16b (x16o + 1) fun v =>
          UnI v .i64 fun x179 =>
          Br (decide (x179 < 0)) (
            k4 K1 x0a x0l x0c x3a x3l x3c x9 x10 x12 x13b x13o x14 x15 x16b x16o x17a x17l x17c x175_0 x175_1 true R m1) (
            LdV m1 x16b (x16o + 1) fun v =>
            UnI v .i64 fun x183 =>
            k4 K1 x0a x0l x0c x3a x3l x3c x9 x10 x12 x13b x13o x14 x15 x16b x16o x17a x17l x17c x175_0 x175_1 (decide (x183 ≥ ((x0l : Nat) : Int))) R m1))) (panicR R))) (
    LdV m x16b (x16o + 1) fun v =>
    UnI v .i64 fun x76 =>
    LdV m x16b (x16o + 2) fun v =>
    UnI v .i64 fun x78 =>
    HC P file_File_Bytes.id #[.pointer x12, .int .i64 x76, .int .i64 x78] m (Cont (fun v m1 =>
        UnTup v fun us0 =>
        UnCons us0 fun w us1 =>
        UnS w fun x79_0a x79_0l x79_0c =>
        UnCons us1 fun w us2 =>
        UnI w .i64 fun x79_1 =>
        UnNil us2 (
          LdV m1 x16b (x16o + 1) fun v =>
          UnI v .i64 fun x83 =>
          Br (decide (x83 < 0)) (
            k5 K1 x0a x0l x0c x3a x3l x3c x9 x10 x12 x13b x13o x14 x15 x16b x16o x17a x17l x17c x79_0a x79_0l x79_0c x79_1 true R m1) (
            LdV m1 x16b (x16o + 1) fun v =>
            UnI v .i64 fun x87 =>
            LdV m1 x16b (x16o + 2) fun v =>
            UnI v .i64 fun x89 =>
            Br (decide (x87 > x89)) (
              k5 K1 x0a x0l x0c x3a x3l x3c x9 x10 x12 x13b x13o x14 x15 x16b x16o x17a x17l x17c x79_0a x79_0l x79_0c x79_1 true R m1) (
              LdV m1 x16b (x16o + 2) fun v =>
              UnI v .i64 fun x94 =>
              k5 K1 x0a x0l x0c x3a x3l x3c x9 x10 x12 x13b x13o x14 x15 x16b x16o x17a x17l x17c x79_0a x79_0l x79_0c x79_1 (decide (x94 > ((x0l : Nat) : Int))) R m1)))) (panicR R)))
noncomputable def k3A (K1 : Option Addr → Nat → Nat → Option Addr → Nat → Nat → Int → Option Addr → Option Addr → Nat → Nat → Int → Int → Mem → Prop) (R : Ending → Mem → Prop) : ACode := (.cond (.tmp 167) (.seq (.code (sL (cT (sR (cE (sR (cE (sR (cE (sR (bB (sR (sL (sR (sR (sR (bB (sL (sR (lP (bB (sR (sL (sR (sR (sR (sR (sR (sR (sR (sR (sR (body))))))))))))))))))))))))))))))))) (.seq (.seq (.code (sL (sL (sR (cT (sR (cE (sR (cE (sR (cE (sR (bB (sR (sL (sR (sR (sR (bB (sL (sR (lP (bB (sR (sL (sR (sR (sR (sR (sR (sR (sR (sR (sR (body))))))))))))))))))))))))))))))))))) (.cut (k4E fun x0a x0l x0c x3a x3l x3c x9 x10 x12 x13b x13o x14 x15 x16b x16o x17a x17l x17c x18 x19 x187 m => k4 K1 x0a x0l x0c x3a x3l x3c x9 x10 x12 x13b x13o x14 x15 x16b x16o x17a x17l x17c x18 x19 x187 R m) (sR (sL (sR (cT (sR (cE (sR (cE (sR (cE (sR (bB (sR (sL (sR (sR (sR (bB (sL (sR (lP (bB (sR (sL (sR (sR (sR (sR (sR (sR (sR (sR (sR (body)))))))))))))))))))))))))))))))))))) (.code (sR (sR (cT (sR (cE (sR (cE (sR (cE (sR (bB (sR (sL (sR (sR (sR (bB (sL (sR (lP (bB (sR (sL (sR (sR (sR (sR (sR (sR (sR (sR (sR (body)))))))))))))))))))))))))))))))))))) (.seq (.code (sL (cE (sR (cE (sR (cE (sR (cE (sR (bB (sR (sL (sR (sR (sR (bB (sL (sR (lP (bB (sR (sL (sR (sR (sR (sR (sR (sR (sR (sR (sR (body))))))))))))))))))))))))))))))))) (.seq (.seq (.code (sL (sL (sR (cE (sR (cE (sR (cE (sR (cE (sR (bB (sR (sL (sR (sR (sR (bB (sL (sR (lP (bB (sR (sL (sR (sR (sR (sR (sR (sR (sR (sR (sR (body))))))))))))))))))))))))))))))))))) (.cut (k5E fun x0a x0l x0c x3a x3l x3c x9 x10 x12 x13b x13o x14 x15 x16b x16o x17a x17l x17c x21a x21l x21c x22 x98 m => k5 K1 x0a x0l x0c x3a x3l x3c x9 x10 x12 x13b x13o x14 x15 x16b x16o x17a x17l x17c x21a x21l x21c x22 x98 R m) (sR (sL (sR (cE (sR (cE (sR (cE (sR (cE (sR (bB (sR (sL (sR (sR (sR (bB (sL (sR (lP (bB (sR (sL (sR (sR (sR (sR (sR (sR (sR (sR (sR (body)))))))))))))))))))))))))))))))))))) (.code (sR (sR (cE (sR (cE (sR (cE (sR (cE (sR (bB (sR (sL (sR (sR (sR (bB (sL (sR (lP (bB (sR (sL (sR (sR (sR (sR (sR (sR (sR (sR (sR (body)))))))))))))))))))))))))))))))))))))
def l1E (K : Option Addr → Nat → Nat → Option Addr → Nat → Nat → Int → Option Addr → Option Addr → Nat → Nat → Int → Int → Mem → Prop) : Env → Mem → Prop := fun ρ m => UnS (ρ 0) fun x0a x0l x0c => UnS (ρ 3) fun x3a x3l x3c => UnI (ρ 9) .i64 fun x9 => UnP (ρ 10) fun x10 => UnP (ρ 12) fun x12 => UnPA (ρ 13) fun x13b x13o => UnI (ρ 14) .i64 fun x14 => UnI (ρ 15) .i64 fun x15 => K x0a x0l x0c x3a x3l x3c x9 x10 x12 x13b x13o x14 x15 m
def l1B  (K1 : Option Addr → Nat → Nat → Option Addr → Nat → Nat → Int → Option Addr → Option Addr → Nat → Nat → Int → Int → Mem → Prop) (x0a : Option Addr) (x0l : Nat) (x0c : Nat) (x3a : Option Addr) (x3l : Nat) (x3c : Nat) (x9 : Int) (x10 : Option Addr) (x12 : Option Addr) (x13b : Nat) (x13o : Nat) (x14 : Int) (x15 : Int) (R : Ending → Mem → Prop) (m : Mem) : Prop :=
  Br (decide (x15 < ((x3l : Nat) : Int))) (
    IxS x3a x3l x15 3 fun x64b x64o =>
    LdV m x64b x64o fun v =>
    UnI v .i64 fun x65_0 =>
    LdV m x64b (x64o + 1) fun v =>
    UnI v .i64 fun x65_1 =>
    LdV m x64b (x64o + 2) fun v =>
    UnI v .i64 fun x65_2 =>
    NewC m #[.int .i64 0, .int .i64 0, .int .i64 0] T_eyotlaw5_Op fun b16 m1 =>
    St1 m1 b16 0 (.int .i64 x65_0) fun m2 =>
    St1 m2 b16 1 (.int .i64 x65_1) fun m3 =>
    St1 m3 b16 2 (.int .i64 x65_2) fun m4 =>
    HC P page_Pages_Clear.id #[.pointer x10] m4 (Cont (fun v m5 =>
        UnTup v fun us0 =>
        UnNil us0 (
          LdV m5 b16 0 fun v =>
          UnI v .i64 fun x69 =>
          Br ((Int.tmod (IntKind.i64.wrap ((Int.tmod x69 10) + 10)) 10) == 7) (
            HC P file_File_Evict.id #[.pointer x12] m5 (Cont (fun v m6 =>
                UnTup v fun us0 =>
                UnNil us0 (
                  St1 m6 x13b (x13o + 1) (.slice none 0 0) fun m7 =>
                  St1 m7 x13b (x13o + 2) (.slice none 0 0) fun m8 =>
                  k2 K1 x0a x0l x0c x3a x3l x3c x9 x10 x12 x13b x13o x14 x15 none 0 0 R m8)) (panicR R))) (
            Br ((Int.tmod (IntKind.i64.wrap ((Int.tmod x69 10) + 10)) 10) == 8) (
              LdV m5 b16 1 fun v =>
              UnI v .i64 fun x158 =>
              NewC m5 #[.int .i64 x158] T_int fun b161 m6 =>
              HC P page_Pages_Fault.id #[.pointer x10, .slice (some ⟨b161, 0, none⟩) 1 1] m6 (Cont (fun v m7 =>
                  UnTup v fun us0 =>
                  UnNil us0 (
                    k2 K1 x0a x0l x0c x3a x3l x3c x9 x10 x12 x13b x13o x158 x15 none 0 0 R m7)) (panicR R))) (
              Br ((Int.tmod (IntKind.i64.wrap ((Int.tmod x69 10) + 10)) 10) == 9) (
                HC P page_Pages_Fault.id #[.pointer x10, .slice none 0 0] m5 (Cont (fun v m6 =>
                    UnTup v fun us0 =>
                    UnNil us0 (
                      k2 K1 x0a x0l x0c x3a x3l x3c x9 x10 x12 x13b x13o (-1) x15 none 0 0 R m6)) (panicR R))) (
                Br ((Int.tmod (IntKind.i64.wrap ((Int.tmod x69 10) + 10)) 10) == 4) (
                  k3 K1 x0a x0l x0c x3a x3l x3c x9 x10 x12 x13b x13o x14 x15 b16 0 none 0 0 true R m5) (
                  Br ((Int.tmod (IntKind.i64.wrap ((Int.tmod x69 10) + 10)) 10) == 5) (
                    k3 K1 x0a x0l x0c x3a x3l x3c x9 x10 x12 x13b x13o x14 x15 b16 0 none 0 0 true R m5) (
                    k3 K1 x0a x0l x0c x3a x3l x3c x9 x10 x12 x13b x13o x14 x15 b16 0 none 0 0 ((Int.tmod (IntKind.i64.wrap ((Int.tmod x69 10) + 10)) 10) == 6) R m5))))))) (panicR R))) (
    R (.returned (.bool true)) m)
def l1  (x0a : Option Addr) (x0l : Nat) (x0c : Nat) (x3a : Option Addr) (x3l : Nat) (x3c : Nat) (x9 : Int) (x10 : Option Addr) (x12 : Option Addr) (x13b : Nat) (x13o : Nat) (x14 : Int) (x15 : Int) (R : Ending → Mem → Prop) (m : Mem) : Prop :=
  ∃ (I : Nat → Option Addr → Nat → Nat → Option Addr → Nat → Nat → Int → Option Addr → Option Addr → Nat → Nat → Int → Int → Mem → Prop) (N : Nat), I N x0a x0l x0c x3a x3l x3c x9 x10 x12 x13b x13o x14 x15 m ∧ ∀ N x0a x0l x0c x3a x3l x3c x9 x10 x12 x13b x13o x14 x15 m, I N x0a x0l x0c x3a x3l x3c x9 x10 x12 x13b x13o x14 x15 m → l1B  (fun x0a x0l x0c x3a x3l x3c x9 x10 x12 x13b x13o x14 x15 m => ∃ N1, N1 < N ∧ I N1 x0a x0l x0c x3a x3l x3c x9 x10 x12 x13b x13o x14 x15 m) x0a x0l x0c x3a x3l x3c x9 x10 x12 x13b x13o x14 x15 R m
noncomputable def l1A  (K1 : Option Addr → Nat → Nat → Option Addr → Nat → Nat → Int → Option Addr → Option Addr → Nat → Nat → Int → Int → Mem → Prop) (R : Ending → Mem → Prop) : ACode := (.seq (.code (sL (lP (bB (sR (sL (sR (sR (sR (sR (sR (sR (sR (sR (sR (body)))))))))))))))) (.seq (.block 1 (.seq (.code (sL (bB (sL (sR (lP (bB (sR (sL (sR (sR (sR (sR (sR (sR (sR (sR (sR (body))))))))))))))))))) (.seq (.code (sL (sR (bB (sL (sR (lP (bB (sR (sL (sR (sR (sR (sR (sR (sR (sR (sR (sR (body)))))))))))))))))))) (.seq (.code (sL (sR (sR (bB (sL (sR (lP (bB (sR (sL (sR (sR (sR (sR (sR (sR (sR (sR (sR (body))))))))))))))))))))) (.seq (.seq (.code (sL (sL (sR (sR (sR (bB (sL (sR (lP (bB (sR (sL (sR (sR (sR (sR (sR (sR (sR (sR (sR (body))))))))))))))))))))))) (.block 2 (.seq (.code (sL (bB (sR (sL (sR (sR (sR (bB (sL (sR (lP (bB (sR (sL (sR (sR (sR (sR (sR (sR (sR (sR (sR (body))))))))))))))))))))))))) (.cond (.tmp 145) (.code (cT (sR (bB (sR (sL (sR (sR (sR (bB (sL (sR (lP (bB (sR (sL (sR (sR (sR (sR (sR (sR (sR (sR (sR (body)))))))))))))))))))))))))) (.seq (.code (sL (cE (sR (bB (sR (sL (sR (sR (sR (bB (sL (sR (lP (bB (sR (sL (sR (sR (sR (sR (sR (sR (sR (sR (sR (body))))))))))))))))))))))))))) (.cond (.tmp 155) (.code (cT (sR (cE (sR (bB (sR (sL (sR (sR (sR (bB (sL (sR (lP (bB (sR (sL (sR (sR (sR (sR (sR (sR (sR (sR (sR (body)))))))))))))))))))))))))))) (.seq (.code (sL (cE (sR (cE (sR (bB (sR (sL (sR (sR (sR (bB (sL (sR (lP (bB (sR (sL (sR (sR (sR (sR (sR (sR (sR (sR (sR (body))))))))))))))))))))))))))))) (.cond (.tmp 163) (.code (cT (sR (cE (sR (cE (sR (bB (sR (sL (sR (sR (sR (bB (sL (sR (lP (bB (sR (sL (sR (sR (sR (sR (sR (sR (sR (sR (sR (body)))))))))))))))))))))))))))))) (.seq (.code (sL (cE (sR (cE (sR (cE (sR (bB (sR (sL (sR (sR (sR (bB (sL (sR (lP (bB (sR (sL (sR (sR (sR (sR (sR (sR (sR (sR (sR (body))))))))))))))))))))))))))))))) (.cut (k3E fun x0a x0l x0c x3a x3l x3c x9 x10 x12 x13b x13o x14 x15 x16b x16o x17a x17l x17c x167 m => k3 K1 x0a x0l x0c x3a x3l x3c x9 x10 x12 x13b x13o x14 x15 x16b x16o x17a x17l x17c x167 R m) (sR (cE (sR (cE (sR (cE (sR (bB (sR (sL (sR (sR (sR (bB (sL (sR (lP (bB (sR (sL (sR (sR (sR (sR (sR (sR (sR (sR (sR (body)))))))))))))))))))))))))))))))))))))))) (.cut (k2E fun x0a x0l x0c x3a x3l x3c x9 x10 x12 x13b x13o x14 x15 x17a x17l x17c m => k2 K1 x0a x0l x0c x3a x3l x3c x9 x10 x12 x13b x13o x14 x15 x17a x17l x17c R m) (sR (sR (sR (sR (bB (sL (sR (lP (bB (sR (sL (sR (sR (sR (sR (sR (sR (sR (sR (sR (body))))))))))))))))))))))))))) (.code (sR (sR (lP (bB (sR (sL (sR (sR (sR (sR (sR (sR (sR (sR (sR (body)))))))))))))))))))
def e0 (a0a : Option Addr) (a0l : Nat) (a0c : Nat) (a1 : Int) (a2 : Int) (a3a : Option Addr) (a3l : Nat) (a3c : Nat) (R : Ending → Mem → Prop) (m : Mem) : Prop :=
  HC P eyotlaw5_begun.id #[] m (Cont (fun v m1 =>
      UnB v fun x24 =>
      Br (!x24) (
        R (.returned (.bool false)) m1) (
        Br (decide (((a0l : Nat) : Int) > 300)) (
          R (.returned (.bool true)) m1) (
          Br (decide (((a3l : Nat) : Int) > 30)) (
            R (.returned (.bool true)) m1) (
            HC P page_New.id #[.slice a0a a0l a0c, .int .i64 (IntKind.i64.wrap (1 + (Int.tmod (IntKind.i64.wrap a1) 20)))] m1 (Cont (fun v m2 =>
                UnTup v fun us0 =>
                UnCons us0 fun w us1 =>
                UnP w fun x41_0 =>
                UnCons us1 fun w us2 =>
                UnI w .i64 fun x41_1 =>
                UnNil us2 (
                  HC P file_New.id #[.pointer x41_0, .int .i64 a2] m2 (Cont (fun v m3 =>
                      UnP v fun x46 =>
                      Br (x41_1 != 0) (
                        R (.returned (.bool false)) m3) (
                        Br x46.isNone (
                        R (.returned (.bool false)) m3) (
                        NewC m3 #[.int .i64 a2, .slice none 0 0, .slice none 0 0] T_eyotref3_Cache fun b55 m4 =>
                        l1  a0a a0l a0c a3a a3l a3c (IntKind.i64.wrap (1 + (Int.tmod (IntKind.i64.wrap a1) 20))) x41_0 x46 b55 0 (-1) 0 R m4))) (panicR R)))) (panicR R)))))) (panicR R))
noncomputable def e0A (R : Ending → Mem → Prop) : ACode := (.seq (.code (sL (body))) (.seq (.code (sL (sR (body)))) (.seq (.code (sL (sR (sR (body))))) (.seq (.code (sL (sR (sR (sR (body)))))) (.seq (.code (sL (sR (sR (sR (sR (body))))))) (.seq (.code (sL (sR (sR (sR (sR (sR (body)))))))) (.seq (.code (sL (sR (sR (sR (sR (sR (sR (body))))))))) (.seq (.code (sL (sR (sR (sR (sR (sR (sR (sR (body)))))))))) (.seq (.code (sL (sR (sR (sR (sR (sR (sR (sR (sR (body))))))))))) (.seq (.seq (.code (sL (sL (sR (sR (sR (sR (sR (sR (sR (sR (sR (body))))))))))))) (.block 0 (.cut (l1E fun x0a x0l x0c x3a x3l x3c x9 x10 x12 x13b x13o x14 x15 m => l1  x0a x0l x0c x3a x3l x3c x9 x10 x12 x13b x13o x14 x15 R m) (.loop (lP (bB (sR (sL (sR (sR (sR (sR (sR (sR (sR (sR (sR (body)))))))))))))))))) (.code (sR (sR (sR (sR (sR (sR (sR (sR (sR (sR (body))))))))))))))))))))))
theorem k2_eq (K1 : Option Addr → Nat → Nat → Option Addr → Nat → Nat → Int → Option Addr → Option Addr → Nat → Nat → Int → Int → Mem → Prop) (R : Ending → Mem → Prop) (x0a : Option Addr) (x0l : Nat) (x0c : Nat) (x3a : Option Addr) (x3l : Nat) (x3c : Nat) (x9 : Int) (x10 : Option Addr) (x12 : Option Addr) (x13b : Nat) (x13o : Nat) (x14 : Int) (x15 : Int) (x17a : Option Addr) (x17l : Nat) (x17c : Nat) (ρ : Env) (m : Mem) : k2 K1 x0a x0l x0c x3a x3l x3c x9 x10 x12 x13b x13o x14 x15 x17a x17l x17c R m = acpt P od (panicR R) (k2A K1 R) (blockQ 1 (thenQ (acpt P od (panicR R) (.code (sR (sR (lP (bB (sR (sL (sR (sR (sR (sR (sR (sR (sR (sR (sR (body))))))))))))))))) (thenQ (l1E K1) (blockQ 0 (thenQ (acpt P od (panicR R) (.code (sR (sR (sR (sR (sR (sR (sR (sR (sR (sR (body)))))))))))) (bodyQ P fn R)) (bodyQ P fn R))))) (thenQ (l1E K1) (blockQ 0 (thenQ (acpt P od (panicR R) (.code (sR (sR (sR (sR (sR (sR (sR (sR (sR (sR (body)))))))))))) (bodyQ P fn R)) (bodyQ P fn R)))))) (upd (upd (upd (upd (upd (upd (upd (upd (upd ρ 17 (.slice x17a x17l x17c)) 15 (.int .i64 x15)) 14 (.int .i64 x14)) 13 (.pointer (some ⟨x13b, x13o, none⟩))) 12 (.pointer x12)) 10 (.pointer x10)) 9 (.int .i64 x9)) 3 (.slice x3a x3l x3c)) 0 (.slice x0a x0l x0c)) m := by kernel_rfl
theorem k2_er (K1 : Option Addr → Nat → Nat → Option Addr → Nat → Nat → Int → Option Addr → Option Addr → Nat → Nat → Int → Int → Mem → Prop) (R : Ending → Mem → Prop) : (k2A K1 R).erase = sR (sR (sR (sR (bB (sL (sR (lP (bB (sR (sL (sR (sR (sR (sR (sR (sR (sR (sR (sR (body)))))))))))))))))))) := by kernel_rfl
theorem k2_ok (K1 : Option Addr → Nat → Nat → Option Addr → Nat → Nat → Int → Option Addr → Option Addr → Nat → Nat → Int → Int → Mem → Prop) (R : Ending → Mem → Prop) (ρ : Env) (m : Mem) (h : (k2E fun x0a x0l x0c x3a x3l x3c x9 x10 x12 x13b x13o x14 x15 x17a x17l x17c m => k2 K1 x0a x0l x0c x3a x3l x3c x9 x10 x12 x13b x13o x14 x15 x17a x17l x17c R m) ρ m) : cpt P od (panicR R) (sR (sR (sR (sR (bB (sL (sR (lP (bB (sR (sL (sR (sR (sR (sR (sR (sR (sR (sR (sR (body))))))))))))))))))))) (blockQ 1 (thenQ (acpt P od (panicR R) (.code (sR (sR (lP (bB (sR (sL (sR (sR (sR (sR (sR (sR (sR (sR (sR (body))))))))))))))))) (thenQ (l1E K1) (blockQ 0 (thenQ (acpt P od (panicR R) (.code (sR (sR (sR (sR (sR (sR (sR (sR (sR (sR (body)))))))))))) (bodyQ P fn R)) (bodyQ P fn R))))) (thenQ (l1E K1) (blockQ 0 (thenQ (acpt P od (panicR R) (.code (sR (sR (sR (sR (sR (sR (sR (sR (sR (sR (body)))))))))))) (bodyQ P fn R)) (bodyQ P fn R)))))) ρ m := by
  unfold k2E at h
  obtain ⟨x0a, x0l, x0c, e0, h⟩ := h.ex
  obtain ⟨x3a, x3l, x3c, e3, h⟩ := h.ex
  obtain ⟨x9, e9, h⟩ := h.ex
  obtain ⟨x10, e10, h⟩ := h.ex
  obtain ⟨x12, e12, h⟩ := h.ex
  obtain ⟨x13b, x13o, e13, h⟩ := h.ex
  obtain ⟨x14, e14, h⟩ := h.ex
  obtain ⟨x15, e15, h⟩ := h.ex
  obtain ⟨x17a, x17l, x17c, e17, h⟩ := h.ex
  rw [← upd_self e0, ← upd_self e3, ← upd_self e9, ← upd_self e10, ← upd_self e12, ← upd_self e13, ← upd_self e14, ← upd_self e15, ← upd_self e17]
  rw [← k2_er K1 R]
  refine acpt_sound (P := P) (k2A K1 R) _ _ _ True.intro ?_
  exact Eq.mp (k2_eq K1 R x0a x0l x0c x3a x3l x3c x9 x10 x12 x13b x13o x14 x15 x17a x17l x17c ρ m) h
theorem k4_eq (K1 : Option Addr → Nat → Nat → Option Addr → Nat → Nat → Int → Option Addr → Option Addr → Nat → Nat → Int → Int → Mem → Prop) (R : Ending → Mem → Prop) (x0a : Option Addr) (x0l : Nat) (x0c : Nat) (x3a : Option Addr) (x3l : Nat) (x3c : Nat) (x9 : Int) (x10 : Option Addr) (x12 : Option Addr) (x13b : Nat) (x13o : Nat) (x14 : Int) (x15 : Int) (x16b : Nat) (x16o : Nat) (x17a : Option Addr) (x17l : Nat) (x17c : Nat) (x18 : Int) (x19 : Int) (x187 : Bool) (ρ : Env) (m : Mem) : k4 K1 x0a x0l x0c x3a x3l x3c x9 x10 x12 x13b x13o x14 x15 x16b x16o x17a x17l x17c x18 x19 x187 R m = acpt P od (panicR R) (k4A K1 R) (thenQ (acpt P od (panicR R) (.code (sR (sR (cT (sR (cE (sR (cE (sR (cE (sR (bB (sR (sL (sR (sR (sR (bB (sL (sR (lP (bB (sR (sL (sR (sR (sR (sR (sR (sR (sR (sR (sR (body)))))))))))))))))))))))))))))))))) (blockQ 2 (thenQ (acpt P od (panicR R) (.cut (k2E fun x0a x0l x0c x3a x3l x3c x9 x10 x12 x13b x13o x14 x15 x17a x17l x17c m => k2 K1 x0a x0l x0c x3a x3l x3c x9 x10 x12 x13b x13o x14 x15 x17a x17l x17c R m) (sR (sR (sR (sR (bB (sL (sR (lP (bB (sR (sL (sR (sR (sR (sR (sR (sR (sR (sR (sR (body)))))))))))))))))))))) (blockQ 1 (thenQ (acpt P od (panicR R) (.code (sR (sR (lP (bB (sR (sL (sR (sR (sR (sR (sR (sR (sR (sR (sR (body))))))))))))))))) (thenQ (l1E K1) (blockQ 0 (thenQ (acpt P od (panicR R) (.code (sR (sR (sR (sR (sR (sR (sR (sR (sR (sR (body)))))))))))) (bodyQ P fn R)) (bodyQ P fn R))))) (thenQ (l1E K1) (blockQ 0 (thenQ (acpt P od (panicR R) (.code (sR (sR (sR (sR (sR (sR (sR (sR (sR (sR (body)))))))))))) (bodyQ P fn R)) (bodyQ P fn R))))))) (blockQ 1 (thenQ (acpt P od (panicR R) (.code (sR (sR (lP (bB (sR (sL (sR (sR (sR (sR (sR (sR (sR (sR (sR (body))))))))))))))))) (thenQ (l1E K1) (blockQ 0 (thenQ (acpt P od (panicR R) (.code (sR (sR (sR (sR (sR (sR (sR (sR (sR (sR (body)))))))))))) (bodyQ P fn R)) (bodyQ P fn R))))) (thenQ (l1E K1) (blockQ 0 (thenQ (acpt P od (panicR R) (.code (sR (sR (sR (sR (sR (sR (sR (sR (sR (sR (body)))))))))))) (bodyQ P fn R)) (bodyQ P fn R))))))))) (blockQ 2 (thenQ (acpt P od (panicR R) (.cut (k2E fun x0a x0l x0c x3a x3l x3c x9 x10 x12 x13b x13o x14 x15 x17a x17l x17c m => k2 K1 x0a x0l x0c x3a x3l x3c x9 x10 x12 x13b x13o x14 x15 x17a x17l x17c R m) (sR (sR (sR (sR (bB (sL (sR (lP (bB (sR (sL (sR (sR (sR (sR (sR (sR (sR (sR (sR (body)))))))))))))))))))))) (blockQ 1 (thenQ (acpt P od (panicR R) (.code (sR (sR (lP (bB (sR (sL (sR (sR (sR (sR (sR (sR (sR (sR (sR (body))))))))))))))))) (thenQ (l1E K1) (blockQ 0 (thenQ (acpt P od (panicR R) (.code (sR (sR (sR (sR (sR (sR (sR (sR (sR (sR (body)))))))))))) (bodyQ P fn R)) (bodyQ P fn R))))) (thenQ (l1E K1) (blockQ 0 (thenQ (acpt P od (panicR R) (.code (sR (sR (sR (sR (sR (sR (sR (sR (sR (sR (body)))))))))))) (bodyQ P fn R)) (bodyQ P fn R))))))) (blockQ 1 (thenQ (acpt P od (panicR R) (.code (sR (sR (lP (bB (sR (sL (sR (sR (sR (sR (sR (sR (sR (sR (sR (body))))))))))))))))) (thenQ (l1E K1) (blockQ 0 (thenQ (acpt P od (panicR R) (.code (sR (sR (sR (sR (sR (sR (sR (sR (sR (sR (body)))))))))))) (bodyQ P fn R)) (bodyQ P fn R))))) (thenQ (l1E K1) (blockQ 0 (thenQ (acpt P od (panicR R) (.code (sR (sR (sR (sR (sR (sR (sR (sR (sR (sR (body)))))))))))) (bodyQ P fn R)) (bodyQ P fn R))))))))) (upd (upd (upd (upd (upd (upd (upd (upd (upd (upd (upd (upd (upd ρ 187 (.bool x187)) 19 (.int .i64 x19)) 18 (.int .u8 x18)) 17 (.slice x17a x17l x17c)) 16 (.pointer (some ⟨x16b, x16o, none⟩))) 15 (.int .i64 x15)) 14 (.int .i64 x14)) 13 (.pointer (some ⟨x13b, x13o, none⟩))) 12 (.pointer x12)) 10 (.pointer x10)) 9 (.int .i64 x9)) 3 (.slice x3a x3l x3c)) 0 (.slice x0a x0l x0c)) m := by kernel_rfl
theorem k4_er (K1 : Option Addr → Nat → Nat → Option Addr → Nat → Nat → Int → Option Addr → Option Addr → Nat → Nat → Int → Int → Mem → Prop) (R : Ending → Mem → Prop) : (k4A K1 R).erase = sR (sL (sR (cT (sR (cE (sR (cE (sR (cE (sR (bB (sR (sL (sR (sR (sR (bB (sL (sR (lP (bB (sR (sL (sR (sR (sR (sR (sR (sR (sR (sR (sR (body))))))))))))))))))))))))))))))))) := by kernel_rfl
theorem k4_ok (K1 : Option Addr → Nat → Nat → Option Addr → Nat → Nat → Int → Option Addr → Option Addr → Nat → Nat → Int → Int → Mem → Prop) (R : Ending → Mem → Prop) (ρ : Env) (m : Mem) (h : (k4E fun x0a x0l x0c x3a x3l x3c x9 x10 x12 x13b x13o x14 x15 x16b x16o x17a x17l x17c x18 x19 x187 m => k4 K1 x0a x0l x0c x3a x3l x3c x9 x10 x12 x13b x13o x14 x15 x16b x16o x17a x17l x17c x18 x19 x187 R m) ρ m) : cpt P od (panicR R) (sR (sL (sR (cT (sR (cE (sR (cE (sR (cE (sR (bB (sR (sL (sR (sR (sR (bB (sL (sR (lP (bB (sR (sL (sR (sR (sR (sR (sR (sR (sR (sR (sR (body)))))))))))))))))))))))))))))))))) (thenQ (acpt P od (panicR R) (.code (sR (sR (cT (sR (cE (sR (cE (sR (cE (sR (bB (sR (sL (sR (sR (sR (bB (sL (sR (lP (bB (sR (sL (sR (sR (sR (sR (sR (sR (sR (sR (sR (body)))))))))))))))))))))))))))))))))) (blockQ 2 (thenQ (acpt P od (panicR R) (.cut (k2E fun x0a x0l x0c x3a x3l x3c x9 x10 x12 x13b x13o x14 x15 x17a x17l x17c m => k2 K1 x0a x0l x0c x3a x3l x3c x9 x10 x12 x13b x13o x14 x15 x17a x17l x17c R m) (sR (sR (sR (sR (bB (sL (sR (lP (bB (sR (sL (sR (sR (sR (sR (sR (sR (sR (sR (sR (body)))))))))))))))))))))) (blockQ 1 (thenQ (acpt P od (panicR R) (.code (sR (sR (lP (bB (sR (sL (sR (sR (sR (sR (sR (sR (sR (sR (sR (body))))))))))))))))) (thenQ (l1E K1) (blockQ 0 (thenQ (acpt P od (panicR R) (.code (sR (sR (sR (sR (sR (sR (sR (sR (sR (sR (body)))))))))))) (bodyQ P fn R)) (bodyQ P fn R))))) (thenQ (l1E K1) (blockQ 0 (thenQ (acpt P od (panicR R) (.code (sR (sR (sR (sR (sR (sR (sR (sR (sR (sR (body)))))))))))) (bodyQ P fn R)) (bodyQ P fn R))))))) (blockQ 1 (thenQ (acpt P od (panicR R) (.code (sR (sR (lP (bB (sR (sL (sR (sR (sR (sR (sR (sR (sR (sR (sR (body))))))))))))))))) (thenQ (l1E K1) (blockQ 0 (thenQ (acpt P od (panicR R) (.code (sR (sR (sR (sR (sR (sR (sR (sR (sR (sR (body)))))))))))) (bodyQ P fn R)) (bodyQ P fn R))))) (thenQ (l1E K1) (blockQ 0 (thenQ (acpt P od (panicR R) (.code (sR (sR (sR (sR (sR (sR (sR (sR (sR (sR (body)))))))))))) (bodyQ P fn R)) (bodyQ P fn R))))))))) (blockQ 2 (thenQ (acpt P od (panicR R) (.cut (k2E fun x0a x0l x0c x3a x3l x3c x9 x10 x12 x13b x13o x14 x15 x17a x17l x17c m => k2 K1 x0a x0l x0c x3a x3l x3c x9 x10 x12 x13b x13o x14 x15 x17a x17l x17c R m) (sR (sR (sR (sR (bB (sL (sR (lP (bB (sR (sL (sR (sR (sR (sR (sR (sR (sR (sR (sR (body)))))))))))))))))))))) (blockQ 1 (thenQ (acpt P od (panicR R) (.code (sR (sR (lP (bB (sR (sL (sR (sR (sR (sR (sR (sR (sR (sR (sR (body))))))))))))))))) (thenQ (l1E K1) (blockQ 0 (thenQ (acpt P od (panicR R) (.code (sR (sR (sR (sR (sR (sR (sR (sR (sR (sR (body)))))))))))) (bodyQ P fn R)) (bodyQ P fn R))))) (thenQ (l1E K1) (blockQ 0 (thenQ (acpt P od (panicR R) (.code (sR (sR (sR (sR (sR (sR (sR (sR (sR (sR (body)))))))))))) (bodyQ P fn R)) (bodyQ P fn R))))))) (blockQ 1 (thenQ (acpt P od (panicR R) (.code (sR (sR (lP (bB (sR (sL (sR (sR (sR (sR (sR (sR (sR (sR (sR (body))))))))))))))))) (thenQ (l1E K1) (blockQ 0 (thenQ (acpt P od (panicR R) (.code (sR (sR (sR (sR (sR (sR (sR (sR (sR (sR (body)))))))))))) (bodyQ P fn R)) (bodyQ P fn R))))) (thenQ (l1E K1) (blockQ 0 (thenQ (acpt P od (panicR R) (.code (sR (sR (sR (sR (sR (sR (sR (sR (sR (sR (body)))))))))))) (bodyQ P fn R)) (bodyQ P fn R))))))))) ρ m := by
  unfold k4E at h
  obtain ⟨x0a, x0l, x0c, e0, h⟩ := h.ex
  obtain ⟨x3a, x3l, x3c, e3, h⟩ := h.ex
  obtain ⟨x9, e9, h⟩ := h.ex
  obtain ⟨x10, e10, h⟩ := h.ex
  obtain ⟨x12, e12, h⟩ := h.ex
  obtain ⟨x13b, x13o, e13, h⟩ := h.ex
  obtain ⟨x14, e14, h⟩ := h.ex
  obtain ⟨x15, e15, h⟩ := h.ex
  obtain ⟨x16b, x16o, e16, h⟩ := h.ex
  obtain ⟨x17a, x17l, x17c, e17, h⟩ := h.ex
  obtain ⟨x18, e18, h⟩ := h.ex
  obtain ⟨x19, e19, h⟩ := h.ex
  obtain ⟨x187, e187, h⟩ := h.ex
  rw [← upd_self e0, ← upd_self e3, ← upd_self e9, ← upd_self e10, ← upd_self e12, ← upd_self e13, ← upd_self e14, ← upd_self e15, ← upd_self e16, ← upd_self e17, ← upd_self e18, ← upd_self e19, ← upd_self e187]
  rw [← k4_er K1 R]
  refine acpt_sound (P := P) (k4A K1 R) _ _ _ True.intro ?_
  exact Eq.mp (k4_eq K1 R x0a x0l x0c x3a x3l x3c x9 x10 x12 x13b x13o x14 x15 x16b x16o x17a x17l x17c x18 x19 x187 ρ m) h
theorem k5_eq (K1 : Option Addr → Nat → Nat → Option Addr → Nat → Nat → Int → Option Addr → Option Addr → Nat → Nat → Int → Int → Mem → Prop) (R : Ending → Mem → Prop) (x0a : Option Addr) (x0l : Nat) (x0c : Nat) (x3a : Option Addr) (x3l : Nat) (x3c : Nat) (x9 : Int) (x10 : Option Addr) (x12 : Option Addr) (x13b : Nat) (x13o : Nat) (x14 : Int) (x15 : Int) (x16b : Nat) (x16o : Nat) (x17a : Option Addr) (x17l : Nat) (x17c : Nat) (x21a : Option Addr) (x21l : Nat) (x21c : Nat) (x22 : Int) (x98 : Bool) (ρ : Env) (m : Mem) : k5 K1 x0a x0l x0c x3a x3l x3c x9 x10 x12 x13b x13o x14 x15 x16b x16o x17a x17l x17c x21a x21l x21c x22 x98 R m = acpt P od (panicR R) (k5A K1 R) (thenQ (acpt P od (panicR R) (.code (sR (sR (cE (sR (cE (sR (cE (sR (cE (sR (bB (sR (sL (sR (sR (sR (bB (sL (sR (lP (bB (sR (sL (sR (sR (sR (sR (sR (sR (sR (sR (sR (body)))))))))))))))))))))))))))))))))) (blockQ 2 (thenQ (acpt P od (panicR R) (.cut (k2E fun x0a x0l x0c x3a x3l x3c x9 x10 x12 x13b x13o x14 x15 x17a x17l x17c m => k2 K1 x0a x0l x0c x3a x3l x3c x9 x10 x12 x13b x13o x14 x15 x17a x17l x17c R m) (sR (sR (sR (sR (bB (sL (sR (lP (bB (sR (sL (sR (sR (sR (sR (sR (sR (sR (sR (sR (body)))))))))))))))))))))) (blockQ 1 (thenQ (acpt P od (panicR R) (.code (sR (sR (lP (bB (sR (sL (sR (sR (sR (sR (sR (sR (sR (sR (sR (body))))))))))))))))) (thenQ (l1E K1) (blockQ 0 (thenQ (acpt P od (panicR R) (.code (sR (sR (sR (sR (sR (sR (sR (sR (sR (sR (body)))))))))))) (bodyQ P fn R)) (bodyQ P fn R))))) (thenQ (l1E K1) (blockQ 0 (thenQ (acpt P od (panicR R) (.code (sR (sR (sR (sR (sR (sR (sR (sR (sR (sR (body)))))))))))) (bodyQ P fn R)) (bodyQ P fn R))))))) (blockQ 1 (thenQ (acpt P od (panicR R) (.code (sR (sR (lP (bB (sR (sL (sR (sR (sR (sR (sR (sR (sR (sR (sR (body))))))))))))))))) (thenQ (l1E K1) (blockQ 0 (thenQ (acpt P od (panicR R) (.code (sR (sR (sR (sR (sR (sR (sR (sR (sR (sR (body)))))))))))) (bodyQ P fn R)) (bodyQ P fn R))))) (thenQ (l1E K1) (blockQ 0 (thenQ (acpt P od (panicR R) (.code (sR (sR (sR (sR (sR (sR (sR (sR (sR (sR (body)))))))))))) (bodyQ P fn R)) (bodyQ P fn R))))))))) (blockQ 2 (thenQ (acpt P od (panicR R) (.cut (k2E fun x0a x0l x0c x3a x3l x3c x9 x10 x12 x13b x13o x14 x15 x17a x17l x17c m => k2 K1 x0a x0l x0c x3a x3l x3c x9 x10 x12 x13b x13o x14 x15 x17a x17l x17c R m) (sR (sR (sR (sR (bB (sL (sR (lP (bB (sR (sL (sR (sR (sR (sR (sR (sR (sR (sR (sR (body)))))))))))))))))))))) (blockQ 1 (thenQ (acpt P od (panicR R) (.code (sR (sR (lP (bB (sR (sL (sR (sR (sR (sR (sR (sR (sR (sR (sR (body))))))))))))))))) (thenQ (l1E K1) (blockQ 0 (thenQ (acpt P od (panicR R) (.code (sR (sR (sR (sR (sR (sR (sR (sR (sR (sR (body)))))))))))) (bodyQ P fn R)) (bodyQ P fn R))))) (thenQ (l1E K1) (blockQ 0 (thenQ (acpt P od (panicR R) (.code (sR (sR (sR (sR (sR (sR (sR (sR (sR (sR (body)))))))))))) (bodyQ P fn R)) (bodyQ P fn R))))))) (blockQ 1 (thenQ (acpt P od (panicR R) (.code (sR (sR (lP (bB (sR (sL (sR (sR (sR (sR (sR (sR (sR (sR (sR (body))))))))))))))))) (thenQ (l1E K1) (blockQ 0 (thenQ (acpt P od (panicR R) (.code (sR (sR (sR (sR (sR (sR (sR (sR (sR (sR (body)))))))))))) (bodyQ P fn R)) (bodyQ P fn R))))) (thenQ (l1E K1) (blockQ 0 (thenQ (acpt P od (panicR R) (.code (sR (sR (sR (sR (sR (sR (sR (sR (sR (sR (body)))))))))))) (bodyQ P fn R)) (bodyQ P fn R))))))))) (upd (upd (upd (upd (upd (upd (upd (upd (upd (upd (upd (upd (upd ρ 98 (.bool x98)) 22 (.int .i64 x22)) 21 (.slice x21a x21l x21c)) 17 (.slice x17a x17l x17c)) 16 (.pointer (some ⟨x16b, x16o, none⟩))) 15 (.int .i64 x15)) 14 (.int .i64 x14)) 13 (.pointer (some ⟨x13b, x13o, none⟩))) 12 (.pointer x12)) 10 (.pointer x10)) 9 (.int .i64 x9)) 3 (.slice x3a x3l x3c)) 0 (.slice x0a x0l x0c)) m := by kernel_rfl
theorem k5_er (K1 : Option Addr → Nat → Nat → Option Addr → Nat → Nat → Int → Option Addr → Option Addr → Nat → Nat → Int → Int → Mem → Prop) (R : Ending → Mem → Prop) : (k5A K1 R).erase = sR (sL (sR (cE (sR (cE (sR (cE (sR (cE (sR (bB (sR (sL (sR (sR (sR (bB (sL (sR (lP (bB (sR (sL (sR (sR (sR (sR (sR (sR (sR (sR (sR (body))))))))))))))))))))))))))))))))) := by kernel_rfl
theorem k5_ok (K1 : Option Addr → Nat → Nat → Option Addr → Nat → Nat → Int → Option Addr → Option Addr → Nat → Nat → Int → Int → Mem → Prop) (R : Ending → Mem → Prop) (ρ : Env) (m : Mem) (h : (k5E fun x0a x0l x0c x3a x3l x3c x9 x10 x12 x13b x13o x14 x15 x16b x16o x17a x17l x17c x21a x21l x21c x22 x98 m => k5 K1 x0a x0l x0c x3a x3l x3c x9 x10 x12 x13b x13o x14 x15 x16b x16o x17a x17l x17c x21a x21l x21c x22 x98 R m) ρ m) : cpt P od (panicR R) (sR (sL (sR (cE (sR (cE (sR (cE (sR (cE (sR (bB (sR (sL (sR (sR (sR (bB (sL (sR (lP (bB (sR (sL (sR (sR (sR (sR (sR (sR (sR (sR (sR (body)))))))))))))))))))))))))))))))))) (thenQ (acpt P od (panicR R) (.code (sR (sR (cE (sR (cE (sR (cE (sR (cE (sR (bB (sR (sL (sR (sR (sR (bB (sL (sR (lP (bB (sR (sL (sR (sR (sR (sR (sR (sR (sR (sR (sR (body)))))))))))))))))))))))))))))))))) (blockQ 2 (thenQ (acpt P od (panicR R) (.cut (k2E fun x0a x0l x0c x3a x3l x3c x9 x10 x12 x13b x13o x14 x15 x17a x17l x17c m => k2 K1 x0a x0l x0c x3a x3l x3c x9 x10 x12 x13b x13o x14 x15 x17a x17l x17c R m) (sR (sR (sR (sR (bB (sL (sR (lP (bB (sR (sL (sR (sR (sR (sR (sR (sR (sR (sR (sR (body)))))))))))))))))))))) (blockQ 1 (thenQ (acpt P od (panicR R) (.code (sR (sR (lP (bB (sR (sL (sR (sR (sR (sR (sR (sR (sR (sR (sR (body))))))))))))))))) (thenQ (l1E K1) (blockQ 0 (thenQ (acpt P od (panicR R) (.code (sR (sR (sR (sR (sR (sR (sR (sR (sR (sR (body)))))))))))) (bodyQ P fn R)) (bodyQ P fn R))))) (thenQ (l1E K1) (blockQ 0 (thenQ (acpt P od (panicR R) (.code (sR (sR (sR (sR (sR (sR (sR (sR (sR (sR (body)))))))))))) (bodyQ P fn R)) (bodyQ P fn R))))))) (blockQ 1 (thenQ (acpt P od (panicR R) (.code (sR (sR (lP (bB (sR (sL (sR (sR (sR (sR (sR (sR (sR (sR (sR (body))))))))))))))))) (thenQ (l1E K1) (blockQ 0 (thenQ (acpt P od (panicR R) (.code (sR (sR (sR (sR (sR (sR (sR (sR (sR (sR (body)))))))))))) (bodyQ P fn R)) (bodyQ P fn R))))) (thenQ (l1E K1) (blockQ 0 (thenQ (acpt P od (panicR R) (.code (sR (sR (sR (sR (sR (sR (sR (sR (sR (sR (body)))))))))))) (bodyQ P fn R)) (bodyQ P fn R))))))))) (blockQ 2 (thenQ (acpt P od (panicR R) (.cut (k2E fun x0a x0l x0c x3a x3l x3c x9 x10 x12 x13b x13o x14 x15 x17a x17l x17c m => k2 K1 x0a x0l x0c x3a x3l x3c x9 x10 x12 x13b x13o x14 x15 x17a x17l x17c R m) (sR (sR (sR (sR (bB (sL (sR (lP (bB (sR (sL (sR (sR (sR (sR (sR (sR (sR (sR (sR (body)))))))))))))))))))))) (blockQ 1 (thenQ (acpt P od (panicR R) (.code (sR (sR (lP (bB (sR (sL (sR (sR (sR (sR (sR (sR (sR (sR (sR (body))))))))))))))))) (thenQ (l1E K1) (blockQ 0 (thenQ (acpt P od (panicR R) (.code (sR (sR (sR (sR (sR (sR (sR (sR (sR (sR (body)))))))))))) (bodyQ P fn R)) (bodyQ P fn R))))) (thenQ (l1E K1) (blockQ 0 (thenQ (acpt P od (panicR R) (.code (sR (sR (sR (sR (sR (sR (sR (sR (sR (sR (body)))))))))))) (bodyQ P fn R)) (bodyQ P fn R))))))) (blockQ 1 (thenQ (acpt P od (panicR R) (.code (sR (sR (lP (bB (sR (sL (sR (sR (sR (sR (sR (sR (sR (sR (sR (body))))))))))))))))) (thenQ (l1E K1) (blockQ 0 (thenQ (acpt P od (panicR R) (.code (sR (sR (sR (sR (sR (sR (sR (sR (sR (sR (body)))))))))))) (bodyQ P fn R)) (bodyQ P fn R))))) (thenQ (l1E K1) (blockQ 0 (thenQ (acpt P od (panicR R) (.code (sR (sR (sR (sR (sR (sR (sR (sR (sR (sR (body)))))))))))) (bodyQ P fn R)) (bodyQ P fn R))))))))) ρ m := by
  unfold k5E at h
  obtain ⟨x0a, x0l, x0c, e0, h⟩ := h.ex
  obtain ⟨x3a, x3l, x3c, e3, h⟩ := h.ex
  obtain ⟨x9, e9, h⟩ := h.ex
  obtain ⟨x10, e10, h⟩ := h.ex
  obtain ⟨x12, e12, h⟩ := h.ex
  obtain ⟨x13b, x13o, e13, h⟩ := h.ex
  obtain ⟨x14, e14, h⟩ := h.ex
  obtain ⟨x15, e15, h⟩ := h.ex
  obtain ⟨x16b, x16o, e16, h⟩ := h.ex
  obtain ⟨x17a, x17l, x17c, e17, h⟩ := h.ex
  obtain ⟨x21a, x21l, x21c, e21, h⟩ := h.ex
  obtain ⟨x22, e22, h⟩ := h.ex
  obtain ⟨x98, e98, h⟩ := h.ex
  rw [← upd_self e0, ← upd_self e3, ← upd_self e9, ← upd_self e10, ← upd_self e12, ← upd_self e13, ← upd_self e14, ← upd_self e15, ← upd_self e16, ← upd_self e17, ← upd_self e21, ← upd_self e22, ← upd_self e98]
  rw [← k5_er K1 R]
  refine acpt_sound (P := P) (k5A K1 R) _ _ _ True.intro ?_
  exact Eq.mp (k5_eq K1 R x0a x0l x0c x3a x3l x3c x9 x10 x12 x13b x13o x14 x15 x16b x16o x17a x17l x17c x21a x21l x21c x22 x98 ρ m) h
theorem k3_eq (K1 : Option Addr → Nat → Nat → Option Addr → Nat → Nat → Int → Option Addr → Option Addr → Nat → Nat → Int → Int → Mem → Prop) (R : Ending → Mem → Prop) (x0a : Option Addr) (x0l : Nat) (x0c : Nat) (x3a : Option Addr) (x3l : Nat) (x3c : Nat) (x9 : Int) (x10 : Option Addr) (x12 : Option Addr) (x13b : Nat) (x13o : Nat) (x14 : Int) (x15 : Int) (x16b : Nat) (x16o : Nat) (x17a : Option Addr) (x17l : Nat) (x17c : Nat) (x167 : Bool) (ρ : Env) (m : Mem) : k3 K1 x0a x0l x0c x3a x3l x3c x9 x10 x12 x13b x13o x14 x15 x16b x16o x17a x17l x17c x167 R m = acpt P od (panicR R) (k3A K1 R) (blockQ 2 (thenQ (acpt P od (panicR R) (.cut (k2E fun x0a x0l x0c x3a x3l x3c x9 x10 x12 x13b x13o x14 x15 x17a x17l x17c m => k2 K1 x0a x0l x0c x3a x3l x3c x9 x10 x12 x13b x13o x14 x15 x17a x17l x17c R m) (sR (sR (sR (sR (bB (sL (sR (lP (bB (sR (sL (sR (sR (sR (sR (sR (sR (sR (sR (sR (body)))))))))))))))))))))) (blockQ 1 (thenQ (acpt P od (panicR R) (.code (sR (sR (lP (bB (sR (sL (sR (sR (sR (sR (sR (sR (sR (sR (sR (body))))))))))))))))) (thenQ (l1E K1) (blockQ 0 (thenQ (acpt P od (panicR R) (.code (sR (sR (sR (sR (sR (sR (sR (sR (sR (sR (body)))))))))))) (bodyQ P fn R)) (bodyQ P fn R))))) (thenQ (l1E K1) (blockQ 0 (thenQ (acpt P od (panicR R) (.code (sR (sR (sR (sR (sR (sR (sR (sR (sR (sR (body)))))))))))) (bodyQ P fn R)) (bodyQ P fn R))))))) (blockQ 1 (thenQ (acpt P od (panicR R) (.code (sR (sR (lP (bB (sR (sL (sR (sR (sR (sR (sR (sR (sR (sR (sR (body))))))))))))))))) (thenQ (l1E K1) (blockQ 0 (thenQ (acpt P od (panicR R) (.code (sR (sR (sR (sR (sR (sR (sR (sR (sR (sR (body)))))))))))) (bodyQ P fn R)) (bodyQ P fn R))))) (thenQ (l1E K1) (blockQ 0 (thenQ (acpt P od (panicR R) (.code (sR (sR (sR (sR (sR (sR (sR (sR (sR (sR (body)))))))))))) (bodyQ P fn R)) (bodyQ P fn R)))))))) (upd (upd (upd (upd (upd (upd (upd (upd (upd (upd (upd ρ 167 (.bool x167)) 17 (.slice x17a x17l x17c)) 16 (.pointer (some ⟨x16b, x16o, none⟩))) 15 (.int .i64 x15)) 14 (.int .i64 x14)) 13 (.pointer (some ⟨x13b, x13o, none⟩))) 12 (.pointer x12)) 10 (.pointer x10)) 9 (.int .i64 x9)) 3 (.slice x3a x3l x3c)) 0 (.slice x0a x0l x0c)) m := by kernel_rfl
theorem k3_er (K1 : Option Addr → Nat → Nat → Option Addr → Nat → Nat → Int → Option Addr → Option Addr → Nat → Nat → Int → Int → Mem → Prop) (R : Ending → Mem → Prop) : (k3A K1 R).erase = sR (cE (sR (cE (sR (cE (sR (bB (sR (sL (sR (sR (sR (bB (sL (sR (lP (bB (sR (sL (sR (sR (sR (sR (sR (sR (sR (sR (sR (body))))))))))))))))))))))))))))) := by kernel_rfl
theorem k3_ok (K1 : Option Addr → Nat → Nat → Option Addr → Nat → Nat → Int → Option Addr → Option Addr → Nat → Nat → Int → Int → Mem → Prop) (R : Ending → Mem → Prop) (ρ : Env) (m : Mem) (h : (k3E fun x0a x0l x0c x3a x3l x3c x9 x10 x12 x13b x13o x14 x15 x16b x16o x17a x17l x17c x167 m => k3 K1 x0a x0l x0c x3a x3l x3c x9 x10 x12 x13b x13o x14 x15 x16b x16o x17a x17l x17c x167 R m) ρ m) : cpt P od (panicR R) (sR (cE (sR (cE (sR (cE (sR (bB (sR (sL (sR (sR (sR (bB (sL (sR (lP (bB (sR (sL (sR (sR (sR (sR (sR (sR (sR (sR (sR (body)))))))))))))))))))))))))))))) (blockQ 2 (thenQ (acpt P od (panicR R) (.cut (k2E fun x0a x0l x0c x3a x3l x3c x9 x10 x12 x13b x13o x14 x15 x17a x17l x17c m => k2 K1 x0a x0l x0c x3a x3l x3c x9 x10 x12 x13b x13o x14 x15 x17a x17l x17c R m) (sR (sR (sR (sR (bB (sL (sR (lP (bB (sR (sL (sR (sR (sR (sR (sR (sR (sR (sR (sR (body)))))))))))))))))))))) (blockQ 1 (thenQ (acpt P od (panicR R) (.code (sR (sR (lP (bB (sR (sL (sR (sR (sR (sR (sR (sR (sR (sR (sR (body))))))))))))))))) (thenQ (l1E K1) (blockQ 0 (thenQ (acpt P od (panicR R) (.code (sR (sR (sR (sR (sR (sR (sR (sR (sR (sR (body)))))))))))) (bodyQ P fn R)) (bodyQ P fn R))))) (thenQ (l1E K1) (blockQ 0 (thenQ (acpt P od (panicR R) (.code (sR (sR (sR (sR (sR (sR (sR (sR (sR (sR (body)))))))))))) (bodyQ P fn R)) (bodyQ P fn R))))))) (blockQ 1 (thenQ (acpt P od (panicR R) (.code (sR (sR (lP (bB (sR (sL (sR (sR (sR (sR (sR (sR (sR (sR (sR (body))))))))))))))))) (thenQ (l1E K1) (blockQ 0 (thenQ (acpt P od (panicR R) (.code (sR (sR (sR (sR (sR (sR (sR (sR (sR (sR (body)))))))))))) (bodyQ P fn R)) (bodyQ P fn R))))) (thenQ (l1E K1) (blockQ 0 (thenQ (acpt P od (panicR R) (.code (sR (sR (sR (sR (sR (sR (sR (sR (sR (sR (body)))))))))))) (bodyQ P fn R)) (bodyQ P fn R)))))))) ρ m := by
  unfold k3E at h
  obtain ⟨x0a, x0l, x0c, e0, h⟩ := h.ex
  obtain ⟨x3a, x3l, x3c, e3, h⟩ := h.ex
  obtain ⟨x9, e9, h⟩ := h.ex
  obtain ⟨x10, e10, h⟩ := h.ex
  obtain ⟨x12, e12, h⟩ := h.ex
  obtain ⟨x13b, x13o, e13, h⟩ := h.ex
  obtain ⟨x14, e14, h⟩ := h.ex
  obtain ⟨x15, e15, h⟩ := h.ex
  obtain ⟨x16b, x16o, e16, h⟩ := h.ex
  obtain ⟨x17a, x17l, x17c, e17, h⟩ := h.ex
  obtain ⟨x167, e167, h⟩ := h.ex
  rw [← upd_self e0, ← upd_self e3, ← upd_self e9, ← upd_self e10, ← upd_self e12, ← upd_self e13, ← upd_self e14, ← upd_self e15, ← upd_self e16, ← upd_self e17, ← upd_self e167]
  rw [← k3_er K1 R]
  refine acpt_sound (P := P) (k3A K1 R) _ _ _ ⟨⟨⟨True.intro, ⟨(fun ρ m h => k4_ok K1 R ρ m h), True.intro⟩⟩, True.intro⟩, ⟨⟨True.intro, ⟨(fun ρ m h => k5_ok K1 R ρ m h), True.intro⟩⟩, True.intro⟩⟩ ?_
  exact Eq.mp (k3_eq K1 R x0a x0l x0c x3a x3l x3c x9 x10 x12 x13b x13o x14 x15 x16b x16o x17a x17l x17c x167 ρ m) h
theorem l1_eq  (K1 : Option Addr → Nat → Nat → Option Addr → Nat → Nat → Int → Option Addr → Option Addr → Nat → Nat → Int → Int → Mem → Prop) (R : Ending → Mem → Prop) (x0a : Option Addr) (x0l : Nat) (x0c : Nat) (x3a : Option Addr) (x3l : Nat) (x3c : Nat) (x9 : Int) (x10 : Option Addr) (x12 : Option Addr) (x13b : Nat) (x13o : Nat) (x14 : Int) (x15 : Int) (ρ : Env) (m : Mem) : l1B  K1 x0a x0l x0c x3a x3l x3c x9 x10 x12 x13b x13o x14 x15 R m = acpt P od (panicR R) (l1A  K1 R) (thenQ (l1E K1) (blockQ 0 (thenQ (acpt P od (panicR R) (.code (sR (sR (sR (sR (sR (sR (sR (sR (sR (sR (body)))))))))))) (bodyQ P fn R)) (bodyQ P fn R)))) (upd (upd (upd (upd (upd (upd (upd (upd ρ 15 (.int .i64 x15)) 14 (.int .i64 x14)) 13 (.pointer (some ⟨x13b, x13o, none⟩))) 12 (.pointer x12)) 10 (.pointer x10)) 9 (.int .i64 x9)) 3 (.slice x3a x3l x3c)) 0 (.slice x0a x0l x0c)) m := by kernel_rfl
theorem l1_er  (K1 : Option Addr → Nat → Nat → Option Addr → Nat → Nat → Int → Option Addr → Option Addr → Nat → Nat → Int → Int → Mem → Prop) (R : Ending → Mem → Prop) : (l1A  K1 R).erase = lP (bB (sR (sL (sR (sR (sR (sR (sR (sR (sR (sR (sR (body))))))))))))) := by kernel_rfl
theorem l1_ok  (R : Ending → Mem → Prop) (ρ : Env) (m : Mem) (h : (l1E fun x0a x0l x0c x3a x3l x3c x9 x10 x12 x13b x13o x14 x15 m => l1  x0a x0l x0c x3a x3l x3c x9 x10 x12 x13b x13o x14 x15 R m) ρ m) : cpt P od (panicR R) (.loop (lP (bB (sR (sL (sR (sR (sR (sR (sR (sR (sR (sR (sR (body))))))))))))))) (blockQ 0 (thenQ (acpt P od (panicR R) (.code (sR (sR (sR (sR (sR (sR (sR (sR (sR (sR (body)))))))))))) (bodyQ P fn R)) (bodyQ P fn R))) ρ m := by
  unfold l1E at h
  obtain ⟨x0a, x0l, x0c, e0, h⟩ := h.ex
  obtain ⟨x3a, x3l, x3c, e3, h⟩ := h.ex
  obtain ⟨x9, e9, h⟩ := h.ex
  obtain ⟨x10, e10, h⟩ := h.ex
  obtain ⟨x12, e12, h⟩ := h.ex
  obtain ⟨x13b, x13o, e13, h⟩ := h.ex
  obtain ⟨x14, e14, h⟩ := h.ex
  obtain ⟨x15, e15, h⟩ := h.ex
  obtain ⟨I, N, h0, hs⟩ := h
  refine ⟨fun N => l1E (I N), N, (by show l1E (I N) ρ m; unfold l1E; rw [e0, e3, e9, e10, e12, e13, e14, e15]; exact h0), ?_⟩
  clear h0 e0 e3 e9 e10 e12 e13 e14 e15
  intro N ρ m h
  unfold l1E at h
  obtain ⟨x0a, x0l, x0c, e0, h⟩ := h.ex
  obtain ⟨x3a, x3l, x3c, e3, h⟩ := h.ex
  obtain ⟨x9, e9, h⟩ := h.ex
  obtain ⟨x10, e10, h⟩ := h.ex
  obtain ⟨x12, e12, h⟩ := h.ex
  obtain ⟨x13b, x13o, e13, h⟩ := h.ex
  obtain ⟨x14, e14, h⟩ := h.ex
  obtain ⟨x15, e15, h⟩ := h.ex
  refine cpt_mono (P := P) (lP (bB (sR (sL (sR (sR (sR (sR (sR (sR (sR (sR (sR (body)))))))))))))) (Q := thenQ (l1E fun x0a x0l x0c x3a x3l x3c x9 x10 x12 x13b x13o x14 x15 m => ∃ N1, N1 < N ∧ I N1 x0a x0l x0c x3a x3l x3c x9 x10 x12 x13b x13o x14 x15 m) (blockQ 0 (thenQ (acpt P od (panicR R) (.code (sR (sR (sR (sR (sR (sR (sR (sR (sR (sR (body)))))))))))) (bodyQ P fn R)) (bodyQ P fn R)))) (fun e ρ m h => ?_) ρ m ?_
  · cases e with
    | normal =>
      have h : l1E (fun x0a x0l x0c x3a x3l x3c x9 x10 x12 x13b x13o x14 x15 m => ∃ N1, N1 < N ∧ I N1 x0a x0l x0c x3a x3l x3c x9 x10 x12 x13b x13o x14 x15 m) ρ m := h
      unfold l1E at h
      obtain ⟨x0a, x0l, x0c, e0, h⟩ := h.ex
      obtain ⟨x3a, x3l, x3c, e3, h⟩ := h.ex
      obtain ⟨x9, e9, h⟩ := h.ex
      obtain ⟨x10, e10, h⟩ := h.ex
      obtain ⟨x12, e12, h⟩ := h.ex
      obtain ⟨x13b, x13o, e13, h⟩ := h.ex
      obtain ⟨x14, e14, h⟩ := h.ex
      obtain ⟨x15, e15, h⟩ := h.ex
      obtain ⟨N1, hlt, h⟩ := h
      exact ⟨N1, hlt, (by show l1E (I N1) ρ m; unfold l1E; rw [e0, e3, e9, e10, e12, e13, e14, e15]; exact h)⟩
    | _ => exact h
  have hh := hs N x0a x0l x0c x3a x3l x3c x9 x10 x12 x13b x13o x14 x15 m h
  generalize (fun x0a x0l x0c x3a x3l x3c x9 x10 x12 x13b x13o x14 x15 m => ∃ N1, N1 < N ∧ I N1 x0a x0l x0c x3a x3l x3c x9 x10 x12 x13b x13o x14 x15 m : Option Addr → Nat → Nat → Option Addr → Nat → Nat → Int → Option Addr → Option Addr → Nat → Nat → Int → Int → Mem → Prop) = K1 at hh ⊢
  rw [← upd_self e0, ← upd_self e3, ← upd_self e9, ← upd_self e10, ← upd_self e12, ← upd_self e13, ← upd_self e14, ← upd_self e15]
  rw [← l1_er  K1 R]
  refine acpt_sound (P := P) (l1A  K1 R) _ _ _ ⟨⟨True.intro, ⟨⟨⟨⟨(fun ρ m h => k2_ok K1 R ρ m h), ⟨⟨⟨True.intro, ⟨⟨True.intro, ⟨⟨True.intro, ⟨(fun ρ m h => k3_ok K1 R ρ m h), True.intro⟩⟩, True.intro⟩⟩, True.intro⟩⟩, True.intro⟩, True.intro⟩⟩, True.intro⟩, True.intro⟩, True.intro⟩⟩, True.intro⟩ ?_
  exact Eq.mp (l1_eq  K1 R x0a x0l x0c x3a x3l x3c x9 x10 x12 x13b x13o x14 x15 ρ m) hh
theorem e0_eq (a0a : Option Addr) (a0l : Nat) (a0c : Nat) (a1 : Int) (a2 : Int) (a3a : Option Addr) (a3l : Nat) (a3c : Nat) (R : Ending → Mem → Prop) (m : Mem) : e0 a0a a0l a0c a1 a2 a3a a3l a3c R m = acpt P od (panicR R) (e0A R) (bodyQ P fn R) (argE (#[.slice a0a a0l a0c, .int .u8 a1, .int .i64 a2, .slice a3a a3l a3c] : Array Value).toList) m := by kernel_rfl
theorem ok (a0a : Option Addr) (a0l : Nat) (a0c : Nat) (a1 : Int) (a2 : Int) (a3a : Option Addr) (a3l : Nat) (a3c : Nat) (R : Ending → Mem → Prop) (m : Mem) (h : e0 a0a a0l a0c a1 a2 a3a a3l a3c R m) : HC P id #[.slice a0a a0l a0c, .int .u8 a1, .int .i64 a2, .slice a3a a3l a3c] m R := by
  refine HC_of (fn := fn) (c := body) (od := od) (tb := tb) Go.Proofs.Try.func6 (by kernel_rfl) (by kernel_rfl) follows (by kernel_rfl) (of_decide_eq_true (by kernel_rfl)) ?_
  have he : (e0A R).erase = body := by kernel_rfl
  rw [← he]
  refine acpt_sound (P := P) (e0A R) _ _ _ ⟨⟨⟨⟨⟨⟨⟨⟨⟨⟨True.intro, ⟨(fun ρ m h => l1_ok  R ρ m h), True.intro⟩⟩, True.intro⟩, True.intro⟩, True.intro⟩, True.intro⟩, True.intro⟩, True.intro⟩, True.intro⟩, True.intro⟩, True.intro⟩ ?_
  exact Eq.mp (e0_eq a0a a0l a0c a1 a2 a3a a3l a3c R m) h
end eyotlaw5_FileAll

/-! ### eyot/eyotlaw5.FileKeeps -/
namespace eyotlaw5_FileKeeps
noncomputable def fn : Func := Go.Proofs.Try.f7
noncomputable def body : Code := fn.body.getD .skip
def od : Nat → Ord := fun | 28 => ordL [(0, 3), (1, 0), (2, 3), (3, 3), (4, 3), (5, 3), (6, 3), (7, 3), (8, 3), (9, 3), (10, 3), (11, 3), (12, 3), (13, 3), (14, 3), (15, 3), (16, 3), (17, 3), (18, 3), (19, 1), (20, 3), (21, 3), (22, 3), (23, 3), (24, 3), (25, 3)] .done | _ => .done
def tb : Nat → Tab := fun | 28 => (0, [0, 1, 3, 7, 15, 31, 63, 127, 255, 511, 1023, 2047, 4095, 8191, 16383, 32767, 65535, 131071, 262143, 524287, 131071, 131071, 3276799, 8388607, 16777215, 33554431], [(0, 4096, 158), (1, 182687704666362864775460604089535377456991567872, 159), (2, 365375409332725729550921208179070754913983135744, 160), (6, 730750818665451459101842416358141509827966271488, 161), (8, 1461501637330902918203684832716283019655949320192, 162), (24, 4384504911992708754611054498148849058967797628928, 163), (40, 7307508186654514591018424163581415098279662714880, 164), (72, 11692013098647223345629478661730264157247460343808, 165), (128, 23384026197294446691258957323460528314494987796480, 166), (384, 70152078591883340073776871970381584943484762062848, 167), (640, 116920130986472233456294786617302641572474603438080, 168), (1152, 187072209578355573530071658587684226515959365500928, 169), (2048, 374144419156711147060143317175368453031918865219584, 170), (6144, 1122433257470133441180429951526105359095756193005568, 171), (10240, 1870722095783555735300716585876842265159593655009280, 172), (18432, 3367299772410400323541289854578316077287268579016704, 173), (34816, 5986310706507378352962293074805895248510699696029696, 174), (65536, 11972621413014756705924586149611790497021399526277120, 175), (196608, 35917864239044270117773758448835371491064198176178176, 176), (327680, 59863107065073783529622930748058952485106996960296960, 177), (65536, 11972621413014756705924586149611790497021399392067584, 178), (65536, 11972621413014756705924586149611790497021399392059904, 179), (3211264, 586658449237723078590304721330977734354048570210910208, 180), (4784128, 874001363150077239532494788921660706282562155620335616, 181), (8454144, 1544468162278903615064271613299920974115760521575661568, 182), (33554431, 3064991081731777716716694054300618367237478244367204352, 9)]) | _ => (0, [], [])
def k2E (K : Option Addr → Nat → Nat → Int → Option Addr → Option Addr → Int → Int → Option Addr → Nat → Nat → Int → Option Addr → Nat → Nat → Mem → Prop) : Env → Mem → Prop := fun ρ m => UnS (ρ 0) fun x0a x0l x0c => UnI (ρ 9) .i64 fun x9 => UnP (ρ 10) fun x10 => UnP (ρ 12) fun x12 => UnI (ρ 13) .i64 fun x13 => UnI (ρ 14) .i64 fun x14 => UnS (ρ 15) fun x15a x15l x15c => UnI (ρ 16) .i64 fun x16 => UnS (ρ 17) fun x17a x17l x17c => K x0a x0l x0c x9 x10 x12 x13 x14 x15a x15l x15c x16 x17a x17l x17c m
def k2  (x0a : Option Addr) (x0l : Nat) (x0c : Nat) (x9 : Int) (x10 : Option Addr) (x12 : Option Addr) (x13 : Int) (x14 : Int) (x15a : Option Addr) (x15l : Nat) (x15c : Nat) (x16 : Int) (x17a : Option Addr) (x17l : Nat) (x17c : Nat) (R : Ending → Mem → Prop) (m : Mem) : Prop :=
  HC P page_Pages_Fault.id #[.pointer x10, .slice x17a x17l x17c] m (Cont (fun v m1 =>
      UnTup v fun us0 =>
      UnNil us0 (
        HC P page_Pages_Clear.id #[.pointer x10] m1 (Cont (fun v m2 =>
            UnTup v fun us0 =>
            UnNil us0 (
              HC P file_File_Bytes.id #[.pointer x12, .int .i64 x13, .int .i64 x14] m2 (Cont (fun v m3 =>
                  UnTup v fun us0 =>
                  UnCons us0 fun w us1 =>
                  UnS w fun x99_0a x99_0l x99_0c =>
                  UnCons us1 fun w us2 =>
                  UnI w .i64 fun x99_1 =>
                  UnNil us2 (
                    HC P file_File_At.id #[.pointer x12, .int .i64 x13] m3 (Cont (fun v m4 =>
                        UnTup v fun us0 =>
                        UnCons us0 fun w us1 =>
                        UnI w .u8 fun x105_0 =>
                        UnCons us1 fun w us2 =>
                        UnI w .i64 fun x105_1 =>
                        UnNil us2 (
                        HC P page_Pages_Reads.id #[.pointer x10] m4 (Cont (fun v m5 =>
                        UnS v fun x109a x109l x109c =>
                        Br (decide (((x109l : Nat) : Int) > 0)) (
                        R (.returned (.bool false)) m5) (
                        Br (x16 != 0) (
                        R (.returned (.bool false)) m5) (
                        Br (x99_1 != 0) (
                        R (.returned (.bool false)) m5) (
                        Br (x105_1 != 0) (
                        R (.returned (.bool false)) m5) (
                        B2S m5 x15a x15l fun s126 =>
                        B2S m5 x99_0a x99_0l fun s128 =>
                        Br (!(s126.toList == s128.toList)) (
                        R (.returned (.bool false)) m5) (
                        IxS x0a x0l x13 1 fun x135b x135o =>
                        LdV m5 x135b x135o fun v =>
                        UnI v .u8 fun x136 =>
                        Br (x105_0 != x136) (
                        R (.returned (.bool false)) m5) (
                        HC P file_File_Evict.id #[.pointer x12] m5 (Cont (fun v m6 =>
                        UnTup v fun us0 =>
                        UnNil us0 (
                        HC P file_File_Bytes.id #[.pointer x12, .int .i64 x13, .int .i64 x14] m6 (Cont (fun v m7 =>
                        UnTup v fun us0 =>
                        UnCons us0 fun w us1 =>
                        UnS w fun x145_0a x145_0l x145_0c =>
                        UnCons us1 fun w us2 =>
                        UnI w .i64 fun x145_1 =>
                        UnNil us2 (
                        HC P file_File_Bytes.id #[.pointer x12, .int .i64 x13, .int .i64 x13] m7 (Cont (fun v m8 =>
                        UnTup v fun us0 =>
                        UnCons us0 fun w us1 =>
                        UnS w fun x152_0a x152_0l x152_0c =>
                        UnCons us1 fun w us2 =>
                        UnI w .i64 fun x152_1 =>
                        UnNil us2 (
                        HC P page_Pages_Reads.id #[.pointer x10] m8 (Cont (fun v m9 =>
                        UnS v fun x156a x156l x156c =>
                        Sub m9 fun r10 =>
                        HC P file_File_Kept.id #[.pointer x12] m9 (Cont (fun v m11 =>
                        UnI v .i64 fun x158 =>
                        Lk r10 m11 fun r12 =>
                        Br (x158 == 0) (
                        Br (x145_1 == 11) (
                        Br (x152_1 == 0) (
                        Br (((x156l : Nat) : Int) == 1) (
                        IxS x156a x156l 0 1 fun x175b x175o =>
                        LdV r12 x175b x175o fun v =>
                        UnI v .i64 fun x176 =>
                        NzI x9 (
                        R (.returned (.bool (x176 == (IntKind.i64.wrap (Int.tdiv x13 x9))))) m11)) (
                        R (.returned (.bool false)) m11)) (
                        R (.returned (.bool false)) m11)) (
                        R (.returned (.bool false)) m11)) (
                        R (.returned (.bool false)) m11)) (panicR R))) (panicR R)))) (panicR R)))) (panicR R)))) (panicR R))))))))) (panicR R)))) (panicR R)))) (panicR R)))) (panicR R)))) (panicR R))
noncomputable def k2A  (R : Ending → Mem → Prop) : ACode := (.code (sR (sR (sR (sR (sR (sR (sR (sR (sR (sR (sR (sR (body))))))))))))))
def l1E (K : Option Addr → Nat → Nat → Int → Option Addr → Option Addr → Int → Int → Option Addr → Nat → Nat → Int → Option Addr → Nat → Nat → Int → Mem → Prop) : Env → Mem → Prop := fun ρ m => UnS (ρ 0) fun x0a x0l x0c => UnI (ρ 9) .i64 fun x9 => UnP (ρ 10) fun x10 => UnP (ρ 12) fun x12 => UnI (ρ 13) .i64 fun x13 => UnI (ρ 14) .i64 fun x14 => UnS (ρ 15) fun x15a x15l x15c => UnI (ρ 16) .i64 fun x16 => UnS (ρ 17) fun x17a x17l x17c => UnI (ρ 18) .i64 fun x18 => K x0a x0l x0c x9 x10 x12 x13 x14 x15a x15l x15c x16 x17a x17l x17c x18 m
def l1B  (K1 : Option Addr → Nat → Nat → Int → Option Addr → Option Addr → Int → Int → Option Addr → Nat → Nat → Int → Option Addr → Nat → Nat → Int → Mem → Prop) (x0a : Option Addr) (x0l : Nat) (x0c : Nat) (x9 : Int) (x10 : Option Addr) (x12 : Option Addr) (x13 : Int) (x14 : Int) (x15a : Option Addr) (x15l : Nat) (x15c : Nat) (x16 : Int) (x17a : Option Addr) (x17l : Nat) (x17c : Nat) (x18 : Int) (R : Ending → Mem → Prop) (m : Mem) : Prop :=
  HC P page_Pages_Count.id #[.pointer x10] m (Cont (fun v m1 =>
      UnI v .i64 fun x82 =>
      Br (decide (x18 < x82)) (
        NewC m1 #[.int .i64 x18] T_int fun b88 m2 =>
        BiN P .append #[T_sl_int, T_sl_int] T_sl_int #[false, false] #[.slice x17a x17l x17c, .slice (some ⟨b88, 0, none⟩) 1 1] m2 (fun w m3 =>
          UnS w fun x89a x89l x89c =>
          K1 x0a x0l x0c x9 x10 x12 x13 x14 x15a x15l x15c x16 x89a x89l x89c (IntKind.i64.wrap (x18 + 1)) m3) (panicR R)) (
        k2  x0a x0l x0c x9 x10 x12 x13 x14 x15a x15l x15c x16 x17a x17l x17c R m1)) (panicR R))
def l1  (x0a : Option Addr) (x0l : Nat) (x0c : Nat) (x9 : Int) (x10 : Option Addr) (x12 : Option Addr) (x13 : Int) (x14 : Int) (x15a : Option Addr) (x15l : Nat) (x15c : Nat) (x16 : Int) (x17a : Option Addr) (x17l : Nat) (x17c : Nat) (x18 : Int) (R : Ending → Mem → Prop) (m : Mem) : Prop :=
  ∃ (I : Nat → Option Addr → Nat → Nat → Int → Option Addr → Option Addr → Int → Int → Option Addr → Nat → Nat → Int → Option Addr → Nat → Nat → Int → Mem → Prop) (N : Nat), I N x0a x0l x0c x9 x10 x12 x13 x14 x15a x15l x15c x16 x17a x17l x17c x18 m ∧ ∀ N x0a x0l x0c x9 x10 x12 x13 x14 x15a x15l x15c x16 x17a x17l x17c x18 m, I N x0a x0l x0c x9 x10 x12 x13 x14 x15a x15l x15c x16 x17a x17l x17c x18 m → l1B  (fun x0a x0l x0c x9 x10 x12 x13 x14 x15a x15l x15c x16 x17a x17l x17c x18 m => ∃ N1, N1 < N ∧ I N1 x0a x0l x0c x9 x10 x12 x13 x14 x15a x15l x15c x16 x17a x17l x17c x18 m) x0a x0l x0c x9 x10 x12 x13 x14 x15a x15l x15c x16 x17a x17l x17c x18 R m
noncomputable def l1A  (K1 : Option Addr → Nat → Nat → Int → Option Addr → Option Addr → Int → Int → Option Addr → Nat → Nat → Int → Option Addr → Nat → Nat → Int → Mem → Prop) (R : Ending → Mem → Prop) : ACode := (.code (lP (bB (sR (sL (sR (sR (sR (sR (sR (sR (sR (sR (sR (sR (sR (body)))))))))))))))))
def e0 (a0a : Option Addr) (a0l : Nat) (a0c : Nat) (a1 : Int) (a2 : Int) (a3 : Int) (R : Ending → Mem → Prop) (m : Mem) : Prop :=
  HC P eyotlaw5_begun.id #[] m (Cont (fun v m1 =>
      UnB v fun x28 =>
      Br (!x28) (
        R (.returned (.bool false)) m1) (
        Br (((a0l : Nat) : Int) == 0) (
          R (.returned (.bool true)) m1) (
          Br (decide (((a0l : Nat) : Int) > 300)) (
            R (.returned (.bool true)) m1) (
            HC P page_New.id #[.slice a0a a0l a0c, .int .i64 (IntKind.i64.wrap (5 + (Int.tmod (IntKind.i64.wrap a1) 30)))] m1 (Cont (fun v m2 =>
                UnTup v fun us0 =>
                UnCons us0 fun w us1 =>
                UnP w fun x45_0 =>
                UnCons us1 fun w us2 =>
                UnI w .i64 fun x45_1 =>
                UnNil us2 (
                  HC P file_New.id #[.pointer x45_0, .int .i64 100] m2 (Cont (fun v m3 =>
                      UnP v fun x49 =>
                      Br (x45_1 != 0) (
                        R (.returned (.bool false)) m3) (
                        Br x45_0.isNone (
                        R (.returned (.bool false)) m3) (
                        Br x49.isNone (
                        R (.returned (.bool false)) m3) (
                        NzI ((a0l : Nat) : Int) (
                        HC P file_File_Bytes.id #[.pointer x49, .int .i64 (Int.tmod (IntKind.i64.wrap a2) ((a0l : Nat) : Int)), .int .i64 (if ((a0l : Nat) : Int) < (IntKind.i64.wrap ((IntKind.i64.wrap ((Int.tmod (IntKind.i64.wrap a2) ((a0l : Nat) : Int)) + 1)) + (IntKind.i64.wrap a3))) then ((a0l : Nat) : Int) else IntKind.i64.wrap ((IntKind.i64.wrap ((Int.tmod (IntKind.i64.wrap a2) ((a0l : Nat) : Int)) + 1)) + (IntKind.i64.wrap a3)))] m3 (Cont (fun v m4 =>
                        UnTup v fun us0 =>
                        UnCons us0 fun w us1 =>
                        UnS w fun x77_0a x77_0l x77_0c =>
                        UnCons us1 fun w us2 =>
                        UnI w .i64 fun x77_1 =>
                        UnNil us2 (
                        l1  a0a a0l a0c (IntKind.i64.wrap (5 + (Int.tmod (IntKind.i64.wrap a1) 30))) x45_0 x49 (Int.tmod (IntKind.i64.wrap a2) ((a0l : Nat) : Int)) (if ((a0l : Nat) : Int) < (IntKind.i64.wrap ((IntKind.i64.wrap ((Int.tmod (IntKind.i64.wrap a2) ((a0l : Nat) : Int)) + 1)) + (IntKind.i64.wrap a3))) then ((a0l : Nat) : Int) else IntKind.i64.wrap ((IntKind.i64.wrap ((Int.tmod (IntKind.i64.wrap a2) ((a0l : Nat) : Int)) + 1)) + (IntKind.i64.wrap a3))) x77_0a x77_0l x77_0c x77_1 none 0 0 0 R m4)) (panicR R))))))) (panicR R)))) (panicR R)))))) (panicR R))
noncomputable def e0A (R : Ending → Mem → Prop) : ACode := (.seq (.code (sL (body))) (.seq (.code (sL (sR (body)))) (.seq (.code (sL (sR (sR (body))))) (.seq (.code (sL (sR (sR (sR (body)))))) (.seq (.code (sL (sR (sR (sR (sR (body))))))) (.seq (.code (sL (sR (sR (sR (sR (sR (body)))))))) (.seq (.code (sL (sR (sR (sR (sR (sR (sR (body))))))))) (.seq (.code (sL (sR (sR (sR (sR (sR (sR (sR (body)))))))))) (.seq (.code (sL (sR (sR (sR (sR (sR (sR (sR (sR (body))))))))))) (.seq (.code (sL (sR (sR (sR (sR (sR (sR (sR (sR (sR (body)))))))))))) (.seq (.code (sL (sR (sR (sR (sR (sR (sR (sR (sR (sR (sR (body))))))))))))) (.seq (.seq (.code (sL (sL (sR (sR (sR (sR (sR (sR (sR (sR (sR (sR (sR (body))))))))))))))) (.block 0 (.cut (l1E fun x0a x0l x0c x9 x10 x12 x13 x14 x15a x15l x15c x16 x17a x17l x17c x18 m => l1  x0a x0l x0c x9 x10 x12 x13 x14 x15a x15l x15c x16 x17a x17l x17c x18 R m) (.loop (lP (bB (sR (sL (sR (sR (sR (sR (sR (sR (sR (sR (sR (sR (sR (body)))))))))))))))))))) (.cut (k2E fun x0a x0l x0c x9 x10 x12 x13 x14 x15a x15l x15c x16 x17a x17l x17c m => k2  x0a x0l x0c x9 x10 x12 x13 x14 x15a x15l x15c x16 x17a x17l x17c R m) (sR (sR (sR (sR (sR (sR (sR (sR (sR (sR (sR (sR (body))))))))))))))))))))))))))
theorem k2_eq  (R : Ending → Mem → Prop) (x0a : Option Addr) (x0l : Nat) (x0c : Nat) (x9 : Int) (x10 : Option Addr) (x12 : Option Addr) (x13 : Int) (x14 : Int) (x15a : Option Addr) (x15l : Nat) (x15c : Nat) (x16 : Int) (x17a : Option Addr) (x17l : Nat) (x17c : Nat) (ρ : Env) (m : Mem) : k2  x0a x0l x0c x9 x10 x12 x13 x14 x15a x15l x15c x16 x17a x17l x17c R m = acpt P od (panicR R) (k2A  R) (bodyQ P fn R) (upd (upd (upd (upd (upd (upd (upd (upd (upd ρ 17 (.slice x17a x17l x17c)) 16 (.int .i64 x16)) 15 (.slice x15a x15l x15c)) 14 (.int .i64 x14)) 13 (.int .i64 x13)) 12 (.pointer x12)) 10 (.pointer x10)) 9 (.int .i64 x9)) 0 (.slice x0a x0l x0c)) m := by kernel_rfl
theorem k2_er  (R : Ending → Mem → Prop) : (k2A  R).erase = sR (sR (sR (sR (sR (sR (sR (sR (sR (sR (sR (sR (body)))))))))))) := by kernel_rfl
theorem k2_ok  (R : Ending → Mem → Prop) (ρ : Env) (m : Mem) (h : (k2E fun x0a x0l x0c x9 x10 x12 x13 x14 x15a x15l x15c x16 x17a x17l x17c m => k2  x0a x0l x0c x9 x10 x12 x13 x14 x15a x15l x15c x16 x17a x17l x17c R m) ρ m) : cpt P od (panicR R) (sR (sR (sR (sR (sR (sR (sR (sR (sR (sR (sR (sR (body))))))))))))) (bodyQ P fn R) ρ m := by
  unfold k2E at h
  obtain ⟨x0a, x0l, x0c, e0, h⟩ := h.ex
  obtain ⟨x9, e9, h⟩ := h.ex
  obtain ⟨x10, e10, h⟩ := h.ex
  obtain ⟨x12, e12, h⟩ := h.ex
  obtain ⟨x13, e13, h⟩ := h.ex
  obtain ⟨x14, e14, h⟩ := h.ex
  obtain ⟨x15a, x15l, x15c, e15, h⟩ := h.ex
  obtain ⟨x16, e16, h⟩ := h.ex
  obtain ⟨x17a, x17l, x17c, e17, h⟩ := h.ex
  rw [← upd_self e0, ← upd_self e9, ← upd_self e10, ← upd_self e12, ← upd_self e13, ← upd_self e14, ← upd_self e15, ← upd_self e16, ← upd_self e17]
  rw [← k2_er  R]
  refine acpt_sound (P := P) (k2A  R) _ _ _ True.intro ?_
  exact Eq.mp (k2_eq  R x0a x0l x0c x9 x10 x12 x13 x14 x15a x15l x15c x16 x17a x17l x17c ρ m) h
theorem l1_eq  (K1 : Option Addr → Nat → Nat → Int → Option Addr → Option Addr → Int → Int → Option Addr → Nat → Nat → Int → Option Addr → Nat → Nat → Int → Mem → Prop) (R : Ending → Mem → Prop) (x0a : Option Addr) (x0l : Nat) (x0c : Nat) (x9 : Int) (x10 : Option Addr) (x12 : Option Addr) (x13 : Int) (x14 : Int) (x15a : Option Addr) (x15l : Nat) (x15c : Nat) (x16 : Int) (x17a : Option Addr) (x17l : Nat) (x17c : Nat) (x18 : Int) (ρ : Env) (m : Mem) : l1B  K1 x0a x0l x0c x9 x10 x12 x13 x14 x15a x15l x15c x16 x17a x17l x17c x18 R m = acpt P od (panicR R) (l1A  K1 R) (thenQ (l1E K1) (blockQ 0 (thenQ (acpt P od (panicR R) (.cut (k2E fun x0a x0l x0c x9 x10 x12 x13 x14 x15a x15l x15c x16 x17a x17l x17c m => k2  x0a x0l x0c x9 x10 x12 x13 x14 x15a x15l x15c x16 x17a x17l x17c R m) (sR (sR (sR (sR (sR (sR (sR (sR (sR (sR (sR (sR (body)))))))))))))) (bodyQ P fn R)) (bodyQ P fn R)))) (upd (upd (upd (upd (upd (upd (upd (upd (upd (upd ρ 18 (.int .i64 x18)) 17 (.slice x17a x17l x17c)) 16 (.int .i64 x16)) 15 (.slice x15a x15l x15c)) 14 (.int .i64 x14)) 13 (.int .i64 x13)) 12 (.pointer x12)) 10 (.pointer x10)) 9 (.int .i64 x9)) 0 (.slice x0a x0l x0c)) m := by kernel_rfl
theorem l1_er  (K1 : Option Addr → Nat → Nat → Int → Option Addr → Option Addr → Int → Int → Option Addr → Nat → Nat → Int → Option Addr → Nat → Nat → Int → Mem → Prop) (R : Ending → Mem → Prop) : (l1A  K1 R).erase = lP (bB (sR (sL (sR (sR (sR (sR (sR (sR (sR (sR (sR (sR (sR (body))))))))))))))) := by kernel_rfl
theorem l1_ok  (R : Ending → Mem → Prop) (ρ : Env) (m : Mem) (h : (l1E fun x0a x0l x0c x9 x10 x12 x13 x14 x15a x15l x15c x16 x17a x17l x17c x18 m => l1  x0a x0l x0c x9 x10 x12 x13 x14 x15a x15l x15c x16 x17a x17l x17c x18 R m) ρ m) : cpt P od (panicR R) (.loop (lP (bB (sR (sL (sR (sR (sR (sR (sR (sR (sR (sR (sR (sR (sR (body))))))))))))))))) (blockQ 0 (thenQ (acpt P od (panicR R) (.cut (k2E fun x0a x0l x0c x9 x10 x12 x13 x14 x15a x15l x15c x16 x17a x17l x17c m => k2  x0a x0l x0c x9 x10 x12 x13 x14 x15a x15l x15c x16 x17a x17l x17c R m) (sR (sR (sR (sR (sR (sR (sR (sR (sR (sR (sR (sR (body)))))))))))))) (bodyQ P fn R)) (bodyQ P fn R))) ρ m := by
  unfold l1E at h
  obtain ⟨x0a, x0l, x0c, e0, h⟩ := h.ex
  obtain ⟨x9, e9, h⟩ := h.ex
  obtain ⟨x10, e10, h⟩ := h.ex
  obtain ⟨x12, e12, h⟩ := h.ex
  obtain ⟨x13, e13, h⟩ := h.ex
  obtain ⟨x14, e14, h⟩ := h.ex
  obtain ⟨x15a, x15l, x15c, e15, h⟩ := h.ex
  obtain ⟨x16, e16, h⟩ := h.ex
  obtain ⟨x17a, x17l, x17c, e17, h⟩ := h.ex
  obtain ⟨x18, e18, h⟩ := h.ex
  obtain ⟨I, N, h0, hs⟩ := h
  refine ⟨fun N => l1E (I N), N, (by show l1E (I N) ρ m; unfold l1E; rw [e0, e9, e10, e12, e13, e14, e15, e16, e17, e18]; exact h0), ?_⟩
  clear h0 e0 e9 e10 e12 e13 e14 e15 e16 e17 e18
  intro N ρ m h
  unfold l1E at h
  obtain ⟨x0a, x0l, x0c, e0, h⟩ := h.ex
  obtain ⟨x9, e9, h⟩ := h.ex
  obtain ⟨x10, e10, h⟩ := h.ex
  obtain ⟨x12, e12, h⟩ := h.ex
  obtain ⟨x13, e13, h⟩ := h.ex
  obtain ⟨x14, e14, h⟩ := h.ex
  obtain ⟨x15a, x15l, x15c, e15, h⟩ := h.ex
  obtain ⟨x16, e16, h⟩ := h.ex
  obtain ⟨x17a, x17l, x17c, e17, h⟩ := h.ex
  obtain ⟨x18, e18, h⟩ := h.ex
  refine cpt_mono (P := P) (lP (bB (sR (sL (sR (sR (sR (sR (sR (sR (sR (sR (sR (sR (sR (body)))))))))))))))) (Q := thenQ (l1E fun x0a x0l x0c x9 x10 x12 x13 x14 x15a x15l x15c x16 x17a x17l x17c x18 m => ∃ N1, N1 < N ∧ I N1 x0a x0l x0c x9 x10 x12 x13 x14 x15a x15l x15c x16 x17a x17l x17c x18 m) (blockQ 0 (thenQ (acpt P od (panicR R) (.cut (k2E fun x0a x0l x0c x9 x10 x12 x13 x14 x15a x15l x15c x16 x17a x17l x17c m => k2  x0a x0l x0c x9 x10 x12 x13 x14 x15a x15l x15c x16 x17a x17l x17c R m) (sR (sR (sR (sR (sR (sR (sR (sR (sR (sR (sR (sR (body)))))))))))))) (bodyQ P fn R)) (bodyQ P fn R)))) (fun e ρ m h => ?_) ρ m ?_
  · cases e with
    | normal =>
      have h : l1E (fun x0a x0l x0c x9 x10 x12 x13 x14 x15a x15l x15c x16 x17a x17l x17c x18 m => ∃ N1, N1 < N ∧ I N1 x0a x0l x0c x9 x10 x12 x13 x14 x15a x15l x15c x16 x17a x17l x17c x18 m) ρ m := h
      unfold l1E at h
      obtain ⟨x0a, x0l, x0c, e0, h⟩ := h.ex
      obtain ⟨x9, e9, h⟩ := h.ex
      obtain ⟨x10, e10, h⟩ := h.ex
      obtain ⟨x12, e12, h⟩ := h.ex
      obtain ⟨x13, e13, h⟩ := h.ex
      obtain ⟨x14, e14, h⟩ := h.ex
      obtain ⟨x15a, x15l, x15c, e15, h⟩ := h.ex
      obtain ⟨x16, e16, h⟩ := h.ex
      obtain ⟨x17a, x17l, x17c, e17, h⟩ := h.ex
      obtain ⟨x18, e18, h⟩ := h.ex
      obtain ⟨N1, hlt, h⟩ := h
      exact ⟨N1, hlt, (by show l1E (I N1) ρ m; unfold l1E; rw [e0, e9, e10, e12, e13, e14, e15, e16, e17, e18]; exact h)⟩
    | _ => exact h
  have hh := hs N x0a x0l x0c x9 x10 x12 x13 x14 x15a x15l x15c x16 x17a x17l x17c x18 m h
  generalize (fun x0a x0l x0c x9 x10 x12 x13 x14 x15a x15l x15c x16 x17a x17l x17c x18 m => ∃ N1, N1 < N ∧ I N1 x0a x0l x0c x9 x10 x12 x13 x14 x15a x15l x15c x16 x17a x17l x17c x18 m : Option Addr → Nat → Nat → Int → Option Addr → Option Addr → Int → Int → Option Addr → Nat → Nat → Int → Option Addr → Nat → Nat → Int → Mem → Prop) = K1 at hh ⊢
  rw [← upd_self e0, ← upd_self e9, ← upd_self e10, ← upd_self e12, ← upd_self e13, ← upd_self e14, ← upd_self e15, ← upd_self e16, ← upd_self e17, ← upd_self e18]
  rw [← l1_er  K1 R]
  refine acpt_sound (P := P) (l1A  K1 R) _ _ _ True.intro ?_
  exact Eq.mp (l1_eq  K1 R x0a x0l x0c x9 x10 x12 x13 x14 x15a x15l x15c x16 x17a x17l x17c x18 ρ m) hh
theorem e0_eq (a0a : Option Addr) (a0l : Nat) (a0c : Nat) (a1 : Int) (a2 : Int) (a3 : Int) (R : Ending → Mem → Prop) (m : Mem) : e0 a0a a0l a0c a1 a2 a3 R m = acpt P od (panicR R) (e0A R) (bodyQ P fn R) (argE (#[.slice a0a a0l a0c, .int .u8 a1, .int .u16 a2, .int .u16 a3] : Array Value).toList) m := by kernel_rfl
theorem ok (a0a : Option Addr) (a0l : Nat) (a0c : Nat) (a1 : Int) (a2 : Int) (a3 : Int) (R : Ending → Mem → Prop) (m : Mem) (h : e0 a0a a0l a0c a1 a2 a3 R m) : HC P id #[.slice a0a a0l a0c, .int .u8 a1, .int .u16 a2, .int .u16 a3] m R := by
  refine HC_of (fn := fn) (c := body) (od := od) (tb := tb) Go.Proofs.Try.func7 (by kernel_rfl) (by kernel_rfl) follows (by kernel_rfl) (of_decide_eq_true (by kernel_rfl)) ?_
  have he : (e0A R).erase = body := by kernel_rfl
  rw [← he]
  refine acpt_sound (P := P) (e0A R) _ _ _ ⟨⟨⟨⟨⟨⟨⟨⟨⟨⟨⟨⟨(fun ρ m h => k2_ok  R ρ m h), ⟨(fun ρ m h => l1_ok  R ρ m h), True.intro⟩⟩, True.intro⟩, True.intro⟩, True.intro⟩, True.intro⟩, True.intro⟩, True.intro⟩, True.intro⟩, True.intro⟩, True.intro⟩, True.intro⟩, True.intro⟩ ?_
  exact Eq.mp (e0_eq a0a a0l a0c a1 a2 a3 R m) h
end eyotlaw5_FileKeeps

/-! ### eyot/eyotlaw5.begun -/
namespace eyotlaw5_begun
noncomputable def fn : Func := Go.Proofs.Try.f8
noncomputable def body : Code := fn.body.getD .skip
def od : Nat → Ord := fun _ => .done
def tb : Nat → Tab := fun _ => (0, [], [])
def e0  (R : Ending → Mem → Prop) (m : Mem) : Prop :=
  NewC m #[.int .u8 1, .int .u8 2, .int .u8 3, .int .u8 4, .int .u8 5] T_uint8 fun b9 m1 =>
  HC P page_New.id #[.slice (some ⟨b9, 0, none⟩) 5 5, .int .i64 2] m1 (Cont (fun v m2 =>
      UnTup v fun us0 =>
      UnCons us0 fun w us1 =>
      UnP w fun x10_0 =>
      UnCons us1 fun w us2 =>
      UnI w .i64 fun x10_1 =>
      UnNil us2 (
        HC P file_New.id #[.pointer x10_0, .int .i64 2] m2 (Cont (fun v m3 =>
            UnP v fun x14 =>
            Br (x10_1 != 0) (
              R (.returned (.bool false)) m3) (
              Br x10_0.isNone (
                R (.returned (.bool false)) m3) (
                Br x14.isNone (
                  R (.returned (.bool false)) m3) (
                  HC P file_File_Bytes.id #[.pointer x14, .int .i64 1, .int .i64 5] m3 (Cont (fun v m4 =>
                      UnTup v fun us0 =>
                      UnCons us0 fun w us1 =>
                      UnS w fun x27_0a x27_0l x27_0c =>
                      UnCons us1 fun w us2 =>
                      UnI w .i64 fun x27_1 =>
                      UnNil us2 (
                        HC P file_File_At.id #[.pointer x14, .int .i64 4] m4 (Cont (fun v m5 =>
                        UnTup v fun us0 =>
                        UnCons us0 fun w us1 =>
                        UnI w .u8 fun x32_0 =>
                        UnCons us1 fun w us2 =>
                        UnI w .i64 fun x32_1 =>
                        UnNil us2 (
                        Br (x27_1 == 0) (
                        Br (((x27_0l : Nat) : Int) == 4) (
                        IxS x27_0a x27_0l 3 1 fun x44b x44o =>
                        LdV m5 x44b x44o fun v =>
                        UnI v .u8 fun x45 =>
                        Br (x45 == 5) (
                        Br (x32_1 == 0) (
                        Br (x32_0 == 5) (
                        HC P file_File_Kept.id #[.pointer x14] m5 (Cont (fun v m6 =>
                        UnI v .i64 fun x58 =>
                        Br (x58 == 2) (
                        HC P file_File_Len.id #[.pointer x14] m6 (Cont (fun v m7 =>
                        UnI v .i64 fun x63 =>
                        R (.returned (.bool (x63 == 5))) m7) (panicR R))) (
                        R (.returned (.bool false)) m6)) (panicR R))) (
                        R (.returned (.bool false)) m5)) (
                        R (.returned (.bool false)) m5)) (
                        R (.returned (.bool false)) m5)) (
                        R (.returned (.bool false)) m5)) (
                        R (.returned (.bool false)) m5))) (panicR R)))) (panicR R)))))) (panicR R)))) (panicR R))
noncomputable def e0A (R : Ending → Mem → Prop) : ACode := (.code (body))
theorem e0_eq  (R : Ending → Mem → Prop) (m : Mem) : e0  R m = acpt P od (panicR R) (e0A R) (bodyQ P fn R) (argE (#[] : Array Value).toList) m := by kernel_rfl
theorem ok  (R : Ending → Mem → Prop) (m : Mem) (h : e0  R m) : HC P id #[] m R := by
  refine HC_of (fn := fn) (c := body) (od := od) (tb := tb) Go.Proofs.Try.func8 (by kernel_rfl) (by kernel_rfl) follows (by kernel_rfl) (of_decide_eq_true (by kernel_rfl)) ?_
  have he : (e0A R).erase = body := by kernel_rfl
  rw [← he]
  refine acpt_sound (P := P) (e0A R) _ _ _ True.intro ?_
  exact Eq.mp (e0_eq  R m) h
end eyotlaw5_begun

/-! ### eyot/page.New -/
namespace page_New
noncomputable def fn : Func := Go.Proofs.Try.f9
noncomputable def body : Code := fn.body.getD .skip
def od : Nat → Ord := fun _ => .done
def tb : Nat → Tab := fun _ => (0, [], [])
def e0 (base_0a : Option Addr) (base_0l : Nat) (base_0c : Nat) (size_1 : Int) (R : Ending → Mem → Prop) (m : Mem) : Prop :=
  Br (decide (size_1 < 1)) (
    R (.returned (.tuple #[.pointer none, .int .i64 1])) m) (
    Br (decide (size_1 > 512)) (
      R (.returned (.tuple #[.pointer none, .int .i64 1])) m) (
      Br (decide (((base_0l : Nat) : Int) > 4000)) (
        R (.returned (.tuple #[.pointer none, .int .i64 1])) m) (
        HC P slices_Clone_s_byte_byte.id #[.slice base_0a base_0l base_0c] m (Cont (fun v m1 =>
            UnS v fun x18a x18l x18c =>
            NewC m1 #[.slice x18a x18l x18c, .int .i64 size_1, .map none, .slice none 0 0] T_page_Pages fun b21 m2 =>
            R (.returned (.tuple #[.pointer (some ⟨b21, 0, none⟩), .int .i64 0])) m2) (panicR R)))))
noncomputable def e0A (R : Ending → Mem → Prop) : ACode := (.code (body))
theorem e0_eq (base_0a : Option Addr) (base_0l : Nat) (base_0c : Nat) (size_1 : Int) (R : Ending → Mem → Prop) (m : Mem) : e0 base_0a base_0l base_0c size_1 R m = acpt P od (panicR R) (e0A R) (bodyQ P fn R) (argE (#[.slice base_0a base_0l base_0c, .int .i64 size_1] : Array Value).toList) m := by kernel_rfl
theorem ok (base_0a : Option Addr) (base_0l : Nat) (base_0c : Nat) (size_1 : Int) (R : Ending → Mem → Prop) (m : Mem) (h : e0 base_0a base_0l base_0c size_1 R m) : HC P id #[.slice base_0a base_0l base_0c, .int .i64 size_1] m R := by
  refine HC_of (fn := fn) (c := body) (od := od) (tb := tb) Go.Proofs.Try.func9 (by kernel_rfl) (by kernel_rfl) follows (by kernel_rfl) (of_decide_eq_true (by kernel_rfl)) ?_
  have he : (e0A R).erase = body := by kernel_rfl
  rw [← he]
  refine acpt_sound (P := P) (e0A R) _ _ _ True.intro ?_
  exact Eq.mp (e0_eq base_0a base_0l base_0c size_1 R m) h
end page_New

/-! ### eyot/file.New -/
namespace file_New
noncomputable def fn : Func := Go.Proofs.Try.f10
noncomputable def body : Code := fn.body.getD .skip
def od : Nat → Ord := fun _ => .done
def tb : Nat → Tab := fun _ => (0, [], [])
def e0 (p_0 : Option Addr) (most_1 : Int) (R : Ending → Mem → Prop) (m : Mem) : Prop :=
  HC P lru_New_s_byte.id #[.int .i64 most_1] m (Cont (fun v m1 =>
      UnP v fun x7 =>
      NewC m1 #[.pointer p_0, .pointer x7] T_file_File fun b9 m2 =>
      R (.returned (.pointer (some ⟨b9, 0, none⟩))) m2) (panicR R))
noncomputable def e0A (R : Ending → Mem → Prop) : ACode := (.code (body))
theorem e0_eq (p_0 : Option Addr) (most_1 : Int) (R : Ending → Mem → Prop) (m : Mem) : e0 p_0 most_1 R m = acpt P od (panicR R) (e0A R) (bodyQ P fn R) (argE (#[.pointer p_0, .int .i64 most_1] : Array Value).toList) m := by kernel_rfl
theorem ok (p_0 : Option Addr) (most_1 : Int) (R : Ending → Mem → Prop) (m : Mem) (h : e0 p_0 most_1 R m) : HC P id #[.pointer p_0, .int .i64 most_1] m R := by
  refine HC_of (fn := fn) (c := body) (od := od) (tb := tb) Go.Proofs.Try.func10 (by kernel_rfl) (by kernel_rfl) follows (by kernel_rfl) (of_decide_eq_true (by kernel_rfl)) ?_
  have he : (e0A R).erase = body := by kernel_rfl
  rw [← he]
  refine acpt_sound (P := P) (e0A R) _ _ _ True.intro ?_
  exact Eq.mp (e0_eq p_0 most_1 R m) h
end file_New

/-! ### (*eyot/file.File).Bytes -/
namespace file_File_Bytes
noncomputable def fn : Func := Go.Proofs.Try.f11
noncomputable def fnR : Func := { fn with results := #[] }
noncomputable def body : Code := fn.body.getD .skip
def od : Nat → Ord := fun | 9 => ordL [(0, 1), (1, 3), (2, 3), (3, 3), (4, 3), (5, 3), (6, 3), (7, 3), (8, 3), (9, 3), (10, 3), (11, 3), (12, 3), (13, 3), (14, 3), (15, 3), (16, 3), (17, 2), (18, 2)] .done | _ => .done
def tb : Nat → Tab := fun | 9 => (393216, [0, 0, 0, 0, 0, 24, 60, 124, 0, 0, 0, 1536, 3840, 0, 8192, 32512, 65534, 131071, 262143], [(0, 64, 60), (0, 1024, 61), (0, 2, 62), (0, 512, 63), (0, 256, 64), (24, 13835058055282163712, 65), (36, 20752587082923245568, 66), (64, 36893488147419103232, 67), (0, 4, 68), (0, 512, 69), (0, 256, 70), (1536, 885443715538058477568, 71), (2304, 1328165573307087716352, 72), (0, 1024, 73), (8192, 4722366482869645213696, 74), (20480, 11805916207174113034240, 75), (32898, 18964405829278025908224, 76), (65537, 37779508323709465133056, 77), (262143, 75557863725914323419200, 0)]) | _ => (0, [], [])
def l2E (K : Option Addr → Int → Int → Nat → Nat → Nat → Nat → Int → Int → Mem → Prop) : Env → Mem → Prop := fun ρ m => UnP (ρ 0) fun x0 => UnI (ρ 1) .i64 fun x1 => UnI (ρ 2) .i64 fun x2 => UnPA (ρ 6) fun x6b x6o => UnPA (ρ 7) fun x7b x7o => UnI (ρ 8) .i64 fun x8 => UnI (ρ 9) .i64 fun x9 => K x0 x1 x2 x6b x6o x7b x7o x8 x9 m
def l2B  (K2 : Option Addr → Int → Int → Nat → Nat → Nat → Nat → Int → Int → Mem → Prop) (x0 : Option Addr) (x1 : Int) (x2 : Int) (x6b : Nat) (x6o : Nat) (x7b : Nat) (x7o : Nat) (x8 : Int) (x9 : Int) (R : Ending → Mem → Prop) (m : Mem) : Prop :=
  Br (decide ((IntKind.i64.wrap (x9 * x8)) < x2)) (
    Br (decide (x1 < x2)) (
      HC P file_File_page.id #[.pointer x0, .int .i64 x9] m (Cont (fun v m1 =>
          UnS v fun x58a x58l x58c =>
          Sub m1 fun r2 =>
          LdV r2 x6b x6o fun v =>
          UnS v fun x59a x59l x59c =>
          SlS x58a x58c (if 0 > (IntKind.i64.wrap (x1 - (IntKind.i64.wrap (x9 * x8)))) then 0 else IntKind.i64.wrap (x1 - (IntKind.i64.wrap (x9 * x8)))) (if ((x58l : Nat) : Int) < (IntKind.i64.wrap (x2 - (IntKind.i64.wrap (x9 * x8)))) then ((x58l : Nat) : Int) else IntKind.i64.wrap (x2 - (IntKind.i64.wrap (x9 * x8)))) 1 fun x75a x75l x75c =>
          BiN P .append #[T_sl_uint8, T_sl_uint8] T_sl_uint8 #[false, false] #[.slice x59a x59l x59c, .slice x75a x75l x75c] m1 (fun w m3 =>
            UnS w fun x76a x76l x76c =>
            St1 m3 x6b x6o (.slice x76a x76l x76c) fun m4 =>
            K2 x0 x1 x2 x6b x6o x7b x7o x8 (IntKind.i64.wrap (x9 + 1)) m4) (panicR R)) (panicR R))) (
      LdV m x6b x6o fun v =>
      UnS v fun x77a x77l x77c =>
      St1 m x6b x6o (.slice x77a x77l x77c) fun m1 =>
      St1 m1 x7b x7o (.int .i64 0) fun m2 =>
      R (.returned (.tuple #[])) m2)) (
    LdV m x6b x6o fun v =>
    UnS v fun x77a x77l x77c =>
    St1 m x6b x6o (.slice x77a x77l x77c) fun m1 =>
    St1 m1 x7b x7o (.int .i64 0) fun m2 =>
    R (.returned (.tuple #[])) m2)
def l2  (x0 : Option Addr) (x1 : Int) (x2 : Int) (x6b : Nat) (x6o : Nat) (x7b : Nat) (x7o : Nat) (x8 : Int) (x9 : Int) (R : Ending → Mem → Prop) (m : Mem) : Prop :=
  ∃ (I : Nat → Option Addr → Int → Int → Nat → Nat → Nat → Nat → Int → Int → Mem → Prop) (N : Nat), I N x0 x1 x2 x6b x6o x7b x7o x8 x9 m ∧ ∀ N x0 x1 x2 x6b x6o x7b x7o x8 x9 m, I N x0 x1 x2 x6b x6o x7b x7o x8 x9 m → l2B  (fun x0 x1 x2 x6b x6o x7b x7o x8 x9 m => ∃ N1, N1 < N ∧ I N1 x0 x1 x2 x6b x6o x7b x7o x8 x9 m) x0 x1 x2 x6b x6o x7b x7o x8 x9 R m
noncomputable def l2A  (K2 : Option Addr → Int → Int → Nat → Nat → Nat → Nat → Int → Int → Mem → Prop) (R : Ending → Mem → Prop) : ACode := (.code (lP (bB (sR (sL (sR (sR (sR (sR (body))))))))))
def k1E (K : Option Addr → Int → Int → Nat → Nat → Nat → Nat → Mem → Prop) : Env → Mem → Prop := fun ρ m => UnP (ρ 0) fun x0 => UnI (ρ 1) .i64 fun x1 => UnI (ρ 2) .i64 fun x2 => UnPA (ρ 6) fun x6b x6o => UnPA (ρ 7) fun x7b x7o => K x0 x1 x2 x6b x6o x7b x7o m
def k1  (x0 : Option Addr) (x1 : Int) (x2 : Int) (x6b : Nat) (x6o : Nat) (x7b : Nat) (x7o : Nat) (R : Ending → Mem → Prop) (m : Mem) : Prop :=
  NilC x0 (fun x37b x37o =>
    LdV m x37b x37o fun v =>
    UnP v fun x39 =>
    HC P page_Pages_Size.id #[.pointer x39] m (Cont (fun v m1 =>
        UnI v .i64 fun x40 =>
        NzI x40 (
          l2  x0 x1 x2 x6b x6o x7b x7o x40 (IntKind.i64.wrap (Int.tdiv x1 x40)) R m1)) (panicR R))) (R (.panicked (nilPanic P)) m)
noncomputable def k1A  (R : Ending → Mem → Prop) : ACode := (.seq (.code (sL (sR (sR (sR (body)))))) (.seq (.seq (.code (sL (sL (sR (sR (sR (sR (body)))))))) (.block 0 (.cut (l2E fun x0 x1 x2 x6b x6o x7b x7o x8 x9 m => l2  x0 x1 x2 x6b x6o x7b x7o x8 x9 R m) (.loop (lP (bB (sR (sL (sR (sR (sR (sR (body))))))))))))) (.code (sR (sR (sR (sR (sR (body)))))))))
theorem l2_eq  (K2 : Option Addr → Int → Int → Nat → Nat → Nat → Nat → Int → Int → Mem → Prop) (R : Ending → Mem → Prop) (x0 : Option Addr) (x1 : Int) (x2 : Int) (x6b : Nat) (x6o : Nat) (x7b : Nat) (x7o : Nat) (x8 : Int) (x9 : Int) (ρ : Env) (m : Mem) : l2B  K2 x0 x1 x2 x6b x6o x7b x7o x8 x9 R m = acpt P od (panicR R) (l2A  K2 R) (thenQ (l2E K2) (blockQ 0 (thenQ (acpt P od (panicR R) (.code (sR (sR (sR (sR (sR (body))))))) (bodyQ P fnR R)) (bodyQ P fnR R)))) (upd (upd (upd (upd (upd (upd (upd ρ 9 (.int .i64 x9)) 8 (.int .i64 x8)) 7 (.pointer (some ⟨x7b, x7o, none⟩))) 6 (.pointer (some ⟨x6b, x6o, none⟩))) 2 (.int .i64 x2)) 1 (.int .i64 x1)) 0 (.pointer x0)) m := by kernel_rfl
theorem l2_er  (K2 : Option Addr → Int → Int → Nat → Nat → Nat → Nat → Int → Int → Mem → Prop) (R : Ending → Mem → Prop) : (l2A  K2 R).erase = lP (bB (sR (sL (sR (sR (sR (sR (body)))))))) := by kernel_rfl
theorem l2_ok  (R : Ending → Mem → Prop) (ρ : Env) (m : Mem) (h : (l2E fun x0 x1 x2 x6b x6o x7b x7o x8 x9 m => l2  x0 x1 x2 x6b x6o x7b x7o x8 x9 R m) ρ m) : cpt P od (panicR R) (.loop (lP (bB (sR (sL (sR (sR (sR (sR (body)))))))))) (blockQ 0 (thenQ (acpt P od (panicR R) (.code (sR (sR (sR (sR (sR (body))))))) (bodyQ P fnR R)) (bodyQ P fnR R))) ρ m := by
  unfold l2E at h
  obtain ⟨x0, e0, h⟩ := h.ex
  obtain ⟨x1, e1, h⟩ := h.ex
  obtain ⟨x2, e2, h⟩ := h.ex
  obtain ⟨x6b, x6o, e6, h⟩ := h.ex
  obtain ⟨x7b, x7o, e7, h⟩ := h.ex
  obtain ⟨x8, e8, h⟩ := h.ex
  obtain ⟨x9, e9, h⟩ := h.ex
  obtain ⟨I, N, h0, hs⟩ := h
  refine ⟨fun N => l2E (I N), N, (by show l2E (I N) ρ m; unfold l2E; rw [e0, e1, e2, e6, e7, e8, e9]; exact h0), ?_⟩
  clear h0 e0 e1 e2 e6 e7 e8 e9
  intro N ρ m h
  unfold l2E at h
  obtain ⟨x0, e0, h⟩ := h.ex
  obtain ⟨x1, e1, h⟩ := h.ex
  obtain ⟨x2, e2, h⟩ := h.ex
  obtain ⟨x6b, x6o, e6, h⟩ := h.ex
  obtain ⟨x7b, x7o, e7, h⟩ := h.ex
  obtain ⟨x8, e8, h⟩ := h.ex
  obtain ⟨x9, e9, h⟩ := h.ex
  refine cpt_mono (P := P) (lP (bB (sR (sL (sR (sR (sR (sR (body))))))))) (Q := thenQ (l2E fun x0 x1 x2 x6b x6o x7b x7o x8 x9 m => ∃ N1, N1 < N ∧ I N1 x0 x1 x2 x6b x6o x7b x7o x8 x9 m) (blockQ 0 (thenQ (acpt P od (panicR R) (.code (sR (sR (sR (sR (sR (body))))))) (bodyQ P fnR R)) (bodyQ P fnR R)))) (fun e ρ m h => ?_) ρ m ?_
  · cases e with
    | normal =>
      have h : l2E (fun x0 x1 x2 x6b x6o x7b x7o x8 x9 m => ∃ N1, N1 < N ∧ I N1 x0 x1 x2 x6b x6o x7b x7o x8 x9 m) ρ m := h
      unfold l2E at h
      obtain ⟨x0, e0, h⟩ := h.ex
      obtain ⟨x1, e1, h⟩ := h.ex
      obtain ⟨x2, e2, h⟩ := h.ex
      obtain ⟨x6b, x6o, e6, h⟩ := h.ex
      obtain ⟨x7b, x7o, e7, h⟩ := h.ex
      obtain ⟨x8, e8, h⟩ := h.ex
      obtain ⟨x9, e9, h⟩ := h.ex
      obtain ⟨N1, hlt, h⟩ := h
      exact ⟨N1, hlt, (by show l2E (I N1) ρ m; unfold l2E; rw [e0, e1, e2, e6, e7, e8, e9]; exact h)⟩
    | _ => exact h
  have hh := hs N x0 x1 x2 x6b x6o x7b x7o x8 x9 m h
  generalize (fun x0 x1 x2 x6b x6o x7b x7o x8 x9 m => ∃ N1, N1 < N ∧ I N1 x0 x1 x2 x6b x6o x7b x7o x8 x9 m : Option Addr → Int → Int → Nat → Nat → Nat → Nat → Int → Int → Mem → Prop) = K2 at hh ⊢
  rw [← upd_self e0, ← upd_self e1, ← upd_self e2, ← upd_self e6, ← upd_self e7, ← upd_self e8, ← upd_self e9]
  rw [← l2_er  K2 R]
  refine acpt_sound (P := P) (l2A  K2 R) _ _ _ True.intro ?_
  exact Eq.mp (l2_eq  K2 R x0 x1 x2 x6b x6o x7b x7o x8 x9 ρ m) hh
theorem k1_eq  (R : Ending → Mem → Prop) (x0 : Option Addr) (x1 : Int) (x2 : Int) (x6b : Nat) (x6o : Nat) (x7b : Nat) (x7o : Nat) (ρ : Env) (m : Mem) : k1  x0 x1 x2 x6b x6o x7b x7o R m = acpt P od (panicR R) (k1A  R) (bodyQ P fnR R) (upd (upd (upd (upd (upd ρ 7 (.pointer (some ⟨x7b, x7o, none⟩))) 6 (.pointer (some ⟨x6b, x6o, none⟩))) 2 (.int .i64 x2)) 1 (.int .i64 x1)) 0 (.pointer x0)) m := by kernel_rfl
theorem k1_er  (R : Ending → Mem → Prop) : (k1A  R).erase = sR (sR (sR (body))) := by kernel_rfl
theorem k1_ok  (R : Ending → Mem → Prop) (ρ : Env) (m : Mem) (h : (k1E fun x0 x1 x2 x6b x6o x7b x7o m => k1  x0 x1 x2 x6b x6o x7b x7o R m) ρ m) : cpt P od (panicR R) (sR (sR (sR (body)))) (bodyQ P fnR R) ρ m := by
  unfold k1E at h
  obtain ⟨x0, e0, h⟩ := h.ex
  obtain ⟨x1, e1, h⟩ := h.ex
  obtain ⟨x2, e2, h⟩ := h.ex
  obtain ⟨x6b, x6o, e6, h⟩ := h.ex
  obtain ⟨x7b, x7o, e7, h⟩ := h.ex
  rw [← upd_self e0, ← upd_self e1, ← upd_self e2, ← upd_self e6, ← upd_self e7]
  rw [← k1_er  R]
  refine acpt_sound (P := P) (k1A  R) _ _ _ ⟨⟨True.intro, ⟨(fun ρ m h => l2_ok  R ρ m h), True.intro⟩⟩, True.intro⟩ ?_
  exact Eq.mp (k1_eq  R x0 x1 x2 x6b x6o x7b x7o ρ m) h
/-- Reading the results. -/
def out (d6b : Nat) (d6o : Nat) (d7b : Nat) (d7o : Nat) (R : Ending → Mem → Prop) (m : Mem) : Prop :=
  LdV m d6b d6o fun v =>
  UnS v fun res0a res0l res0c =>
  LdV m d7b d7o fun v =>
  UnI v .i64 fun res1 =>
  R (.returned (.tuple #[.slice res0a res0l res0c, .int .i64 res1])) m
def p0 (a0 : Option Addr) (a1 : Int) (a2 : Int) (R : Ending → Mem → Prop) (KK : Option Addr → Int → Int → Nat → Nat → Nat → Nat → Mem → Prop) (m : Mem) : Prop :=
  NewC m #[.slice none 0 0] T_sl_uint8 fun b6 m1 =>
  NewC m1 #[.int .i64 0] T_api_Errno fun b7 m2 =>
  Br a0.isNone (
    St1 m2 b6 0 (.slice none 0 0) fun m3 =>
    St1 m3 b7 0 (.int .i64 1) fun m4 =>
    LdV m4 b6 0 fun v =>
    UnS v fun res0a res0l res0c =>
    LdV m4 b7 0 fun v =>
    UnI v .i64 fun res1 =>
    R (.returned (.tuple #[.slice res0a res0l res0c, .int .i64 res1])) m4) (
    NilC a0 (fun x15b x15o =>
      LdV m2 x15b x15o fun v =>
      UnP v fun x17 =>
      Br x17.isNone (
        St1 m2 b6 0 (.slice none 0 0) fun m3 =>
        St1 m3 b7 0 (.int .i64 1) fun m4 =>
        LdV m4 b6 0 fun v =>
        UnS v fun res0a res0l res0c =>
        LdV m4 b7 0 fun v =>
        UnI v .i64 fun res1 =>
        R (.returned (.tuple #[.slice res0a res0l res0c, .int .i64 res1])) m4) (
        Br (decide (a1 < 0)) (
          St1 m2 b6 0 (.slice none 0 0) fun m3 =>
          St1 m3 b7 0 (.int .i64 1) fun m4 =>
          LdV m4 b6 0 fun v =>
          UnS v fun res0a res0l res0c =>
          LdV m4 b7 0 fun v =>
          UnI v .i64 fun res1 =>
          R (.returned (.tuple #[.slice res0a res0l res0c, .int .i64 res1])) m4) (
          Br (decide (a1 > a2)) (
            St1 m2 b6 0 (.slice none 0 0) fun m3 =>
            St1 m3 b7 0 (.int .i64 1) fun m4 =>
            LdV m4 b6 0 fun v =>
            UnS v fun res0a res0l res0c =>
            LdV m4 b7 0 fun v =>
            UnI v .i64 fun res1 =>
            R (.returned (.tuple #[.slice res0a res0l res0c, .int .i64 res1])) m4) (
            HC P file_File_Len.id #[.pointer a0] m2 (Cont (fun v m3 =>
                UnI v .i64 fun x32 =>
                Br (decide (a2 > x32)) (
                  St1 m3 b6 0 (.slice none 0 0) fun m4 =>
                  St1 m4 b7 0 (.int .i64 1) fun m5 =>
                  LdV m5 b6 0 fun v =>
                  UnS v fun res0a res0l res0c =>
                  LdV m5 b7 0 fun v =>
                  UnI v .i64 fun res1 =>
                  R (.returned (.tuple #[.slice res0a res0l res0c, .int .i64 res1])) m5) (
                  KK a0 a1 a2 b6 0 b7 0 m3)) (panicR R)))))) (R (.panicked (nilPanic P)) m2))
/-- The rest, its end told by the deferred call. -/
def rest0 (x0 : Option Addr) (x1 : Int) (x2 : Int) (x6b : Nat) (x6o : Nat) (x7b : Nat) (x7o : Nat) (R : Ending → Mem → Prop) (m : Mem) : Prop := k1 x0 x1 x2 x6b x6o x7b x7o (DefR P file_File_Bytes_1.id #[.pointer (some ⟨x6b, x6o, none⟩), .pointer (some ⟨x7b, x7o, none⟩)] (out x6b x6o x7b x7o R)) m
theorem p0_eq (a0 : Option Addr) (a1 : Int) (a2 : Int) (R : Ending → Mem → Prop) (KK : Option Addr → Int → Int → Nat → Nat → Nat → Nat → Mem → Prop) (m : Mem) : p0 a0 a1 a2 R KK m = cpt P od (panicR R) (sL (body)) (aheadQ P fn R (fun ρ m => cpt P od (panicR R) (sL (sR (body))) (aheadQ P fn R (k1E KK)) ρ m)) (argE (#[.pointer a0, .int .i64 a1, .int .i64 a2] : Array Value).toList) m := by kernel_rfl
theorem cok : codeOk P od tb 8 fn.ntmps (sR (sR (sR (body)))) = true := by kernel_rfl
theorem rest_eq (x0 : Option Addr) (x1 : Int) (x2 : Int) (x6b : Nat) (x6o : Nat) (x7b : Nat) (x7o : Nat) (R : Ending → Mem → Prop) (ρ : Env) (m : Mem) : rest0 x0 x1 x2 x6b x6o x7b x7o R m = (k1E fun ux0 ux1 ux2 ux6b ux6o ux7b ux7o m => k1 ux0 ux1 ux2 ux6b ux6o ux7b ux7o (DefR P file_File_Bytes_1.id #[.pointer (some ⟨x6b, x6o, none⟩), .pointer (some ⟨x7b, x7o, none⟩)] (out x6b x6o x7b x7o R)) m) (upd (upd (upd (upd (upd (upd ρ 7 (.pointer (some ⟨x7b, x7o, none⟩))) 6 (.pointer (some ⟨x6b, x6o, none⟩))) 2 (.int .i64 x2)) 1 (.int .i64 x1)) 0 (.pointer x0)) 35 (.func (.func 24) #[] #[.pointer (some ⟨x6b, x6o, none⟩), .pointer (some ⟨x7b, x7o, none⟩)])) m := by kernel_rfl
theorem rest_ok (x0 : Option Addr) (x1 : Int) (x2 : Int) (x6b : Nat) (x6o : Nat) (x7b : Nat) (x7o : Nat) (R : Ending → Mem → Prop) (ρ : Env) (m : Mem) (h : rest0 x0 x1 x2 x6b x6o x7b x7o R m) : cpt P od (panicR (DefR P file_File_Bytes_1.id #[.pointer (some ⟨x6b, x6o, none⟩), .pointer (some ⟨x7b, x7o, none⟩)] (out x6b x6o x7b x7o R))) (sR (sR (sR (body)))) (bodyQ P fnR (DefR P file_File_Bytes_1.id #[.pointer (some ⟨x6b, x6o, none⟩), .pointer (some ⟨x7b, x7o, none⟩)] (out x6b x6o x7b x7o R))) (upd (upd (upd (upd (upd (upd ρ 7 (.pointer (some ⟨x7b, x7o, none⟩))) 6 (.pointer (some ⟨x6b, x6o, none⟩))) 2 (.int .i64 x2)) 1 (.int .i64 x1)) 0 (.pointer x0)) 35 (.func (.func 24) #[] #[.pointer (some ⟨x6b, x6o, none⟩), .pointer (some ⟨x7b, x7o, none⟩)])) m := k1_ok (DefR P file_File_Bytes_1.id #[.pointer (some ⟨x6b, x6o, none⟩), .pointer (some ⟨x7b, x7o, none⟩)] (out x6b x6o x7b x7o R)) (upd (upd (upd (upd (upd (upd ρ 7 (.pointer (some ⟨x7b, x7o, none⟩))) 6 (.pointer (some ⟨x6b, x6o, none⟩))) 2 (.int .i64 x2)) 1 (.int .i64 x1)) 0 (.pointer x0)) 35 (.func (.func 24) #[] #[.pointer (some ⟨x6b, x6o, none⟩), .pointer (some ⟨x7b, x7o, none⟩)])) m (Eq.mp (rest_eq x0 x1 x2 x6b x6o x7b x7o R ρ m) h)
theorem rest_eq2 (x0 : Option Addr) (x1 : Int) (x2 : Int) (x6b : Nat) (x6o : Nat) (x7b : Nat) (x7o : Nat) (R : Ending → Mem → Prop) (ρ : Env) (m : Mem) : cpt P od (panicR (DefR P file_File_Bytes_1.id #[.pointer (some ⟨x6b, x6o, none⟩), .pointer (some ⟨x7b, x7o, none⟩)] (out x6b x6o x7b x7o R))) (sR (sR (sR (body)))) (bodyQ P fnR (DefR P file_File_Bytes_1.id #[.pointer (some ⟨x6b, x6o, none⟩), .pointer (some ⟨x7b, x7o, none⟩)] (out x6b x6o x7b x7o R))) (upd (upd (upd (upd (upd (upd ρ 7 (.pointer (some ⟨x7b, x7o, none⟩))) 6 (.pointer (some ⟨x6b, x6o, none⟩))) 2 (.int .i64 x2)) 1 (.int .i64 x1)) 0 (.pointer x0)) 35 (.func (.func 24) #[] #[.pointer (some ⟨x6b, x6o, none⟩), .pointer (some ⟨x7b, x7o, none⟩)])) m = restP P od fn (sR (sR (sR (body)))) 24 ((#[.tmp 6, .tmp 7] : Array Operand).map (evr (upd (upd (upd (upd (upd ρ 7 (.pointer (some ⟨x7b, x7o, none⟩))) 6 (.pointer (some ⟨x6b, x6o, none⟩))) 2 (.int .i64 x2)) 1 (.int .i64 x1)) 0 (.pointer x0)))) R (upd (upd (upd (upd (upd (upd ρ 7 (.pointer (some ⟨x7b, x7o, none⟩))) 6 (.pointer (some ⟨x6b, x6o, none⟩))) 2 (.int .i64 x2)) 1 (.int .i64 x1)) 0 (.pointer x0)) 35 (.func (.func 24) #[] ((#[.tmp 6, .tmp 7] : Array Operand).map (evr (upd (upd (upd (upd (upd ρ 7 (.pointer (some ⟨x7b, x7o, none⟩))) 6 (.pointer (some ⟨x6b, x6o, none⟩))) 2 (.int .i64 x2)) 1 (.int .i64 x1)) 0 (.pointer x0)))))) m := by kernel_rfl
theorem ok (a0 : Option Addr) (a1 : Int) (a2 : Int) (R : Ending → Mem → Prop) (m : Mem) (h : p0 a0 a1 a2 R (fun x0 x1 x2 x6b x6o x7b x7o m => rest0 x0 x1 x2 x6b x6o x7b x7o R m) m) : HC P id #[.pointer a0, .int .i64 a1, .int .i64 a2] m R := by
  have h := Eq.mp (p0_eq a0 a1 a2 R (fun x0 x1 x2 x6b x6o x7b x7o m => rest0 x0 x1 x2 x6b x6o x7b x7o R m) m) h
  refine HC_of_DW (fn := fn) (c := (.seq (sL (body)) (.seq (sL (sR (body))) (.seq (.region 3 #[⟨some 35, .makeFunc (.func 24) #[] #[.tmp 6, .tmp 7], 1, "file.go:47", #[], none⟩, ⟨none, .defer ⟨.value (.tmp 35), #[], #[]⟩, 0, "file.go:47", #[⟨0, .data⟩], none⟩] false) (sR (sR (sR (body)))))))) Go.Proofs.Try.func11 (by kernel_rfl) (by kernel_rfl) (of_decide_eq_true (by kernel_rfl)) ?_
  refine DW_seq (tb := tb) (od := od) follows (by kernel_rfl) ?_
  refine cpt_mono (P := P) (sL (body)) (Q := aheadQ P fn R (fun ρ m => cpt P od (panicR R) (sL (sR (body))) (aheadQ P fn R (k1E (fun x0 x1 x2 x6b x6o x7b x7o m => rest0 x0 x1 x2 x6b x6o x7b x7o R m))) ρ m)) (fun e ρ m h => ?_) _ _ h
  cases e with
  | normal =>
    refine DW_seq (tb := tb) (od := od) follows (by kernel_rfl) ?_
    refine cpt_mono (P := P) (sL (sR (body))) (Q := aheadQ P fn R (k1E (fun x0 x1 x2 x6b x6o x7b x7o m => rest0 x0 x1 x2 x6b x6o x7b x7o R m))) (fun e ρ m h => ?_) _ _ h
    cases e with
    | normal =>
      have h : k1E (fun x0 x1 x2 x6b x6o x7b x7o m => rest0 x0 x1 x2 x6b x6o x7b x7o R m) ρ m := h
      unfold k1E at h
      obtain ⟨x0, e0, h⟩ := h.ex
      obtain ⟨x1, e1, h⟩ := h.ex
      obtain ⟨x2, e2, h⟩ := h.ex
      obtain ⟨x6b, x6o, e6, h⟩ := h.ex
      obtain ⟨x7b, x7o, e7, h⟩ := h.ex
      rw [← upd_self e0, ← upd_self e1, ← upd_self e2, ← upd_self e6, ← upd_self e7]
      refine DW_defer (tb := tb) (od := od) (gn := Go.Proofs.Try.f24) (lo := 8) Go.Proofs.Try.func24 (by kernel_rfl) (by kernel_rfl) follows cok (by kernel_rfl) (by kernel_rfl) ?_
      exact Eq.mp (rest_eq2 x0 x1 x2 x6b x6o x7b x7o R ρ m) (rest_ok x0 x1 x2 x6b x6o x7b x7o R ρ m h)
    | _ => exact h
  | _ => exact h
end file_File_Bytes

/-! ### (*eyot/file.File).At -/
namespace file_File_At
noncomputable def fn : Func := Go.Proofs.Try.f12
noncomputable def body : Code := fn.body.getD .skip
def od : Nat → Ord := fun _ => .done
def tb : Nat → Tab := fun _ => (0, [], [])
def e0 (f_0 : Option Addr) (i_1 : Int) (R : Ending → Mem → Prop) (m : Mem) : Prop :=
  Br (decide (i_1 < 0)) (
    R (.returned (.tuple #[.int .u8 0, .int .i64 1])) m) (
    HC P file_File_Len.id #[.pointer f_0] m (Cont (fun v m1 =>
        UnI v .i64 fun x13 =>
        Br (decide (i_1 ≥ x13)) (
          R (.returned (.tuple #[.int .u8 0, .int .i64 1])) m1) (
          HC P file_File_Bytes.id #[.pointer f_0, .int .i64 i_1, .int .i64 (IntKind.i64.wrap (i_1 + 1))] m1 (Cont (fun v m2 =>
              UnTup v fun us0 =>
              UnCons us0 fun w us1 =>
              UnS w fun x21_0a x21_0l x21_0c =>
              UnCons us1 fun w us2 =>
              UnI w .i64 fun x21_1 =>
              UnNil us2 (
                Br (x21_1 != 0) (
                  R (.returned (.tuple #[.int .u8 0, .int .i64 x21_1])) m2) (
                  IxS x21_0a x21_0l 0 1 fun x28b x28o =>
                  LdV m2 x28b x28o fun v =>
                  UnI v .u8 fun x29 =>
                  R (.returned (.tuple #[.int .u8 x29, .int .i64 0])) m2))) (panicR R)))) (panicR R)))
noncomputable def e0A (R : Ending → Mem → Prop) : ACode := (.code (body))
theorem e0_eq (f_0 : Option Addr) (i_1 : Int) (R : Ending → Mem → Prop) (m : Mem) : e0 f_0 i_1 R m = acpt P od (panicR R) (e0A R) (bodyQ P fn R) (argE (#[.pointer f_0, .int .i64 i_1] : Array Value).toList) m := by kernel_rfl
theorem ok (f_0 : Option Addr) (i_1 : Int) (R : Ending → Mem → Prop) (m : Mem) (h : e0 f_0 i_1 R m) : HC P id #[.pointer f_0, .int .i64 i_1] m R := by
  refine HC_of (fn := fn) (c := body) (od := od) (tb := tb) Go.Proofs.Try.func12 (by kernel_rfl) (by kernel_rfl) follows (by kernel_rfl) (of_decide_eq_true (by kernel_rfl)) ?_
  have he : (e0A R).erase = body := by kernel_rfl
  rw [← he]
  refine acpt_sound (P := P) (e0A R) _ _ _ True.intro ?_
  exact Eq.mp (e0_eq f_0 i_1 R m) h
end file_File_At

/-! ### (*eyot/file.File).Kept -/
namespace file_File_Kept
noncomputable def fn : Func := Go.Proofs.Try.f13
noncomputable def body : Code := fn.body.getD .skip
def od : Nat → Ord := fun _ => .done
def tb : Nat → Tab := fun _ => (0, [], [])
def e0 (f_0 : Option Addr) (R : Ending → Mem → Prop) (m : Mem) : Prop :=
  Br f_0.isNone (
    R (.returned (.int .i64 0)) m) (
    NilC f_0 (fun x6b x6o =>
      LdV m x6b (x6o + 1) fun v =>
      UnP v fun x8 =>
      HC P lru_Cache_s_byte_Keys.id #[.pointer x8] m (Cont (fun v m1 =>
          UnS v fun x9a x9l x9c =>
          R (.returned (.int .i64 ((x9l : Nat) : Int))) m1) (panicR R))) (R (.panicked (nilPanic P)) m))
noncomputable def e0A (R : Ending → Mem → Prop) : ACode := (.code (body))
theorem e0_eq (f_0 : Option Addr) (R : Ending → Mem → Prop) (m : Mem) : e0 f_0 R m = acpt P od (panicR R) (e0A R) (bodyQ P fn R) (argE (#[.pointer f_0] : Array Value).toList) m := by kernel_rfl
theorem ok (f_0 : Option Addr) (R : Ending → Mem → Prop) (m : Mem) (h : e0 f_0 R m) : HC P id #[.pointer f_0] m R := by
  refine HC_of (fn := fn) (c := body) (od := od) (tb := tb) Go.Proofs.Try.func13 (by kernel_rfl) (by kernel_rfl) follows (by kernel_rfl) (of_decide_eq_true (by kernel_rfl)) ?_
  have he : (e0A R).erase = body := by kernel_rfl
  rw [← he]
  refine acpt_sound (P := P) (e0A R) _ _ _ True.intro ?_
  exact Eq.mp (e0_eq f_0 R m) h
end file_File_Kept

/-! ### (*eyot/file.File).Evict -/
namespace file_File_Evict
noncomputable def fn : Func := Go.Proofs.Try.f14
noncomputable def body : Code := fn.body.getD .skip
def od : Nat → Ord := fun _ => .done
def tb : Nat → Tab := fun _ => (0, [], [])
def e0 (f_0 : Option Addr) (R : Ending → Mem → Prop) (m : Mem) : Prop :=
  Br (!f_0.isNone) (
    NilC f_0 (fun x5b x5o =>
      LdV m x5b (x5o + 1) fun v =>
      UnP v fun x7 =>
      HC P lru_Cache_s_byte_Clear.id #[.pointer x7] m (Cont (fun v m1 =>
          UnTup v fun us0 =>
          UnNil us0 (
            R (.returned (.tuple #[])) m1)) (panicR R))) (R (.panicked (nilPanic P)) m)) (
    R (.returned (.tuple #[])) m)
noncomputable def e0A (R : Ending → Mem → Prop) : ACode := (.code (body))
theorem e0_eq (f_0 : Option Addr) (R : Ending → Mem → Prop) (m : Mem) : e0 f_0 R m = acpt P od (panicR R) (e0A R) (bodyQ P fn R) (argE (#[.pointer f_0] : Array Value).toList) m := by kernel_rfl
theorem ok (f_0 : Option Addr) (R : Ending → Mem → Prop) (m : Mem) (h : e0 f_0 R m) : HC P id #[.pointer f_0] m R := by
  refine HC_of (fn := fn) (c := body) (od := od) (tb := tb) Go.Proofs.Try.func14 (by kernel_rfl) (by kernel_rfl) follows (by kernel_rfl) (of_decide_eq_true (by kernel_rfl)) ?_
  have he : (e0A R).erase = body := by kernel_rfl
  rw [← he]
  refine acpt_sound (P := P) (e0A R) _ _ _ True.intro ?_
  exact Eq.mp (e0_eq f_0 R m) h
end file_File_Evict

/-! ### (*eyot/file.File).Len -/
namespace file_File_Len
noncomputable def fn : Func := Go.Proofs.Try.f15
noncomputable def body : Code := fn.body.getD .skip
def od : Nat → Ord := fun _ => .done
def tb : Nat → Tab := fun _ => (0, [], [])
def e0 (f_0 : Option Addr) (R : Ending → Mem → Prop) (m : Mem) : Prop :=
  Br f_0.isNone (
    R (.returned (.int .i64 0)) m) (
    NilC f_0 (fun x6b x6o =>
      LdV m x6b x6o fun v =>
      UnP v fun x8 =>
      HC P page_Pages_Len.id #[.pointer x8] m (Cont (fun v m1 =>
          UnI v .i64 fun x9 =>
          R (.returned (.int .i64 x9)) m1) (panicR R))) (R (.panicked (nilPanic P)) m))
noncomputable def e0A (R : Ending → Mem → Prop) : ACode := (.code (body))
theorem e0_eq (f_0 : Option Addr) (R : Ending → Mem → Prop) (m : Mem) : e0 f_0 R m = acpt P od (panicR R) (e0A R) (bodyQ P fn R) (argE (#[.pointer f_0] : Array Value).toList) m := by kernel_rfl
theorem ok (f_0 : Option Addr) (R : Ending → Mem → Prop) (m : Mem) (h : e0 f_0 R m) : HC P id #[.pointer f_0] m R := by
  refine HC_of (fn := fn) (c := body) (od := od) (tb := tb) Go.Proofs.Try.func15 (by kernel_rfl) (by kernel_rfl) follows (by kernel_rfl) (of_decide_eq_true (by kernel_rfl)) ?_
  have he : (e0A R).erase = body := by kernel_rfl
  rw [← he]
  refine acpt_sound (P := P) (e0A R) _ _ _ True.intro ?_
  exact Eq.mp (e0_eq f_0 R m) h
end file_File_Len

/-! ### (*eyot/page.Pages).Clear -/
namespace page_Pages_Clear
noncomputable def fn : Func := Go.Proofs.Try.f16
noncomputable def body : Code := fn.body.getD .skip
def od : Nat → Ord := fun _ => .done
def tb : Nat → Tab := fun _ => (0, [], [])
def e0 (p_0 : Option Addr) (R : Ending → Mem → Prop) (m : Mem) : Prop :=
  Br (!p_0.isNone) (
    NilC p_0 (fun x5b x5o =>
      St1 m x5b (x5o + 3) (.slice none 0 0) fun m1 =>
      R (.returned (.tuple #[])) m1) (R (.panicked (nilPanic P)) m)) (
    R (.returned (.tuple #[])) m)
noncomputable def e0A (R : Ending → Mem → Prop) : ACode := (.code (body))
theorem e0_eq (p_0 : Option Addr) (R : Ending → Mem → Prop) (m : Mem) : e0 p_0 R m = acpt P od (panicR R) (e0A R) (bodyQ P fn R) (argE (#[.pointer p_0] : Array Value).toList) m := by kernel_rfl
theorem ok (p_0 : Option Addr) (R : Ending → Mem → Prop) (m : Mem) (h : e0 p_0 R m) : HC P id #[.pointer p_0] m R := by
  refine HC_of (fn := fn) (c := body) (od := od) (tb := tb) Go.Proofs.Try.func16 (by kernel_rfl) (by kernel_rfl) follows (by kernel_rfl) (of_decide_eq_true (by kernel_rfl)) ?_
  have he : (e0A R).erase = body := by kernel_rfl
  rw [← he]
  refine acpt_sound (P := P) (e0A R) _ _ _ True.intro ?_
  exact Eq.mp (e0_eq p_0 R m) h
end page_Pages_Clear

/-! ### (*eyot/page.Pages).Fault -/
namespace page_Pages_Fault
noncomputable def fn : Func := Go.Proofs.Try.f17
noncomputable def body : Code := fn.body.getD .skip
def od : Nat → Ord := fun _ => .done
def tb : Nat → Tab := fun _ => (0, [], [])
def l1E (K : Option Addr → Option Addr → Nat → Nat → Int → Int → Mem → Prop) : Env → Mem → Prop := fun ρ m => UnP (ρ 0) fun p_0 => UnS (ρ 12) fun x12a x12l x12c => UnI (ρ 13) .i64 fun x13 => UnI (ρ 14) .i64 fun x14 => K p_0 x12a x12l x12c x13 x14 m
def l1B  (K1 : Option Addr → Option Addr → Nat → Nat → Int → Int → Mem → Prop) (p_0 : Option Addr) (x12a : Option Addr) (x12l : Nat) (x12c : Nat) (x13 : Int) (x14 : Int) (R : Ending → Mem → Prop) (m : Mem) : Prop :=
  Br (decide (x14 < x13)) (
    IxS x12a x12l x14 1 fun x16b x16o =>
    LdV m x16b x16o fun v =>
    UnI v .i64 fun x17 =>
    NilC p_0 (fun x19b x19o =>
      LdV m x19b (x19o + 2) fun v =>
      UnM v fun x21 =>
      MapUpN P m T_map_int_bool (.map x21) (.int .i64 x17) (.bool true) (fun m1 =>
        K1 p_0 x12a x12l x12c x13 (IntKind.i64.wrap (x14 + 1)) m1) (panicR R)) (R (.panicked (nilPanic P)) m)) (
    R (.returned (.tuple #[])) m)
def l1  (p_0 : Option Addr) (x12a : Option Addr) (x12l : Nat) (x12c : Nat) (x13 : Int) (x14 : Int) (R : Ending → Mem → Prop) (m : Mem) : Prop :=
  ∃ (I : Nat → Option Addr → Option Addr → Nat → Nat → Int → Int → Mem → Prop) (N : Nat), I N p_0 x12a x12l x12c x13 x14 m ∧ ∀ N p_0 x12a x12l x12c x13 x14 m, I N p_0 x12a x12l x12c x13 x14 m → l1B  (fun p_0 x12a x12l x12c x13 x14 m => ∃ N1, N1 < N ∧ I N1 p_0 x12a x12l x12c x13 x14 m) p_0 x12a x12l x12c x13 x14 R m
noncomputable def l1A  (K1 : Option Addr → Option Addr → Nat → Nat → Int → Int → Mem → Prop) (R : Ending → Mem → Prop) : ACode := (.code (lP (bB (sR (sR (sR (body)))))))
def e0 (p_0 : Option Addr) (l_1a : Option Addr) (l_1l : Nat) (l_1c : Nat) (R : Ending → Mem → Prop) (m : Mem) : Prop :=
  Br p_0.isNone (
    R (.returned (.tuple #[])) m) (
    NewM m fun b9 m1 =>
    NilC p_0 (fun x10b x10o =>
      St1 m1 x10b (x10o + 2) (.map (some b9)) fun m2 =>
      l1  p_0 l_1a l_1l l_1c ((l_1l : Nat) : Int) 0 R m2) (R (.panicked (nilPanic P)) m1))
noncomputable def e0A (R : Ending → Mem → Prop) : ACode := (.seq (.code (sL (body))) (.seq (.code (sL (sR (body)))) (.seq (.code (sL (sR (sR (body))))) (.block 0 (.cut (l1E fun p_0 x12a x12l x12c x13 x14 m => l1  p_0 x12a x12l x12c x13 x14 R m) (.loop (lP (bB (sR (sR (sR (body))))))))))))
theorem l1_eq  (K1 : Option Addr → Option Addr → Nat → Nat → Int → Int → Mem → Prop) (R : Ending → Mem → Prop) (p_0 : Option Addr) (x12a : Option Addr) (x12l : Nat) (x12c : Nat) (x13 : Int) (x14 : Int) (ρ : Env) (m : Mem) : l1B  K1 p_0 x12a x12l x12c x13 x14 R m = acpt P od (panicR R) (l1A  K1 R) (thenQ (l1E K1) (blockQ 0 (bodyQ P fn R))) (upd (upd (upd (upd ρ 14 (.int .i64 x14)) 13 (.int .i64 x13)) 12 (.slice x12a x12l x12c)) 0 (.pointer p_0)) m := by kernel_rfl
theorem l1_er  (K1 : Option Addr → Option Addr → Nat → Nat → Int → Int → Mem → Prop) (R : Ending → Mem → Prop) : (l1A  K1 R).erase = lP (bB (sR (sR (sR (body))))) := by kernel_rfl
theorem l1_ok  (R : Ending → Mem → Prop) (ρ : Env) (m : Mem) (h : (l1E fun p_0 x12a x12l x12c x13 x14 m => l1  p_0 x12a x12l x12c x13 x14 R m) ρ m) : cpt P od (panicR R) (.loop (lP (bB (sR (sR (sR (body))))))) (blockQ 0 (bodyQ P fn R)) ρ m := by
  unfold l1E at h
  obtain ⟨p_0, e0, h⟩ := h.ex
  obtain ⟨x12a, x12l, x12c, e12, h⟩ := h.ex
  obtain ⟨x13, e13, h⟩ := h.ex
  obtain ⟨x14, e14, h⟩ := h.ex
  obtain ⟨I, N, h0, hs⟩ := h
  refine ⟨fun N => l1E (I N), N, (by show l1E (I N) ρ m; unfold l1E; rw [e0, e12, e13, e14]; exact h0), ?_⟩
  clear h0 e0 e12 e13 e14
  intro N ρ m h
  unfold l1E at h
  obtain ⟨p_0, e0, h⟩ := h.ex
  obtain ⟨x12a, x12l, x12c, e12, h⟩ := h.ex
  obtain ⟨x13, e13, h⟩ := h.ex
  obtain ⟨x14, e14, h⟩ := h.ex
  refine cpt_mono (P := P) (lP (bB (sR (sR (sR (body)))))) (Q := thenQ (l1E fun p_0 x12a x12l x12c x13 x14 m => ∃ N1, N1 < N ∧ I N1 p_0 x12a x12l x12c x13 x14 m) (blockQ 0 (bodyQ P fn R))) (fun e ρ m h => ?_) ρ m ?_
  · cases e with
    | normal =>
      have h : l1E (fun p_0 x12a x12l x12c x13 x14 m => ∃ N1, N1 < N ∧ I N1 p_0 x12a x12l x12c x13 x14 m) ρ m := h
      unfold l1E at h
      obtain ⟨p_0, e0, h⟩ := h.ex
      obtain ⟨x12a, x12l, x12c, e12, h⟩ := h.ex
      obtain ⟨x13, e13, h⟩ := h.ex
      obtain ⟨x14, e14, h⟩ := h.ex
      obtain ⟨N1, hlt, h⟩ := h
      exact ⟨N1, hlt, (by show l1E (I N1) ρ m; unfold l1E; rw [e0, e12, e13, e14]; exact h)⟩
    | _ => exact h
  have hh := hs N p_0 x12a x12l x12c x13 x14 m h
  generalize (fun p_0 x12a x12l x12c x13 x14 m => ∃ N1, N1 < N ∧ I N1 p_0 x12a x12l x12c x13 x14 m : Option Addr → Option Addr → Nat → Nat → Int → Int → Mem → Prop) = K1 at hh ⊢
  rw [← upd_self e0, ← upd_self e12, ← upd_self e13, ← upd_self e14]
  rw [← l1_er  K1 R]
  refine acpt_sound (P := P) (l1A  K1 R) _ _ _ True.intro ?_
  exact Eq.mp (l1_eq  K1 R p_0 x12a x12l x12c x13 x14 ρ m) hh
theorem e0_eq (p_0 : Option Addr) (l_1a : Option Addr) (l_1l : Nat) (l_1c : Nat) (R : Ending → Mem → Prop) (m : Mem) : e0 p_0 l_1a l_1l l_1c R m = acpt P od (panicR R) (e0A R) (bodyQ P fn R) (argE (#[.pointer p_0, .slice l_1a l_1l l_1c] : Array Value).toList) m := by kernel_rfl
theorem ok (p_0 : Option Addr) (l_1a : Option Addr) (l_1l : Nat) (l_1c : Nat) (R : Ending → Mem → Prop) (m : Mem) (h : e0 p_0 l_1a l_1l l_1c R m) : HC P id #[.pointer p_0, .slice l_1a l_1l l_1c] m R := by
  refine HC_of (fn := fn) (c := body) (od := od) (tb := tb) Go.Proofs.Try.func17 (by kernel_rfl) (by kernel_rfl) follows (by kernel_rfl) (of_decide_eq_true (by kernel_rfl)) ?_
  have he : (e0A R).erase = body := by kernel_rfl
  rw [← he]
  refine acpt_sound (P := P) (e0A R) _ _ _ ⟨⟨⟨(fun ρ m h => l1_ok  R ρ m h), True.intro⟩, True.intro⟩, True.intro⟩ ?_
  exact Eq.mp (e0_eq p_0 l_1a l_1l l_1c R m) h
end page_Pages_Fault

/-! ### eyot/eyotlaw5.walk -/
namespace eyotlaw5_walk
noncomputable def fn : Func := Go.Proofs.Try.f18
noncomputable def body : Code := fn.body.getD .skip
def od : Nat → Ord := fun _ => .done
def tb : Nat → Tab := fun _ => (0, [], [])
def l1E (K : Option Addr → Int → Int → Int → Int → Option Addr → Nat → Nat → Int → Mem → Prop) : Env → Mem → Prop := fun ρ m => UnP (ρ 0) fun c_0 => UnI (ρ 1) .i64 fun a_1 => UnI (ρ 2) .i64 fun b_2 => UnI (ρ 3) .i64 fun size_3 => UnI (ρ 4) .i64 fun bad_4 => UnS (ρ 12) fun reads_12a reads_12l reads_12c => UnI (ρ 13) .i64 fun i_13 => K c_0 a_1 b_2 size_3 bad_4 reads_12a reads_12l reads_12c i_13 m
def l1B  (K1 : Option Addr → Int → Int → Int → Int → Option Addr → Nat → Nat → Int → Mem → Prop) (c_0 : Option Addr) (a_1 : Int) (b_2 : Int) (size_3 : Int) (bad_4 : Int) (reads_12a : Option Addr) (reads_12l : Nat) (reads_12c : Nat) (i_13 : Int) (R : Ending → Mem → Prop) (m : Mem) : Prop :=
  Br (decide (a_1 < b_2)) (
    Br (decide ((IntKind.i64.wrap (i_13 * size_3)) < b_2)) (
      HC P eyotref3_Cache_Get.id #[.pointer c_0, .int .i64 i_13] m (Cont (fun v m1 =>
          UnTup v fun us0 =>
          UnCons us0 fun w us1 =>
          UnI w .i64 fun x34_0 =>
          UnCons us1 fun w us2 =>
          UnB w fun x34_1 =>
          UnNil us2 (
            Br x34_1 (
              K1 c_0 a_1 b_2 size_3 bad_4 reads_12a reads_12l reads_12c (IntKind.i64.wrap (i_13 + 1)) m1) (
              NewC m1 #[.int .i64 i_13] T_int fun b40 m2 =>
              BiN P .append #[T_sl_int, T_sl_int] T_sl_int #[false, false] #[.slice reads_12a reads_12l reads_12c, .slice (some ⟨b40, 0, none⟩) 1 1] m2 (fun w m3 =>
                UnS w fun x41a x41l x41c =>
                Br (i_13 == bad_4) (
                  R (.returned (.tuple #[.slice x41a x41l x41c, .int .i64 11])) m3) (
                  HC P eyotref3_Cache_Put.id #[.pointer c_0, .int .i64 i_13, .int .i64 0] m3 (Cont (fun v m4 =>
                      UnTup v fun us0 =>
                      UnCons us0 fun w us1 =>
                      UnI w .i64 fun x48_0 =>
                      UnCons us1 fun w us2 =>
                      UnB w fun x48_1 =>
                      UnNil us2 (
                        K1 c_0 a_1 b_2 size_3 bad_4 x41a x41l x41c (IntKind.i64.wrap (i_13 + 1)) m4)) (panicR R)))) (panicR R)))) (panicR R))) (
      R (.returned (.tuple #[.slice reads_12a reads_12l reads_12c, .int .i64 0])) m)) (
    R (.returned (.tuple #[.slice reads_12a reads_12l reads_12c, .int .i64 0])) m)
def l1  (c_0 : Option Addr) (a_1 : Int) (b_2 : Int) (size_3 : Int) (bad_4 : Int) (reads_12a : Option Addr) (reads_12l : Nat) (reads_12c : Nat) (i_13 : Int) (R : Ending → Mem → Prop) (m : Mem) : Prop :=
  ∃ (I : Nat → Option Addr → Int → Int → Int → Int → Option Addr → Nat → Nat → Int → Mem → Prop) (N : Nat), I N c_0 a_1 b_2 size_3 bad_4 reads_12a reads_12l reads_12c i_13 m ∧ ∀ N c_0 a_1 b_2 size_3 bad_4 reads_12a reads_12l reads_12c i_13 m, I N c_0 a_1 b_2 size_3 bad_4 reads_12a reads_12l reads_12c i_13 m → l1B  (fun c_0 a_1 b_2 size_3 bad_4 reads_12a reads_12l reads_12c i_13 m => ∃ N1, N1 < N ∧ I N1 c_0 a_1 b_2 size_3 bad_4 reads_12a reads_12l reads_12c i_13 m) c_0 a_1 b_2 size_3 bad_4 reads_12a reads_12l reads_12c i_13 R m
noncomputable def l1A  (K1 : Option Addr → Int → Int → Int → Int → Option Addr → Nat → Nat → Int → Mem → Prop) (R : Ending → Mem → Prop) : ACode := (.code (lP (bB (sR (sL (sR (sR (body))))))))
def e0 (c_0 : Option Addr) (a_1 : Int) (b_2 : Int) (size_3 : Int) (bad_4 : Int) (R : Ending → Mem → Prop) (m : Mem) : Prop :=
  NzI size_3 (
    l1  c_0 a_1 b_2 size_3 bad_4 none 0 0 (IntKind.i64.wrap (Int.tdiv a_1 size_3)) R m)
noncomputable def e0A (R : Ending → Mem → Prop) : ACode := (.seq (.code (sL (body))) (.seq (.code (sL (sR (body)))) (.seq (.seq (.code (sL (sL (sR (sR (body)))))) (.block 0 (.cut (l1E fun c_0 a_1 b_2 size_3 bad_4 reads_12a reads_12l reads_12c i_13 m => l1  c_0 a_1 b_2 size_3 bad_4 reads_12a reads_12l reads_12c i_13 R m) (.loop (lP (bB (sR (sL (sR (sR (body))))))))))) (.code (sR (sR (sR (body))))))))
theorem l1_eq  (K1 : Option Addr → Int → Int → Int → Int → Option Addr → Nat → Nat → Int → Mem → Prop) (R : Ending → Mem → Prop) (c_0 : Option Addr) (a_1 : Int) (b_2 : Int) (size_3 : Int) (bad_4 : Int) (reads_12a : Option Addr) (reads_12l : Nat) (reads_12c : Nat) (i_13 : Int) (ρ : Env) (m : Mem) : l1B  K1 c_0 a_1 b_2 size_3 bad_4 reads_12a reads_12l reads_12c i_13 R m = acpt P od (panicR R) (l1A  K1 R) (thenQ (l1E K1) (blockQ 0 (thenQ (acpt P od (panicR R) (.code (sR (sR (sR (body))))) (bodyQ P fn R)) (bodyQ P fn R)))) (upd (upd (upd (upd (upd (upd (upd ρ 13 (.int .i64 i_13)) 12 (.slice reads_12a reads_12l reads_12c)) 4 (.int .i64 bad_4)) 3 (.int .i64 size_3)) 2 (.int .i64 b_2)) 1 (.int .i64 a_1)) 0 (.pointer c_0)) m := by kernel_rfl
theorem l1_er  (K1 : Option Addr → Int → Int → Int → Int → Option Addr → Nat → Nat → Int → Mem → Prop) (R : Ending → Mem → Prop) : (l1A  K1 R).erase = lP (bB (sR (sL (sR (sR (body)))))) := by kernel_rfl
theorem l1_ok  (R : Ending → Mem → Prop) (ρ : Env) (m : Mem) (h : (l1E fun c_0 a_1 b_2 size_3 bad_4 reads_12a reads_12l reads_12c i_13 m => l1  c_0 a_1 b_2 size_3 bad_4 reads_12a reads_12l reads_12c i_13 R m) ρ m) : cpt P od (panicR R) (.loop (lP (bB (sR (sL (sR (sR (body)))))))) (blockQ 0 (thenQ (acpt P od (panicR R) (.code (sR (sR (sR (body))))) (bodyQ P fn R)) (bodyQ P fn R))) ρ m := by
  unfold l1E at h
  obtain ⟨c_0, e0, h⟩ := h.ex
  obtain ⟨a_1, e1, h⟩ := h.ex
  obtain ⟨b_2, e2, h⟩ := h.ex
  obtain ⟨size_3, e3, h⟩ := h.ex
  obtain ⟨bad_4, e4, h⟩ := h.ex
  obtain ⟨reads_12a, reads_12l, reads_12c, e12, h⟩ := h.ex
  obtain ⟨i_13, e13, h⟩ := h.ex
  obtain ⟨I, N, h0, hs⟩ := h
  refine ⟨fun N => l1E (I N), N, (by show l1E (I N) ρ m; unfold l1E; rw [e0, e1, e2, e3, e4, e12, e13]; exact h0), ?_⟩
  clear h0 e0 e1 e2 e3 e4 e12 e13
  intro N ρ m h
  unfold l1E at h
  obtain ⟨c_0, e0, h⟩ := h.ex
  obtain ⟨a_1, e1, h⟩ := h.ex
  obtain ⟨b_2, e2, h⟩ := h.ex
  obtain ⟨size_3, e3, h⟩ := h.ex
  obtain ⟨bad_4, e4, h⟩ := h.ex
  obtain ⟨reads_12a, reads_12l, reads_12c, e12, h⟩ := h.ex
  obtain ⟨i_13, e13, h⟩ := h.ex
  refine cpt_mono (P := P) (lP (bB (sR (sL (sR (sR (body))))))) (Q := thenQ (l1E fun c_0 a_1 b_2 size_3 bad_4 reads_12a reads_12l reads_12c i_13 m => ∃ N1, N1 < N ∧ I N1 c_0 a_1 b_2 size_3 bad_4 reads_12a reads_12l reads_12c i_13 m) (blockQ 0 (thenQ (acpt P od (panicR R) (.code (sR (sR (sR (body))))) (bodyQ P fn R)) (bodyQ P fn R)))) (fun e ρ m h => ?_) ρ m ?_
  · cases e with
    | normal =>
      have h : l1E (fun c_0 a_1 b_2 size_3 bad_4 reads_12a reads_12l reads_12c i_13 m => ∃ N1, N1 < N ∧ I N1 c_0 a_1 b_2 size_3 bad_4 reads_12a reads_12l reads_12c i_13 m) ρ m := h
      unfold l1E at h
      obtain ⟨c_0, e0, h⟩ := h.ex
      obtain ⟨a_1, e1, h⟩ := h.ex
      obtain ⟨b_2, e2, h⟩ := h.ex
      obtain ⟨size_3, e3, h⟩ := h.ex
      obtain ⟨bad_4, e4, h⟩ := h.ex
      obtain ⟨reads_12a, reads_12l, reads_12c, e12, h⟩ := h.ex
      obtain ⟨i_13, e13, h⟩ := h.ex
      obtain ⟨N1, hlt, h⟩ := h
      exact ⟨N1, hlt, (by show l1E (I N1) ρ m; unfold l1E; rw [e0, e1, e2, e3, e4, e12, e13]; exact h)⟩
    | _ => exact h
  have hh := hs N c_0 a_1 b_2 size_3 bad_4 reads_12a reads_12l reads_12c i_13 m h
  generalize (fun c_0 a_1 b_2 size_3 bad_4 reads_12a reads_12l reads_12c i_13 m => ∃ N1, N1 < N ∧ I N1 c_0 a_1 b_2 size_3 bad_4 reads_12a reads_12l reads_12c i_13 m : Option Addr → Int → Int → Int → Int → Option Addr → Nat → Nat → Int → Mem → Prop) = K1 at hh ⊢
  rw [← upd_self e0, ← upd_self e1, ← upd_self e2, ← upd_self e3, ← upd_self e4, ← upd_self e12, ← upd_self e13]
  rw [← l1_er  K1 R]
  refine acpt_sound (P := P) (l1A  K1 R) _ _ _ True.intro ?_
  exact Eq.mp (l1_eq  K1 R c_0 a_1 b_2 size_3 bad_4 reads_12a reads_12l reads_12c i_13 ρ m) hh
theorem e0_eq (c_0 : Option Addr) (a_1 : Int) (b_2 : Int) (size_3 : Int) (bad_4 : Int) (R : Ending → Mem → Prop) (m : Mem) : e0 c_0 a_1 b_2 size_3 bad_4 R m = acpt P od (panicR R) (e0A R) (bodyQ P fn R) (argE (#[.pointer c_0, .int .i64 a_1, .int .i64 b_2, .int .i64 size_3, .int .i64 bad_4] : Array Value).toList) m := by kernel_rfl
theorem ok (c_0 : Option Addr) (a_1 : Int) (b_2 : Int) (size_3 : Int) (bad_4 : Int) (R : Ending → Mem → Prop) (m : Mem) (h : e0 c_0 a_1 b_2 size_3 bad_4 R m) : HC P id #[.pointer c_0, .int .i64 a_1, .int .i64 b_2, .int .i64 size_3, .int .i64 bad_4] m R := by
  refine HC_of (fn := fn) (c := body) (od := od) (tb := tb) Go.Proofs.Try.func18 (by kernel_rfl) (by kernel_rfl) follows (by kernel_rfl) (of_decide_eq_true (by kernel_rfl)) ?_
  have he : (e0A R).erase = body := by kernel_rfl
  rw [← he]
  refine acpt_sound (P := P) (e0A R) _ _ _ ⟨⟨⟨True.intro, ⟨(fun ρ m h => l1_ok  R ρ m h), True.intro⟩⟩, True.intro⟩, True.intro⟩ ?_
  exact Eq.mp (e0_eq c_0 a_1 b_2 size_3 bad_4 R m) h
end eyotlaw5_walk

/-! ### eyot/eyotref13.SameInts -/
namespace eyotref13_SameInts
noncomputable def fn : Func := Go.Proofs.Try.f19
noncomputable def body : Code := fn.body.getD .skip
def od : Nat → Ord := fun | 6 => ordL [(0, 3), (1, 3), (2, 3), (3, 1), (4, 3), (5, 3), (6, 3), (7, 0), (8, 3)] .done | _ => .done
def tb : Nat → Tab := fun | 6 => (0, [0, 0, 3, 7, 0, 0, 48, 112, 255], [(0, 1, 18), (0, 32, 19), (3, 393216, 20), (4, 524288, 21), (0, 2, 22), (0, 32, 23), (48, 6291456, 24), (64, 8388608, 25), (136, 17825792, 26)]) | _ => (0, [], [])
def l1E (K : Option Addr → Nat → Nat → Option Addr → Nat → Nat → Int → Mem → Prop) : Env → Mem → Prop := fun ρ m => UnS (ρ 0) fun a_0a a_0l a_0c => UnS (ρ 1) fun b_1a b_1l b_1c => UnI (ρ 5) .i64 fun i_5 => K a_0a a_0l a_0c b_1a b_1l b_1c i_5 m
def l1B  (K1 : Option Addr → Nat → Nat → Option Addr → Nat → Nat → Int → Mem → Prop) (a_0a : Option Addr) (a_0l : Nat) (a_0c : Nat) (b_1a : Option Addr) (b_1l : Nat) (b_1c : Nat) (i_5 : Int) (R : Ending → Mem → Prop) (m : Mem) : Prop :=
  Br (decide (i_5 < ((a_0l : Nat) : Int))) (
    Sub m fun r1 =>
    IxS a_0a a_0l i_5 1 fun x19b x19o =>
    LdV r1 x19b x19o fun v =>
    UnI v .i64 fun x20 =>
    IxS b_1a b_1l i_5 1 fun x23b x23o =>
    LdV m x23b x23o fun v =>
    UnI v .i64 fun x24 =>
    Br (x20 != x24) (
      R (.returned (.bool false)) m) (
      K1 a_0a a_0l a_0c b_1a b_1l b_1c (IntKind.i64.wrap (i_5 + 1)) m)) (
    R (.returned (.bool true)) m)
def l1  (a_0a : Option Addr) (a_0l : Nat) (a_0c : Nat) (b_1a : Option Addr) (b_1l : Nat) (b_1c : Nat) (i_5 : Int) (R : Ending → Mem → Prop) (m : Mem) : Prop :=
  ∃ (I : Nat → Option Addr → Nat → Nat → Option Addr → Nat → Nat → Int → Mem → Prop) (N : Nat), I N a_0a a_0l a_0c b_1a b_1l b_1c i_5 m ∧ ∀ N a_0a a_0l a_0c b_1a b_1l b_1c i_5 m, I N a_0a a_0l a_0c b_1a b_1l b_1c i_5 m → l1B  (fun a_0a a_0l a_0c b_1a b_1l b_1c i_5 m => ∃ N1, N1 < N ∧ I N1 a_0a a_0l a_0c b_1a b_1l b_1c i_5 m) a_0a a_0l a_0c b_1a b_1l b_1c i_5 R m
noncomputable def l1A  (K1 : Option Addr → Nat → Nat → Option Addr → Nat → Nat → Int → Mem → Prop) (R : Ending → Mem → Prop) : ACode := (.code (lP (bB (sR (sL (sR (sR (body))))))))
def e0 (a_0a : Option Addr) (a_0l : Nat) (a_0c : Nat) (b_1a : Option Addr) (b_1l : Nat) (b_1c : Nat) (R : Ending → Mem → Prop) (m : Mem) : Prop :=
  Br (((a_0l : Nat) : Int) != ((b_1l : Nat) : Int)) (
    R (.returned (.bool false)) m) (
    l1  a_0a a_0l a_0c b_1a b_1l b_1c 0 R m)
noncomputable def e0A (R : Ending → Mem → Prop) : ACode := (.seq (.code (sL (body))) (.seq (.code (sL (sR (body)))) (.seq (.seq (.code (sL (sL (sR (sR (body)))))) (.block 0 (.cut (l1E fun a_0a a_0l a_0c b_1a b_1l b_1c i_5 m => l1  a_0a a_0l a_0c b_1a b_1l b_1c i_5 R m) (.loop (lP (bB (sR (sL (sR (sR (body))))))))))) (.code (sR (sR (sR (body))))))))
theorem l1_eq  (K1 : Option Addr → Nat → Nat → Option Addr → Nat → Nat → Int → Mem → Prop) (R : Ending → Mem → Prop) (a_0a : Option Addr) (a_0l : Nat) (a_0c : Nat) (b_1a : Option Addr) (b_1l : Nat) (b_1c : Nat) (i_5 : Int) (ρ : Env) (m : Mem) : l1B  K1 a_0a a_0l a_0c b_1a b_1l b_1c i_5 R m = acpt P od (panicR R) (l1A  K1 R) (thenQ (l1E K1) (blockQ 0 (thenQ (acpt P od (panicR R) (.code (sR (sR (sR (body))))) (bodyQ P fn R)) (bodyQ P fn R)))) (upd (upd (upd ρ 5 (.int .i64 i_5)) 1 (.slice b_1a b_1l b_1c)) 0 (.slice a_0a a_0l a_0c)) m := by kernel_rfl
theorem l1_er  (K1 : Option Addr → Nat → Nat → Option Addr → Nat → Nat → Int → Mem → Prop) (R : Ending → Mem → Prop) : (l1A  K1 R).erase = lP (bB (sR (sL (sR (sR (body)))))) := by kernel_rfl
theorem l1_ok  (R : Ending → Mem → Prop) (ρ : Env) (m : Mem) (h : (l1E fun a_0a a_0l a_0c b_1a b_1l b_1c i_5 m => l1  a_0a a_0l a_0c b_1a b_1l b_1c i_5 R m) ρ m) : cpt P od (panicR R) (.loop (lP (bB (sR (sL (sR (sR (body)))))))) (blockQ 0 (thenQ (acpt P od (panicR R) (.code (sR (sR (sR (body))))) (bodyQ P fn R)) (bodyQ P fn R))) ρ m := by
  unfold l1E at h
  obtain ⟨a_0a, a_0l, a_0c, e0, h⟩ := h.ex
  obtain ⟨b_1a, b_1l, b_1c, e1, h⟩ := h.ex
  obtain ⟨i_5, e5, h⟩ := h.ex
  obtain ⟨I, N, h0, hs⟩ := h
  refine ⟨fun N => l1E (I N), N, (by show l1E (I N) ρ m; unfold l1E; rw [e0, e1, e5]; exact h0), ?_⟩
  clear h0 e0 e1 e5
  intro N ρ m h
  unfold l1E at h
  obtain ⟨a_0a, a_0l, a_0c, e0, h⟩ := h.ex
  obtain ⟨b_1a, b_1l, b_1c, e1, h⟩ := h.ex
  obtain ⟨i_5, e5, h⟩ := h.ex
  refine cpt_mono (P := P) (lP (bB (sR (sL (sR (sR (body))))))) (Q := thenQ (l1E fun a_0a a_0l a_0c b_1a b_1l b_1c i_5 m => ∃ N1, N1 < N ∧ I N1 a_0a a_0l a_0c b_1a b_1l b_1c i_5 m) (blockQ 0 (thenQ (acpt P od (panicR R) (.code (sR (sR (sR (body))))) (bodyQ P fn R)) (bodyQ P fn R)))) (fun e ρ m h => ?_) ρ m ?_
  · cases e with
    | normal =>
      have h : l1E (fun a_0a a_0l a_0c b_1a b_1l b_1c i_5 m => ∃ N1, N1 < N ∧ I N1 a_0a a_0l a_0c b_1a b_1l b_1c i_5 m) ρ m := h
      unfold l1E at h
      obtain ⟨a_0a, a_0l, a_0c, e0, h⟩ := h.ex
      obtain ⟨b_1a, b_1l, b_1c, e1, h⟩ := h.ex
      obtain ⟨i_5, e5, h⟩ := h.ex
      obtain ⟨N1, hlt, h⟩ := h
      exact ⟨N1, hlt, (by show l1E (I N1) ρ m; unfold l1E; rw [e0, e1, e5]; exact h)⟩
    | _ => exact h
  have hh := hs N a_0a a_0l a_0c b_1a b_1l b_1c i_5 m h
  generalize (fun a_0a a_0l a_0c b_1a b_1l b_1c i_5 m => ∃ N1, N1 < N ∧ I N1 a_0a a_0l a_0c b_1a b_1l b_1c i_5 m : Option Addr → Nat → Nat → Option Addr → Nat → Nat → Int → Mem → Prop) = K1 at hh ⊢
  rw [← upd_self e0, ← upd_self e1, ← upd_self e5]
  rw [← l1_er  K1 R]
  refine acpt_sound (P := P) (l1A  K1 R) _ _ _ True.intro ?_
  exact Eq.mp (l1_eq  K1 R a_0a a_0l a_0c b_1a b_1l b_1c i_5 ρ m) hh
theorem e0_eq (a_0a : Option Addr) (a_0l : Nat) (a_0c : Nat) (b_1a : Option Addr) (b_1l : Nat) (b_1c : Nat) (R : Ending → Mem → Prop) (m : Mem) : e0 a_0a a_0l a_0c b_1a b_1l b_1c R m = acpt P od (panicR R) (e0A R) (bodyQ P fn R) (argE (#[.slice a_0a a_0l a_0c, .slice b_1a b_1l b_1c] : Array Value).toList) m := by kernel_rfl
theorem ok (a_0a : Option Addr) (a_0l : Nat) (a_0c : Nat) (b_1a : Option Addr) (b_1l : Nat) (b_1c : Nat) (R : Ending → Mem → Prop) (m : Mem) (h : e0 a_0a a_0l a_0c b_1a b_1l b_1c R m) : HC P id #[.slice a_0a a_0l a_0c, .slice b_1a b_1l b_1c] m R := by
  refine HC_of (fn := fn) (c := body) (od := od) (tb := tb) Go.Proofs.Try.func19 (by kernel_rfl) (by kernel_rfl) follows (by kernel_rfl) (of_decide_eq_true (by kernel_rfl)) ?_
  have he : (e0A R).erase = body := by kernel_rfl
  rw [← he]
  refine acpt_sound (P := P) (e0A R) _ _ _ ⟨⟨⟨True.intro, ⟨(fun ρ m h => l1_ok  R ρ m h), True.intro⟩⟩, True.intro⟩, True.intro⟩ ?_
  exact Eq.mp (e0_eq a_0a a_0l a_0c b_1a b_1l b_1c R m) h
end eyotref13_SameInts

/-! ### (*eyot/page.Pages).Reads -/
namespace page_Pages_Reads
noncomputable def fn : Func := Go.Proofs.Try.f20
noncomputable def body : Code := fn.body.getD .skip
def od : Nat → Ord := fun _ => .done
def tb : Nat → Tab := fun _ => (0, [], [])
def e0 (p_0 : Option Addr) (R : Ending → Mem → Prop) (m : Mem) : Prop :=
  NewC m #[.pointer p_0] T_ptr_page_Pages fun b_p_1 m1 =>
  HC P page_safe_s_int.id #[.func (.func page_Pages_Reads_1.id) #[] #[.pointer (some ⟨b_p_1, 0, none⟩)]] m1 (Cont (fun v m2 =>
      UnS v fun x4a x4l x4c =>
      R (.returned (.slice x4a x4l x4c)) m2) (panicR R))
noncomputable def e0A (R : Ending → Mem → Prop) : ACode := (.code (body))
theorem e0_eq (p_0 : Option Addr) (R : Ending → Mem → Prop) (m : Mem) : e0 p_0 R m = acpt P od (panicR R) (e0A R) (bodyQ P fn R) (argE (#[.pointer p_0] : Array Value).toList) m := by kernel_rfl
theorem ok (p_0 : Option Addr) (R : Ending → Mem → Prop) (m : Mem) (h : e0 p_0 R m) : HC P id #[.pointer p_0] m R := by
  refine HC_of (fn := fn) (c := body) (od := od) (tb := tb) Go.Proofs.Try.func20 (by kernel_rfl) (by kernel_rfl) follows (by kernel_rfl) (of_decide_eq_true (by kernel_rfl)) ?_
  have he : (e0A R).erase = body := by kernel_rfl
  rw [← he]
  refine acpt_sound (P := P) (e0A R) _ _ _ True.intro ?_
  exact Eq.mp (e0_eq p_0 R m) h
end page_Pages_Reads

/-! ### (*eyot/page.Pages).Count -/
namespace page_Pages_Count
noncomputable def fn : Func := Go.Proofs.Try.f21
noncomputable def body : Code := fn.body.getD .skip
def od : Nat → Ord := fun _ => .done
def tb : Nat → Tab := fun _ => (0, [], [])
def e0 (p_0 : Option Addr) (R : Ending → Mem → Prop) (m : Mem) : Prop :=
  NewC m #[.pointer p_0] T_ptr_page_Pages fun b_p_1 m1 =>
  HC P page_safe_int.id #[.func (.func page_Pages_Count_1.id) #[] #[.pointer (some ⟨b_p_1, 0, none⟩)]] m1 (Cont (fun v m2 =>
      UnI v .i64 fun x4 =>
      R (.returned (.int .i64 x4)) m2) (panicR R))
noncomputable def e0A (R : Ending → Mem → Prop) : ACode := (.code (body))
theorem e0_eq (p_0 : Option Addr) (R : Ending → Mem → Prop) (m : Mem) : e0 p_0 R m = acpt P od (panicR R) (e0A R) (bodyQ P fn R) (argE (#[.pointer p_0] : Array Value).toList) m := by kernel_rfl
theorem ok (p_0 : Option Addr) (R : Ending → Mem → Prop) (m : Mem) (h : e0 p_0 R m) : HC P id #[.pointer p_0] m R := by
  refine HC_of (fn := fn) (c := body) (od := od) (tb := tb) Go.Proofs.Try.func21 (by kernel_rfl) (by kernel_rfl) follows (by kernel_rfl) (of_decide_eq_true (by kernel_rfl)) ?_
  have he : (e0A R).erase = body := by kernel_rfl
  rw [← he]
  refine acpt_sound (P := P) (e0A R) _ _ _ True.intro ?_
  exact Eq.mp (e0_eq p_0 R m) h
end page_Pages_Count

/-! ### slices.Clone[[]byte,byte] -/
namespace slices_Clone_s_byte_byte
noncomputable def fn : Func := Go.Proofs.Try.f22
noncomputable def body : Code := fn.body.getD .skip
def od : Nat → Ord := fun _ => .done
def tb : Nat → Tab := fun _ => (0, [], [])
def e0 (s_0a : Option Addr) (s_0l : Nat) (s_0c : Nat) (R : Ending → Mem → Prop) (m : Mem) : Prop :=
  Br s_0a.isNone (
    R (.returned (.slice none 0 0)) m) (
    NewC m #[] T_uint8 fun b5 m1 =>
    BiN P .append #[T_sl_uint8, T_sl_uint8] T_sl_uint8 #[false, false] #[.slice (some ⟨b5, 0, none⟩) 0 0, .slice s_0a s_0l s_0c] m1 (fun w m2 =>
      UnS w fun x7a x7l x7c =>
      R (.returned (.slice x7a x7l x7c)) m2) (panicR R))
noncomputable def e0A (R : Ending → Mem → Prop) : ACode := (.code (body))
theorem e0_eq (s_0a : Option Addr) (s_0l : Nat) (s_0c : Nat) (R : Ending → Mem → Prop) (m : Mem) : e0 s_0a s_0l s_0c R m = acpt P od (panicR R) (e0A R) (bodyQ P fn R) (argE (#[.slice s_0a s_0l s_0c] : Array Value).toList) m := by kernel_rfl
theorem ok (s_0a : Option Addr) (s_0l : Nat) (s_0c : Nat) (R : Ending → Mem → Prop) (m : Mem) (h : e0 s_0a s_0l s_0c R m) : HC P id #[.slice s_0a s_0l s_0c] m R := by
  refine HC_of (fn := fn) (c := body) (od := od) (tb := tb) Go.Proofs.Try.func22 (by kernel_rfl) (by kernel_rfl) follows (by kernel_rfl) (of_decide_eq_true (by kernel_rfl)) ?_
  have he : (e0A R).erase = body := by kernel_rfl
  rw [← he]
  refine acpt_sound (P := P) (e0A R) _ _ _ True.intro ?_
  exact Eq.mp (e0_eq s_0a s_0l s_0c R m) h
end slices_Clone_s_byte_byte

/-! ### eyot/lru.New[[]byte] -/
namespace lru_New_s_byte
noncomputable def fn : Func := Go.Proofs.Try.f23
noncomputable def body : Code := fn.body.getD .skip
def od : Nat → Ord := fun _ => .done
def tb : Nat → Tab := fun _ => (0, [], [])
def e0 (most_0 : Int) (R : Ending → Mem → Prop) (m : Mem) : Prop :=
  NewC m #[.int .i64 most_0, .slice none 0 0] T_lru_Cache_byte fun b5 m1 =>
  R (.returned (.pointer (some ⟨b5, 0, none⟩))) m1
noncomputable def e0A (R : Ending → Mem → Prop) : ACode := (.code (body))
theorem e0_eq (most_0 : Int) (R : Ending → Mem → Prop) (m : Mem) : e0 most_0 R m = acpt P od (panicR R) (e0A R) (bodyQ P fn R) (argE (#[.int .i64 most_0] : Array Value).toList) m := by kernel_rfl
theorem ok (most_0 : Int) (R : Ending → Mem → Prop) (m : Mem) (h : e0 most_0 R m) : HC P id #[.int .i64 most_0] m R := by
  refine HC_of (fn := fn) (c := body) (od := od) (tb := tb) Go.Proofs.Try.func23 (by kernel_rfl) (by kernel_rfl) follows (by kernel_rfl) (of_decide_eq_true (by kernel_rfl)) ?_
  have he : (e0A R).erase = body := by kernel_rfl
  rw [← he]
  refine acpt_sound (P := P) (e0A R) _ _ _ True.intro ?_
  exact Eq.mp (e0_eq most_0 R m) h
end lru_New_s_byte

/-! ### (*eyot/file.File).Bytes$1 -/
namespace file_File_Bytes_1
noncomputable def fn : Func := Go.Proofs.Try.f24
noncomputable def body : Code := fn.body.getD .skip
noncomputable def ops : Array Oper := rgOps (sL body)
def od : Nat → Ord := fun _ => .done
def tb : Nat → Tab := fun _ => (0, [], [])
def tnone (c0b : Nat) (c1b : Nat)  (K : Mem → Prop) (m : Mem) : Prop :=
  K m
theorem df_none (c0b : Nat) (c1b : Nat)  (K : Mem → Prop) (m : Mem) (h : tnone c0b c1b  K m) : DF P id #[.pointer (some ⟨c0b, 0, none⟩), .pointer (some ⟨c1b, 0, none⟩)] none m K := by
  refine DF_of (tb := tb) (od := od) (gn := fn) (id := 0) (d := 5) (ops := ops) (ol := ops.toList.tail) (rest := sR body) (tys := #[]) (ty := 20) (pos := "file.go:48") (af := #[])
    Go.Proofs.Try.func24 (by kernel_rfl) follows (by kernel_rfl) (by kernel_rfl) (by kernel_rfl) (of_decide_eq_true (by kernel_rfl)) (by kernel_rfl) ?_
  have e : tnone c0b c1b  K m = hops P ops (fun ρ m => cpt P od (fun _ _ => False) (sR body) (doneQ K) ρ m) (fun _ _ => False) ops.toList.tail (upd (argE (#[.pointer (some ⟨c0b, 0, none⟩), .pointer (some ⟨c1b, 0, none⟩)] : Array Value).toList) 5 (recV none)) m := by kernel_rfl
  exact Eq.mp e h
def tsome (c0b : Nat) (c1b : Nat) (v : Int) (K : Mem → Prop) (m : Mem) : Prop :=
  St1 m c0b 0 (.slice none 0 0) fun m1 =>
  St1 m1 c1b 0 (.int .i64 v) fun m2 =>
  K m2
theorem df_some (c0b : Nat) (c1b : Nat) (v : Int) (K : Mem → Prop) (m : Mem) (h : tsome c0b c1b v K m) : DF P id #[.pointer (some ⟨c0b, 0, none⟩), .pointer (some ⟨c1b, 0, none⟩)] (some (.iface T_api_Errno (.int .i64 v))) m K := by
  refine DF_of (tb := tb) (od := od) (gn := fn) (id := 0) (d := 5) (ops := ops) (ol := ops.toList.tail) (rest := sR body) (tys := #[]) (ty := 20) (pos := "file.go:48") (af := #[])
    Go.Proofs.Try.func24 (by kernel_rfl) follows (by kernel_rfl) (by kernel_rfl) (by kernel_rfl) (of_decide_eq_true (by kernel_rfl)) (by kernel_rfl) ?_
  have e : tsome c0b c1b v K m = hops P ops (fun ρ m => cpt P od (fun _ _ => False) (sR body) (doneQ K) ρ m) (fun _ _ => False) ops.toList.tail (upd (argE (#[.pointer (some ⟨c0b, 0, none⟩), .pointer (some ⟨c1b, 0, none⟩)] : Array Value).toList) 5 (recV (some (.iface T_api_Errno (.int .i64 v))))) m := by kernel_rfl
  exact Eq.mp e h
end file_File_Bytes_1

/-! ### (*eyot/page.Pages).Size -/
namespace page_Pages_Size
noncomputable def fn : Func := Go.Proofs.Try.f25
noncomputable def body : Code := fn.body.getD .skip
def od : Nat → Ord := fun _ => .done
def tb : Nat → Tab := fun _ => (0, [], [])
def e0 (p_0 : Option Addr) (R : Ending → Mem → Prop) (m : Mem) : Prop :=
  NewC m #[.pointer p_0] T_ptr_page_Pages fun b_p_1 m1 =>
  HC P page_safe_int.id #[.func (.func page_Pages_Size_1.id) #[] #[.pointer (some ⟨b_p_1, 0, none⟩)]] m1 (Cont (fun v m2 =>
      UnI v .i64 fun x4 =>
      R (.returned (.int .i64 x4)) m2) (panicR R))
noncomputable def e0A (R : Ending → Mem → Prop) : ACode := (.code (body))
theorem e0_eq (p_0 : Option Addr) (R : Ending → Mem → Prop) (m : Mem) : e0 p_0 R m = acpt P od (panicR R) (e0A R) (bodyQ P fn R) (argE (#[.pointer p_0] : Array Value).toList) m := by kernel_rfl
theorem ok (p_0 : Option Addr) (R : Ending → Mem → Prop) (m : Mem) (h : e0 p_0 R m) : HC P id #[.pointer p_0] m R := by
  refine HC_of (fn := fn) (c := body) (od := od) (tb := tb) Go.Proofs.Try.func25 (by kernel_rfl) (by kernel_rfl) follows (by kernel_rfl) (of_decide_eq_true (by kernel_rfl)) ?_
  have he : (e0A R).erase = body := by kernel_rfl
  rw [← he]
  refine acpt_sound (P := P) (e0A R) _ _ _ True.intro ?_
  exact Eq.mp (e0_eq p_0 R m) h
end page_Pages_Size

/-! ### (*eyot/file.File).page -/
namespace file_File_page
noncomputable def fn : Func := Go.Proofs.Try.f26
noncomputable def body : Code := fn.body.getD .skip
def od : Nat → Ord := fun _ => .done
def tb : Nat → Tab := fun _ => (0, [], [])
def e0 (f_0 : Option Addr) (i_1 : Int) (R : Ending → Mem → Prop) (m : Mem) : Prop :=
  NilC f_0 (fun x11b x11o =>
    LdV m x11b (x11o + 1) fun v =>
    UnP v fun x13 =>
    HC P lru_Cache_s_byte_Get.id #[.pointer x13, .int .i64 i_1] m (Cont (fun v m1 =>
        UnTup v fun us0 =>
        UnCons us0 fun w us1 =>
        UnS w fun x15_0a x15_0l x15_0c =>
        UnCons us1 fun w us2 =>
        UnB w fun x15_1 =>
        UnNil us2 (
          Br x15_1 (
            R (.returned (.slice x15_0a x15_0l x15_0c)) m1) (
            NilC f_0 (fun x22b x22o =>
              LdV m1 x22b x22o fun v =>
              UnP v fun x24 =>
              HC P page_Pages_Read.id #[.pointer x24, .int .i64 i_1] m1 (Cont (fun v m2 =>
                  UnTup v fun us0 =>
                  UnCons us0 fun w us1 =>
                  UnS w fun x26_0a x26_0l x26_0c =>
                  UnCons us1 fun w us2 =>
                  UnI w .i64 fun x26_1 =>
                  UnNil us2 (
                    Br (x26_1 != 0) (
                      R (.panicked [{ v := .iface T_api_Errno (.int .i64 x26_1), recovered := false }]) m2) (
                      NilC f_0 (fun x34b x34o =>
                        LdV m2 x34b (x34o + 1) fun v =>
                        UnP v fun x36 =>
                        HC P lru_Cache_s_byte_Put.id #[.pointer x36, .int .i64 i_1, .slice x26_0a x26_0l x26_0c] m2 (Cont (fun v m3 =>
                        UnTup v fun us0 =>
                        UnCons us0 fun w us1 =>
                        UnI w .i64 fun x39_0 =>
                        UnCons us1 fun w us2 =>
                        UnB w fun x39_1 =>
                        UnNil us2 (
                        R (.returned (.slice x26_0a x26_0l x26_0c)) m3)) (panicR R))) (R (.panicked (nilPanic P)) m2)))) (panicR R))) (R (.panicked (nilPanic P)) m1)))) (panicR R))) (R (.panicked (nilPanic P)) m)
noncomputable def e0A (R : Ending → Mem → Prop) : ACode := (.code (body))
theorem e0_eq (f_0 : Option Addr) (i_1 : Int) (R : Ending → Mem → Prop) (m : Mem) : e0 f_0 i_1 R m = acpt P od (panicR R) (e0A R) (bodyQ P fn R) (argE (#[.pointer f_0, .int .i64 i_1] : Array Value).toList) m := by kernel_rfl
theorem ok (f_0 : Option Addr) (i_1 : Int) (R : Ending → Mem → Prop) (m : Mem) (h : e0 f_0 i_1 R m) : HC P id #[.pointer f_0, .int .i64 i_1] m R := by
  refine HC_of (fn := fn) (c := body) (od := od) (tb := tb) Go.Proofs.Try.func26 (by kernel_rfl) (by kernel_rfl) follows (by kernel_rfl) (of_decide_eq_true (by kernel_rfl)) ?_
  have he : (e0A R).erase = body := by kernel_rfl
  rw [← he]
  refine acpt_sound (P := P) (e0A R) _ _ _ True.intro ?_
  exact Eq.mp (e0_eq f_0 i_1 R m) h
end file_File_page

/-! ### (*eyot/lru.Cache[[]byte]).Keys -/
namespace lru_Cache_s_byte_Keys
noncomputable def fn : Func := Go.Proofs.Try.f27
noncomputable def body : Code := fn.body.getD .skip
def od : Nat → Ord := fun _ => .done
def tb : Nat → Tab := fun _ => (0, [], [])
def l1E (K : Option Addr → Nat → Nat → Option Addr → Nat → Nat → Int → Int → Mem → Prop) : Env → Mem → Prop := fun ρ m => UnS (ρ 3) fun out_3a out_3l out_3c => UnS (ρ 11) fun x11a x11l x11c => UnI (ρ 12) .i64 fun x12 => UnI (ρ 13) .i64 fun x13 => K out_3a out_3l out_3c x11a x11l x11c x12 x13 m
def l1B  (K1 : Option Addr → Nat → Nat → Option Addr → Nat → Nat → Int → Int → Mem → Prop) (out_3a : Option Addr) (out_3l : Nat) (out_3c : Nat) (x11a : Option Addr) (x11l : Nat) (x11c : Nat) (x12 : Int) (x13 : Int) (R : Ending → Mem → Prop) (m : Mem) : Prop :=
  Br (decide (x13 < x12)) (
    IxS x11a x11l x13 2 fun x15b x15o =>
    LdV m x15b x15o fun v =>
    UnI v .i64 fun x16_0 =>
    LdV m x15b (x15o + 1) fun v =>
    UnS v fun x16_1a x16_1l x16_1c =>
    NewC m #[.int .i64 0, .slice none 0 0] T_lru_entry_byte fun b_e_5 m1 =>
    St1 m1 b_e_5 0 (.int .i64 x16_0) fun m2 =>
    St1 m2 b_e_5 1 (.slice x16_1a x16_1l x16_1c) fun m3 =>
    LdV m3 b_e_5 0 fun v =>
    UnI v .i64 fun x19 =>
    NewC m3 #[.int .i64 x19] T_int fun b20 m4 =>
    BiN P .append #[T_sl_int, T_sl_int] T_sl_int #[false, false] #[.slice out_3a out_3l out_3c, .slice (some ⟨b20, 0, none⟩) 1 1] m4 (fun w m5 =>
      UnS w fun x21a x21l x21c =>
      K1 x21a x21l x21c x11a x11l x11c x12 (IntKind.i64.wrap (x13 + 1)) m5) (panicR R)) (
    R (.returned (.slice out_3a out_3l out_3c)) m)
def l1  (out_3a : Option Addr) (out_3l : Nat) (out_3c : Nat) (x11a : Option Addr) (x11l : Nat) (x11c : Nat) (x12 : Int) (x13 : Int) (R : Ending → Mem → Prop) (m : Mem) : Prop :=
  ∃ (I : Nat → Option Addr → Nat → Nat → Option Addr → Nat → Nat → Int → Int → Mem → Prop) (N : Nat), I N out_3a out_3l out_3c x11a x11l x11c x12 x13 m ∧ ∀ N out_3a out_3l out_3c x11a x11l x11c x12 x13 m, I N out_3a out_3l out_3c x11a x11l x11c x12 x13 m → l1B  (fun out_3a out_3l out_3c x11a x11l x11c x12 x13 m => ∃ N1, N1 < N ∧ I N1 out_3a out_3l out_3c x11a x11l x11c x12 x13 m) out_3a out_3l out_3c x11a x11l x11c x12 x13 R m
noncomputable def l1A  (K1 : Option Addr → Nat → Nat → Option Addr → Nat → Nat → Int → Int → Mem → Prop) (R : Ending → Mem → Prop) : ACode := (.code (lP (bB (sR (sL (sR (sR (sR (body)))))))))
def e0 (c_0 : Option Addr) (R : Ending → Mem → Prop) (m : Mem) : Prop :=
  Br c_0.isNone (
    R (.returned (.slice none 0 0)) m) (
    NilC c_0 (fun x9b x9o =>
      LdV m x9b (x9o + 1) fun v =>
      UnS v fun x11a x11l x11c =>
      l1  none 0 0 x11a x11l x11c ((x11l : Nat) : Int) 0 R m) (R (.panicked (nilPanic P)) m))
noncomputable def e0A (R : Ending → Mem → Prop) : ACode := (.seq (.code (sL (body))) (.seq (.code (sL (sR (body)))) (.seq (.code (sL (sR (sR (body))))) (.seq (.seq (.code (sL (sL (sR (sR (sR (body))))))) (.block 0 (.cut (l1E fun out_3a out_3l out_3c x11a x11l x11c x12 x13 m => l1  out_3a out_3l out_3c x11a x11l x11c x12 x13 R m) (.loop (lP (bB (sR (sL (sR (sR (sR (body)))))))))))) (.code (sR (sR (sR (sR (body))))))))))
theorem l1_eq  (K1 : Option Addr → Nat → Nat → Option Addr → Nat → Nat → Int → Int → Mem → Prop) (R : Ending → Mem → Prop) (out_3a : Option Addr) (out_3l : Nat) (out_3c : Nat) (x11a : Option Addr) (x11l : Nat) (x11c : Nat) (x12 : Int) (x13 : Int) (ρ : Env) (m : Mem) : l1B  K1 out_3a out_3l out_3c x11a x11l x11c x12 x13 R m = acpt P od (panicR R) (l1A  K1 R) (thenQ (l1E K1) (blockQ 0 (thenQ (acpt P od (panicR R) (.code (sR (sR (sR (sR (body)))))) (bodyQ P fn R)) (bodyQ P fn R)))) (upd (upd (upd (upd ρ 13 (.int .i64 x13)) 12 (.int .i64 x12)) 11 (.slice x11a x11l x11c)) 3 (.slice out_3a out_3l out_3c)) m := by kernel_rfl
theorem l1_er  (K1 : Option Addr → Nat → Nat → Option Addr → Nat → Nat → Int → Int → Mem → Prop) (R : Ending → Mem → Prop) : (l1A  K1 R).erase = lP (bB (sR (sL (sR (sR (sR (body))))))) := by kernel_rfl
theorem l1_ok  (R : Ending → Mem → Prop) (ρ : Env) (m : Mem) (h : (l1E fun out_3a out_3l out_3c x11a x11l x11c x12 x13 m => l1  out_3a out_3l out_3c x11a x11l x11c x12 x13 R m) ρ m) : cpt P od (panicR R) (.loop (lP (bB (sR (sL (sR (sR (sR (body))))))))) (blockQ 0 (thenQ (acpt P od (panicR R) (.code (sR (sR (sR (sR (body)))))) (bodyQ P fn R)) (bodyQ P fn R))) ρ m := by
  unfold l1E at h
  obtain ⟨out_3a, out_3l, out_3c, e3, h⟩ := h.ex
  obtain ⟨x11a, x11l, x11c, e11, h⟩ := h.ex
  obtain ⟨x12, e12, h⟩ := h.ex
  obtain ⟨x13, e13, h⟩ := h.ex
  obtain ⟨I, N, h0, hs⟩ := h
  refine ⟨fun N => l1E (I N), N, (by show l1E (I N) ρ m; unfold l1E; rw [e3, e11, e12, e13]; exact h0), ?_⟩
  clear h0 e3 e11 e12 e13
  intro N ρ m h
  unfold l1E at h
  obtain ⟨out_3a, out_3l, out_3c, e3, h⟩ := h.ex
  obtain ⟨x11a, x11l, x11c, e11, h⟩ := h.ex
  obtain ⟨x12, e12, h⟩ := h.ex
  obtain ⟨x13, e13, h⟩ := h.ex
  refine cpt_mono (P := P) (lP (bB (sR (sL (sR (sR (sR (body)))))))) (Q := thenQ (l1E fun out_3a out_3l out_3c x11a x11l x11c x12 x13 m => ∃ N1, N1 < N ∧ I N1 out_3a out_3l out_3c x11a x11l x11c x12 x13 m) (blockQ 0 (thenQ (acpt P od (panicR R) (.code (sR (sR (sR (sR (body)))))) (bodyQ P fn R)) (bodyQ P fn R)))) (fun e ρ m h => ?_) ρ m ?_
  · cases e with
    | normal =>
      have h : l1E (fun out_3a out_3l out_3c x11a x11l x11c x12 x13 m => ∃ N1, N1 < N ∧ I N1 out_3a out_3l out_3c x11a x11l x11c x12 x13 m) ρ m := h
      unfold l1E at h
      obtain ⟨out_3a, out_3l, out_3c, e3, h⟩ := h.ex
      obtain ⟨x11a, x11l, x11c, e11, h⟩ := h.ex
      obtain ⟨x12, e12, h⟩ := h.ex
      obtain ⟨x13, e13, h⟩ := h.ex
      obtain ⟨N1, hlt, h⟩ := h
      exact ⟨N1, hlt, (by show l1E (I N1) ρ m; unfold l1E; rw [e3, e11, e12, e13]; exact h)⟩
    | _ => exact h
  have hh := hs N out_3a out_3l out_3c x11a x11l x11c x12 x13 m h
  generalize (fun out_3a out_3l out_3c x11a x11l x11c x12 x13 m => ∃ N1, N1 < N ∧ I N1 out_3a out_3l out_3c x11a x11l x11c x12 x13 m : Option Addr → Nat → Nat → Option Addr → Nat → Nat → Int → Int → Mem → Prop) = K1 at hh ⊢
  rw [← upd_self e3, ← upd_self e11, ← upd_self e12, ← upd_self e13]
  rw [← l1_er  K1 R]
  refine acpt_sound (P := P) (l1A  K1 R) _ _ _ True.intro ?_
  exact Eq.mp (l1_eq  K1 R out_3a out_3l out_3c x11a x11l x11c x12 x13 ρ m) hh
theorem e0_eq (c_0 : Option Addr) (R : Ending → Mem → Prop) (m : Mem) : e0 c_0 R m = acpt P od (panicR R) (e0A R) (bodyQ P fn R) (argE (#[.pointer c_0] : Array Value).toList) m := by kernel_rfl
theorem ok (c_0 : Option Addr) (R : Ending → Mem → Prop) (m : Mem) (h : e0 c_0 R m) : HC P id #[.pointer c_0] m R := by
  refine HC_of (fn := fn) (c := body) (od := od) (tb := tb) Go.Proofs.Try.func27 (by kernel_rfl) (by kernel_rfl) follows (by kernel_rfl) (of_decide_eq_true (by kernel_rfl)) ?_
  have he : (e0A R).erase = body := by kernel_rfl
  rw [← he]
  refine acpt_sound (P := P) (e0A R) _ _ _ ⟨⟨⟨⟨True.intro, ⟨(fun ρ m h => l1_ok  R ρ m h), True.intro⟩⟩, True.intro⟩, True.intro⟩, True.intro⟩ ?_
  exact Eq.mp (e0_eq c_0 R m) h
end lru_Cache_s_byte_Keys

/-! ### (*eyot/lru.Cache[[]byte]).Clear -/
namespace lru_Cache_s_byte_Clear
noncomputable def fn : Func := Go.Proofs.Try.f28
noncomputable def body : Code := fn.body.getD .skip
def od : Nat → Ord := fun _ => .done
def tb : Nat → Tab := fun _ => (0, [], [])
def e0 (c_0 : Option Addr) (R : Ending → Mem → Prop) (m : Mem) : Prop :=
  Br (!c_0.isNone) (
    NilC c_0 (fun x5b x5o =>
      St1 m x5b (x5o + 1) (.slice none 0 0) fun m1 =>
      R (.returned (.tuple #[])) m1) (R (.panicked (nilPanic P)) m)) (
    R (.returned (.tuple #[])) m)
noncomputable def e0A (R : Ending → Mem → Prop) : ACode := (.code (body))
theorem e0_eq (c_0 : Option Addr) (R : Ending → Mem → Prop) (m : Mem) : e0 c_0 R m = acpt P od (panicR R) (e0A R) (bodyQ P fn R) (argE (#[.pointer c_0] : Array Value).toList) m := by kernel_rfl
theorem ok (c_0 : Option Addr) (R : Ending → Mem → Prop) (m : Mem) (h : e0 c_0 R m) : HC P id #[.pointer c_0] m R := by
  refine HC_of (fn := fn) (c := body) (od := od) (tb := tb) Go.Proofs.Try.func28 (by kernel_rfl) (by kernel_rfl) follows (by kernel_rfl) (of_decide_eq_true (by kernel_rfl)) ?_
  have he : (e0A R).erase = body := by kernel_rfl
  rw [← he]
  refine acpt_sound (P := P) (e0A R) _ _ _ True.intro ?_
  exact Eq.mp (e0_eq c_0 R m) h
end lru_Cache_s_byte_Clear

/-! ### (*eyot/page.Pages).Len -/
namespace page_Pages_Len
noncomputable def fn : Func := Go.Proofs.Try.f29
noncomputable def body : Code := fn.body.getD .skip
def od : Nat → Ord := fun _ => .done
def tb : Nat → Tab := fun _ => (0, [], [])
def e0 (p_0 : Option Addr) (R : Ending → Mem → Prop) (m : Mem) : Prop :=
  NewC m #[.pointer p_0] T_ptr_page_Pages fun b_p_1 m1 =>
  HC P page_safe_int.id #[.func (.func page_Pages_Len_1.id) #[] #[.pointer (some ⟨b_p_1, 0, none⟩)]] m1 (Cont (fun v m2 =>
      UnI v .i64 fun x4 =>
      R (.returned (.int .i64 x4)) m2) (panicR R))
noncomputable def e0A (R : Ending → Mem → Prop) : ACode := (.code (body))
theorem e0_eq (p_0 : Option Addr) (R : Ending → Mem → Prop) (m : Mem) : e0 p_0 R m = acpt P od (panicR R) (e0A R) (bodyQ P fn R) (argE (#[.pointer p_0] : Array Value).toList) m := by kernel_rfl
theorem ok (p_0 : Option Addr) (R : Ending → Mem → Prop) (m : Mem) (h : e0 p_0 R m) : HC P id #[.pointer p_0] m R := by
  refine HC_of (fn := fn) (c := body) (od := od) (tb := tb) Go.Proofs.Try.func29 (by kernel_rfl) (by kernel_rfl) follows (by kernel_rfl) (of_decide_eq_true (by kernel_rfl)) ?_
  have he : (e0A R).erase = body := by kernel_rfl
  rw [← he]
  refine acpt_sound (P := P) (e0A R) _ _ _ True.intro ?_
  exact Eq.mp (e0_eq p_0 R m) h
end page_Pages_Len

/-! ### (*eyot/eyotref3.Cache).Get -/
namespace eyotref3_Cache_Get
noncomputable def fn : Func := Go.Proofs.Try.f30
noncomputable def body : Code := fn.body.getD .skip
def od : Nat → Ord := fun _ => .done
def tb : Nat → Tab := fun _ => (0, [], [])
def e0 (c_0 : Option Addr) (k_1 : Int) (R : Ending → Mem → Prop) (m : Mem) : Prop :=
  HC P eyotref3_Cache_at.id #[.pointer c_0, .int .i64 k_1] m (Cont (fun v m1 =>
      UnI v .i64 fun x10 =>
      Br (decide (x10 < 0)) (
        R (.returned (.tuple #[.int .i64 0, .bool false])) m1) (
        NilC c_0 (fun x14b x14o =>
          LdV m1 x14b (x14o + 2) fun v =>
          UnS v fun x16a x16l x16c =>
          IxS x16a x16l x10 1 fun x18b x18o =>
          LdV m1 x18b x18o fun v =>
          UnI v .i64 fun x19 =>
          HC P eyotref3_Cache_Put.id #[.pointer c_0, .int .i64 k_1, .int .i64 x19] m1 (Cont (fun v m2 =>
              UnTup v fun us0 =>
              UnCons us0 fun w us1 =>
              UnI w .i64 fun x23_0 =>
              UnCons us1 fun w us2 =>
              UnB w fun x23_1 =>
              UnNil us2 (
                R (.returned (.tuple #[.int .i64 x19, .bool true])) m2)) (panicR R))) (R (.panicked (nilPanic P)) m1))) (panicR R))
noncomputable def e0A (R : Ending → Mem → Prop) : ACode := (.code (body))
theorem e0_eq (c_0 : Option Addr) (k_1 : Int) (R : Ending → Mem → Prop) (m : Mem) : e0 c_0 k_1 R m = acpt P od (panicR R) (e0A R) (bodyQ P fn R) (argE (#[.pointer c_0, .int .i64 k_1] : Array Value).toList) m := by kernel_rfl
theorem ok (c_0 : Option Addr) (k_1 : Int) (R : Ending → Mem → Prop) (m : Mem) (h : e0 c_0 k_1 R m) : HC P id #[.pointer c_0, .int .i64 k_1] m R := by
  refine HC_of (fn := fn) (c := body) (od := od) (tb := tb) Go.Proofs.Try.func30 (by kernel_rfl) (by kernel_rfl) follows (by kernel_rfl) (of_decide_eq_true (by kernel_rfl)) ?_
  have he : (e0A R).erase = body := by kernel_rfl
  rw [← he]
  refine acpt_sound (P := P) (e0A R) _ _ _ True.intro ?_
  exact Eq.mp (e0_eq c_0 k_1 R m) h
end eyotref3_Cache_Get

/-! ### (*eyot/eyotref3.Cache).Put -/
namespace eyotref3_Cache_Put
noncomputable def fn : Func := Go.Proofs.Try.f31
noncomputable def body : Code := fn.body.getD .skip
def od : Nat → Ord := fun | 2 => ordL [(0, 3), (1, 3), (2, 3), (4, 3), (5, 3), (6, 3), (7, 1), (9, 3), (11, 3), (12, 3), (13, 3), (14, 1)] (.alt 3 0 (ordL [] (.alt 8 0 (ordL [(10, 0), (15, 2), (16, 3), (17, 3), (18, 2), (19, 3), (20, 3), (21, 2)] .done) 10 0 (ordL [(8, 0), (15, 2), (16, 3), (17, 3), (18, 2), (19, 3), (20, 3), (21, 2)] .done))) 10 0 (ordL [(3, 0), (8, 0), (15, 2), (16, 3), (17, 3), (18, 2), (19, 3), (20, 3), (21, 2)] .done)) | 3 => ordL [(0, 3), (1, 3), (2, 3), (3, 1), (4, 3), (5, 3), (6, 3), (7, 3), (8, 0), (9, 3), (10, 3)] .done | 5 => ordL [(0, 3), (1, 3), (2, 3), (3, 1), (4, 3), (5, 3), (6, 3), (7, 0), (8, 3), (9, 3), (10, 3), (11, 2), (12, 3)] .done | 6 => ordL [(0, 3), (1, 3), (2, 3), (3, 3), (4, 3), (5, 1), (6, 3), (7, 3), (8, 3), (9, 1), (10, 3), (11, 3), (12, 3), (13, 3), (14, 3), (15, 3), (16, 1), (17, 3), (18, 3), (19, 3), (20, 0), (21, 3), (22, 3), (23, 3), (24, 3), (25, 3), (26, 2), (27, 3), (28, 3), (29, 2)] .done | _ => .done
def tb : Nat → Tab := fun | 2 => (2392064, [0, 0, 0, 4, 0, 16, 48, 112, 252, 0, 512, 0, 2048, 6144, 14336, 32764, 65533, 131069, 262141, 524287, 1048575, 2097151], [(0, 1, 13), (0, 1, 14), (0, 2, 15), (4, 16384, 16), (0, 1, 17), (16, 65536, 18), (32, 131072, 19), (64, 262144, 20), (136, 557056, 21), (0, 4, 22), (512, 2097152, 23), (0, 1, 24), (2048, 8388608, 25), (4096, 16777216, 26), (8192, 33554432, 27), (17664, 71303168, 28), (49661, 4096, 29), (115197, 268435456, 30), (180733, 537919488, 0), (524287, 8192, 31), (1048575, 1073741824, 32), (1572863, 2281701376, 0)]) | 3 => (0, [0, 1, 3, 7, 15, 0, 32, 96, 224, 480, 1023], [(0, 1, 33), (1, 4294967296, 34), (2, 8589934592, 35), (4, 17179869184, 36), (8, 34359738368, 37), (0, 1, 38), (32, 137438953472, 39), (64, 274877906944, 40), (128, 549755813888, 41), (256, 1099511627776, 42), (528, 2267742732288, 43)]) | 5 => (2048, [0, 1, 3, 7, 0, 16, 48, 112, 240, 496, 1023, 2047, 4095], [(0, 1, 44), (1, 8796093022208, 45), (2, 17592186044416, 46), (4, 35184372088832, 47), (0, 1, 48), (16, 140737488355328, 49), (32, 281474976710656, 50), (64, 562949953421312, 51), (128, 1125899906842624, 52), (256, 2251799813685248, 53), (520, 4573968371548160, 54), (1024, 9007199254740992, 55), (4095, 18014398509481984, 9)]) | 6 => (603979776, [0, 0, 0, 4, 12, 28, 0, 64, 192, 448, 960, 1984, 4092, 0, 8192, 24576, 57344, 0, 131072, 393216, 917504, 1966080, 4063232, 8380416, 2097149, 18874365, 52428797, 134217727, 268435455, 536870911], [(0, 1, 56), (0, 1, 57), (0, 1, 58), (4, 144115188075855872, 59), (8, 288230376151711744, 60), (16, 576460752303423488, 61), (0, 1, 62), (64, 2305843009213693952, 63), (128, 4611686018427387904, 64), (256, 9223372036854775808, 65), (512, 18446744073709551616, 66), (1024, 36893488147419103232, 67), (2080, 74939897799445053440, 68), (0, 1, 69), (8192, 295147905179352825856, 70), (16384, 590295810358705651712, 71), (32768, 1180591620717411303424, 72), (0, 1, 73), (131072, 4722366482869645213696, 74), (262144, 9444732965739290427392, 75), (524288, 18889465931478580854784, 76), (1048576, 37778931862957161709568, 77), (2097152, 75557863725914323419136, 78), (4259840, 153476910693263469445120, 79), (1122301, 36028797018963968, 80), (17899517, 604462909807314587353088, 81), (34676733, 1209073393567218851119104, 0), (134217727, 72057594037927936, 82), (268435455, 2417851639229258349412352, 83), (402653183, 5137934733362173992501248, 0)]) | _ => (0, [], [])
def k1E (K : Option Addr → Mem → Prop) : Env → Mem → Prop := fun ρ m => UnP (ρ 0) fun x0 => K x0 m
def k1  (x0 : Option Addr) (R : Ending → Mem → Prop) (m : Mem) : Prop :=
  Sub m fun r1 =>
  NilC x0 (fun x33b x33o =>
    LdV r1 x33b (x33o + 1) fun v =>
    UnS v fun x35a x35l x35c =>
    NilC x0 (fun x38b x38o =>
      LdV m x38b x38o fun v =>
      UnI v .i64 fun x40 =>
      Br (decide (((x35l : Nat) : Int) ≤ (if 1 > x40 then 1 else x40))) (
        R (.returned (.tuple #[.int .i64 0, .bool false])) m) (
        Sub m fun r2 =>
        NilC x0 (fun x44b x44o =>
          LdV r2 x44b (x44o + 1) fun v =>
          UnS v fun x46a x46l x46c =>
          NilC x0 (fun x48b x48o =>
            LdV m x48b (x48o + 1) fun v =>
            UnS v fun x50a x50l x50c =>
            IxS x46a x46l (IntKind.i64.wrap (((x50l : Nat) : Int) - 1)) 1 fun x53b x53o =>
            LdV m x53b x53o fun v =>
            UnI v .i64 fun x54 =>
            Sub m fun r3 =>
            NilC x0 (fun x58b x58o =>
              LdV r3 x58b (x58o + 1) fun v =>
              UnS v fun x60a x60l x60c =>
              NilC x0 (fun x62b x62o =>
                LdV r3 x62b (x62o + 1) fun v =>
                UnS v fun x64a x64l x64c =>
                SlS x60a x60c 0 (IntKind.i64.wrap (((x64l : Nat) : Int) - 1)) 1 fun x67a x67l x67c =>
                NilC x0 (fun x69b x69o =>
                  LdV r3 x69b (x69o + 2) fun v =>
                  UnS v fun x71a x71l x71c =>
                  NilC x0 (fun x73b x73o =>
                    LdV m x73b (x73o + 2) fun v =>
                    UnS v fun x75a x75l x75c =>
                    SlS x71a x71c 0 (IntKind.i64.wrap (((x75l : Nat) : Int) - 1)) 1 fun x78a x78l x78c =>
                    NilC x0 (fun x79b x79o =>
                      St1 m x79b (x79o + 1) (.slice x67a x67l x67c) fun m4 =>
                      NilC x0 (fun x81b x81o =>
                        St1 m4 x81b (x81o + 2) (.slice x78a x78l x78c) fun m5 =>
                        R (.returned (.tuple #[.int .i64 x54, .bool true])) m5) (False)) (False)) (False)) (False)) (False)) (False)) (False)) (False))) (False)) (False)
noncomputable def k1A  (R : Ending → Mem → Prop) : ACode := (.code (sR (sR (sR (body)))))
def e0 (a0 : Option Addr) (a1 : Int) (a2 : Int) (R : Ending → Mem → Prop) (m : Mem) : Prop :=
  HC P eyotref3_Cache_Drop.id #[.pointer a0, .int .i64 a1] m (Cont (fun v m1 =>
      UnB v fun x11 =>
      Sub m1 fun r2 =>
      NilC a0 (fun x17b x17o =>
        LdV r2 x17b (x17o + 1) fun v =>
        UnS v fun x19a x19l x19c =>
        NilC a0 (fun x24b x24o =>
          LdV r2 x24b (x24o + 2) fun v =>
          UnS v fun x26a x26l x26c =>
          (
            NewC m1 #[.int .i64 a1] T_int fun b15 m3 =>
            Lk r2 m3 fun r4 =>
            (
              BiN P .append #[T_sl_int, T_sl_int] T_sl_int #[false, false] #[.slice (some ⟨b15, 0, none⟩) 1 1, .slice x19a x19l x19c] m3 (fun w m5 =>
                UnS w fun x20a x20l x20c =>
                Lk r4 m5 fun r6 =>
                NewC m5 #[.int .i64 a2] T_int fun b22 m7 =>
                Lk r6 m7 fun r8 =>
                BiN P .append #[T_sl_int, T_sl_int] T_sl_int #[false, false] #[.slice (some ⟨b22, 0, none⟩) 1 1, .slice x26a x26l x26c] m7 (fun w m9 =>
                  UnS w fun x27a x27l x27c =>
                  NilC a0 (fun x28b x28o =>
                    St1 m9 x28b (x28o + 1) (.slice x20a x20l x20c) fun m10 =>
                    NilC a0 (fun x30b x30o =>
                      St1 m10 x30b (x30o + 2) (.slice x27a x27l x27c) fun m11 =>
                      k1  a0 R m11) (False)) (False)) (panicR R)) (panicR R)) ∧ (
              NewC m3 #[.int .i64 a2] T_int fun b22 m5 =>
              Lk r4 m5 fun r6 =>
              BiN P .append #[T_sl_int, T_sl_int] T_sl_int #[false, false] #[.slice (some ⟨b15, 0, none⟩) 1 1, .slice x19a x19l x19c] m5 (fun w m7 =>
                UnS w fun x20a x20l x20c =>
                Lk r6 m7 fun r8 =>
                BiN P .append #[T_sl_int, T_sl_int] T_sl_int #[false, false] #[.slice (some ⟨b22, 0, none⟩) 1 1, .slice x26a x26l x26c] m7 (fun w m9 =>
                  UnS w fun x27a x27l x27c =>
                  NilC a0 (fun x28b x28o =>
                    St1 m9 x28b (x28o + 1) (.slice x20a x20l x20c) fun m10 =>
                    NilC a0 (fun x30b x30o =>
                      St1 m10 x30b (x30o + 2) (.slice x27a x27l x27c) fun m11 =>
                      k1  a0 R m11) (False)) (False)) (panicR R)) (panicR R))) ∧ (
            NewC m1 #[.int .i64 a2] T_int fun b22 m3 =>
            Lk r2 m3 fun r4 =>
            NewC m3 #[.int .i64 a1] T_int fun b15 m5 =>
            Lk r4 m5 fun r6 =>
            BiN P .append #[T_sl_int, T_sl_int] T_sl_int #[false, false] #[.slice (some ⟨b15, 0, none⟩) 1 1, .slice x19a x19l x19c] m5 (fun w m7 =>
              UnS w fun x20a x20l x20c =>
              Lk r6 m7 fun r8 =>
              BiN P .append #[T_sl_int, T_sl_int] T_sl_int #[false, false] #[.slice (some ⟨b22, 0, none⟩) 1 1, .slice x26a x26l x26c] m7 (fun w m9 =>
                UnS w fun x27a x27l x27c =>
                NilC a0 (fun x28b x28o =>
                  St1 m9 x28b (x28o + 1) (.slice x20a x20l x20c) fun m10 =>
                  NilC a0 (fun x30b x30o =>
                    St1 m10 x30b (x30o + 2) (.slice x27a x27l x27c) fun m11 =>
                    k1  a0 R m11) (False)) (False)) (panicR R)) (panicR R))) (False)) (False)) (panicR R))
noncomputable def e0A (R : Ending → Mem → Prop) : ACode := (.seq (.code (sL (body))) (.seq (.code (sL (sR (body)))) (.seq (.code (sL (sR (sR (body))))) (.cut (k1E fun x0 m => k1  x0 R m) (sR (sR (sR (body))))))))
theorem k1_eq  (R : Ending → Mem → Prop) (x0 : Option Addr) (ρ : Env) (m : Mem) : k1  x0 R m = acpt P od (panicR R) (k1A  R) (bodyQ P fn R) (upd ρ 0 (.pointer x0)) m := by kernel_rfl
theorem k1_er  (R : Ending → Mem → Prop) : (k1A  R).erase = sR (sR (sR (body))) := by kernel_rfl
theorem k1_ok  (R : Ending → Mem → Prop) (ρ : Env) (m : Mem) (h : (k1E fun x0 m => k1  x0 R m) ρ m) : cpt P od (panicR R) (sR (sR (sR (body)))) (bodyQ P fn R) ρ m := by
  unfold k1E at h
  obtain ⟨x0, e0, h⟩ := h.ex
  rw [← upd_self e0]
  rw [← k1_er  R]
  refine acpt_sound (P := P) (k1A  R) _ _ _ True.intro ?_
  exact Eq.mp (k1_eq  R x0 ρ m) h
theorem e0_eq (a0 : Option Addr) (a1 : Int) (a2 : Int) (R : Ending → Mem → Prop) (m : Mem) : e0 a0 a1 a2 R m = acpt P od (panicR R) (e0A R) (bodyQ P fn R) (argE (#[.pointer a0, .int .i64 a1, .int .i64 a2] : Array Value).toList) m := by kernel_rfl
theorem ok (a0 : Option Addr) (a1 : Int) (a2 : Int) (R : Ending → Mem → Prop) (m : Mem) (h : e0 a0 a1 a2 R m) : HC P id #[.pointer a0, .int .i64 a1, .int .i64 a2] m R := by
  refine HC_of (fn := fn) (c := body) (od := od) (tb := tb) Go.Proofs.Try.func31 (by kernel_rfl) (by kernel_rfl) follows (by kernel_rfl) (of_decide_eq_true (by kernel_rfl)) ?_
  have he : (e0A R).erase = body := by kernel_rfl
  rw [← he]
  refine acpt_sound (P := P) (e0A R) _ _ _ ⟨⟨⟨(fun ρ m h => k1_ok  R ρ m h), True.intro⟩, True.intro⟩, True.intro⟩ ?_
  exact Eq.mp (e0_eq a0 a1 a2 R m) h
end eyotref3_Cache_Put

/-! ### (*eyot/page.Pages).Reads$1 -/
namespace page_Pages_Reads_1
noncomputable def fn : Func := Go.Proofs.Try.f33
noncomputable def body : Code := fn.body.getD .skip
def od : Nat → Ord := fun _ => .done
def tb : Nat → Tab := fun _ => (0, [], [])
def e0 (c0b : Nat) (c0o : Nat) (R : Ending → Mem → Prop) (m : Mem) : Prop :=
  LdV m c0b c0o fun v =>
  UnP v fun x2 =>
  NilC x2 (fun x3b x3o =>
    LdV m x3b (x3o + 3) fun v =>
    UnS v fun x5a x5l x5c =>
    HC P slices_Clone_s_int_int.id #[.slice x5a x5l x5c] m (Cont (fun v m1 =>
        UnS v fun x6a x6l x6c =>
        R (.returned (.slice x6a x6l x6c)) m1) (panicR R))) (R (.panicked (nilPanic P)) m)
noncomputable def e0A (R : Ending → Mem → Prop) : ACode := (.code (body))
theorem e0_eq (c0b : Nat) (c0o : Nat) (R : Ending → Mem → Prop) (m : Mem) : e0 c0b c0o R m = acpt P od (panicR R) (e0A R) (bodyQ P fn R) (argE (#[.pointer (some ⟨c0b, c0o, none⟩)] : Array Value).toList) m := by kernel_rfl
theorem ok (c0b : Nat) (c0o : Nat) (R : Ending → Mem → Prop) (m : Mem) (h : e0 c0b c0o R m) : HC P id #[.pointer (some ⟨c0b, c0o, none⟩)] m R := by
  refine HC_of (fn := fn) (c := body) (od := od) (tb := tb) Go.Proofs.Try.func33 (by kernel_rfl) (by kernel_rfl) follows (by kernel_rfl) (of_decide_eq_true (by kernel_rfl)) ?_
  have he : (e0A R).erase = body := by kernel_rfl
  rw [← he]
  refine acpt_sound (P := P) (e0A R) _ _ _ True.intro ?_
  exact Eq.mp (e0_eq c0b c0o R m) h
end page_Pages_Reads_1

/-! ### slices.Clone[[]int,int] -/
namespace slices_Clone_s_int_int
noncomputable def fn : Func := Go.Proofs.Try.f34
noncomputable def body : Code := fn.body.getD .skip
def od : Nat → Ord := fun _ => .done
def tb : Nat → Tab := fun _ => (0, [], [])
def e0 (s_0a : Option Addr) (s_0l : Nat) (s_0c : Nat) (R : Ending → Mem → Prop) (m : Mem) : Prop :=
  Br s_0a.isNone (
    R (.returned (.slice none 0 0)) m) (
    NewC m #[] T_int fun b5 m1 =>
    BiN P .append #[T_sl_int, T_sl_int] T_sl_int #[false, false] #[.slice (some ⟨b5, 0, none⟩) 0 0, .slice s_0a s_0l s_0c] m1 (fun w m2 =>
      UnS w fun x7a x7l x7c =>
      R (.returned (.slice x7a x7l x7c)) m2) (panicR R))
noncomputable def e0A (R : Ending → Mem → Prop) : ACode := (.code (body))
theorem e0_eq (s_0a : Option Addr) (s_0l : Nat) (s_0c : Nat) (R : Ending → Mem → Prop) (m : Mem) : e0 s_0a s_0l s_0c R m = acpt P od (panicR R) (e0A R) (bodyQ P fn R) (argE (#[.slice s_0a s_0l s_0c] : Array Value).toList) m := by kernel_rfl
theorem ok (s_0a : Option Addr) (s_0l : Nat) (s_0c : Nat) (R : Ending → Mem → Prop) (m : Mem) (h : e0 s_0a s_0l s_0c R m) : HC P id #[.slice s_0a s_0l s_0c] m R := by
  refine HC_of (fn := fn) (c := body) (od := od) (tb := tb) Go.Proofs.Try.func34 (by kernel_rfl) (by kernel_rfl) follows (by kernel_rfl) (of_decide_eq_true (by kernel_rfl)) ?_
  have he : (e0A R).erase = body := by kernel_rfl
  rw [← he]
  refine acpt_sound (P := P) (e0A R) _ _ _ True.intro ?_
  exact Eq.mp (e0_eq s_0a s_0l s_0c R m) h
end slices_Clone_s_int_int

/-! ### (*eyot/page.Pages).Count$1 -/
namespace page_Pages_Count_1
noncomputable def fn : Func := Go.Proofs.Try.f36
noncomputable def body : Code := fn.body.getD .skip
def od : Nat → Ord := fun | 1 => ordL [(0, 1), (1, 3), (2, 3), (3, 1), (4, 3), (5, 1), (6, 3), (7, 3), (8, 1), (9, 3), (10, 3), (11, 0), (12, 3), (13, 3), (14, 0), (15, 3), (16, 3)] .done | _ => .done
def tb : Nat → Tab := fun | 1 => (0, [0, 1, 3, 7, 15, 0, 32, 96, 224, 511, 1023, 0, 2048, 6144, 14336, 32767, 65535], [(0, 1, 3), (1, 4, 4), (2, 8, 5), (4, 16, 6), (8, 32, 7), (0, 1, 8), (32, 128, 9), (64, 256, 10), (128, 512, 11), (272, 1088, 12), (512, 2048, 13), (0, 1, 14), (2048, 8192, 15), (4096, 16384, 16), (8192, 32768, 17), (17408, 69632, 18), (65535, 131072, 2)]) | _ => (0, [], [])
def e0 (c0b : Nat) (c0o : Nat) (R : Ending → Mem → Prop) (m : Mem) : Prop :=
  Sub m fun r1 =>
  LdV r1 c0b c0o fun v =>
  UnP v fun x2 =>
  NilC x2 (fun x3b x3o =>
    LdV r1 x3b x3o fun v =>
    UnS v fun x5a x5l x5c =>
    LdV r1 c0b c0o fun v =>
    UnP v fun x7 =>
    NilC x7 (fun x8b x8o =>
      LdV r1 x8b (x8o + 1) fun v =>
      UnI v .i64 fun x10 =>
      LdV m c0b c0o fun v =>
      UnP v fun x13 =>
      NilC x13 (fun x14b x14o =>
        LdV m x14b (x14o + 1) fun v =>
        UnI v .i64 fun x16 =>
        NzI x16 (
          R (.returned (.int .i64 (IntKind.i64.wrap (Int.tdiv (IntKind.i64.wrap ((IntKind.i64.wrap (((x5l : Nat) : Int) + x10)) - 1)) x16)))) m)) (False)) (False)) (False)
noncomputable def e0A (R : Ending → Mem → Prop) : ACode := (.code (body))
theorem e0_eq (c0b : Nat) (c0o : Nat) (R : Ending → Mem → Prop) (m : Mem) : e0 c0b c0o R m = acpt P od (panicR R) (e0A R) (bodyQ P fn R) (argE (#[.pointer (some ⟨c0b, c0o, none⟩)] : Array Value).toList) m := by kernel_rfl
theorem ok (c0b : Nat) (c0o : Nat) (R : Ending → Mem → Prop) (m : Mem) (h : e0 c0b c0o R m) : HC P id #[.pointer (some ⟨c0b, c0o, none⟩)] m R := by
  refine HC_of (fn := fn) (c := body) (od := od) (tb := tb) Go.Proofs.Try.func36 (by kernel_rfl) (by kernel_rfl) follows (by kernel_rfl) (of_decide_eq_true (by kernel_rfl)) ?_
  have he : (e0A R).erase = body := by kernel_rfl
  rw [← he]
  refine acpt_sound (P := P) (e0A R) _ _ _ True.intro ?_
  exact Eq.mp (e0_eq c0b c0o R m) h
end page_Pages_Count_1

/-! ### (*eyot/page.Pages).Size$1 -/
namespace page_Pages_Size_1
noncomputable def fn : Func := Go.Proofs.Try.f37
noncomputable def body : Code := fn.body.getD .skip
def od : Nat → Ord := fun _ => .done
def tb : Nat → Tab := fun _ => (0, [], [])
def e0 (c0b : Nat) (c0o : Nat) (R : Ending → Mem → Prop) (m : Mem) : Prop :=
  LdV m c0b c0o fun v =>
  UnP v fun x2 =>
  NilC x2 (fun x3b x3o =>
    LdV m x3b (x3o + 1) fun v =>
    UnI v .i64 fun x5 =>
    R (.returned (.int .i64 x5)) m) (R (.panicked (nilPanic P)) m)
noncomputable def e0A (R : Ending → Mem → Prop) : ACode := (.code (body))
theorem e0_eq (c0b : Nat) (c0o : Nat) (R : Ending → Mem → Prop) (m : Mem) : e0 c0b c0o R m = acpt P od (panicR R) (e0A R) (bodyQ P fn R) (argE (#[.pointer (some ⟨c0b, c0o, none⟩)] : Array Value).toList) m := by kernel_rfl
theorem ok (c0b : Nat) (c0o : Nat) (R : Ending → Mem → Prop) (m : Mem) (h : e0 c0b c0o R m) : HC P id #[.pointer (some ⟨c0b, c0o, none⟩)] m R := by
  refine HC_of (fn := fn) (c := body) (od := od) (tb := tb) Go.Proofs.Try.func37 (by kernel_rfl) (by kernel_rfl) follows (by kernel_rfl) (of_decide_eq_true (by kernel_rfl)) ?_
  have he : (e0A R).erase = body := by kernel_rfl
  rw [← he]
  refine acpt_sound (P := P) (e0A R) _ _ _ True.intro ?_
  exact Eq.mp (e0_eq c0b c0o R m) h
end page_Pages_Size_1

/-! ### (*eyot/lru.Cache[[]byte]).Get -/
namespace lru_Cache_s_byte_Get
noncomputable def fn : Func := Go.Proofs.Try.f38
noncomputable def body : Code := fn.body.getD .skip
def od : Nat → Ord := fun _ => .done
def tb : Nat → Tab := fun _ => (0, [], [])
def e0 (c_0 : Option Addr) (k_1 : Int) (R : Ending → Mem → Prop) (m : Mem) : Prop :=
  HC P lru_Cache_s_byte_at.id #[.pointer c_0, .int .i64 k_1] m (Cont (fun v m1 =>
      UnI v .i64 fun x11 =>
      Br (decide (x11 < 0)) (
        R (.returned (.tuple #[.slice none 0 0, .bool false])) m1) (
        NilC c_0 (fun x16b x16o =>
          LdV m1 x16b (x16o + 1) fun v =>
          UnS v fun x18a x18l x18c =>
          IxS x18a x18l x11 2 fun x20b x20o =>
          LdV m1 x20b x20o fun v =>
          UnI v .i64 fun x21_0 =>
          LdV m1 x20b (x20o + 1) fun v =>
          UnS v fun x21_1a x21_1l x21_1c =>
          NewC m1 #[.int .i64 0, .slice none 0 0] T_lru_entry_byte fun b_e_8 m2 =>
          St1 m2 b_e_8 0 (.int .i64 x21_0) fun m3 =>
          St1 m3 b_e_8 1 (.slice x21_1a x21_1l x21_1c) fun m4 =>
          NilC c_0 (fun x24b x24o =>
            LdV m4 x24b (x24o + 1) fun v =>
            UnS v fun x26a x26l x26c =>
            HC P slices_Delete_s_lru_entry_s_byte_lru_entry_s_byte.id #[.slice x26a x26l x26c, .int .i64 x11, .int .i64 (IntKind.i64.wrap (x11 + 1))] m4 (Cont (fun v m5 =>
                UnS v fun x30a x30l x30c =>
                NilC c_0 (fun x31b x31o =>
                  St1 m5 x31b (x31o + 1) (.slice x30a x30l x30c) fun m6 =>
                  LdV m6 b_e_8 0 fun v =>
                  UnI v .i64 fun x34_0 =>
                  LdV m6 b_e_8 1 fun v =>
                  UnS v fun x34_1a x34_1l x34_1c =>
                  HC P lru_Cache_s_byte_front.id #[.pointer c_0, .agg #[.int .i64 x34_0, .slice x34_1a x34_1l x34_1c]] m6 (Cont (fun v m7 =>
                      UnTup v fun us0 =>
                      UnNil us0 (
                        LdV m7 b_e_8 1 fun v =>
                        UnS v fun x37a x37l x37c =>
                        R (.returned (.tuple #[.slice x37a x37l x37c, .bool true])) m7)) (panicR R))) (R (.panicked (nilPanic P)) m5)) (panicR R))) (R (.panicked (nilPanic P)) m4)) (R (.panicked (nilPanic P)) m1))) (panicR R))
noncomputable def e0A (R : Ending → Mem → Prop) : ACode := (.code (body))
theorem e0_eq (c_0 : Option Addr) (k_1 : Int) (R : Ending → Mem → Prop) (m : Mem) : e0 c_0 k_1 R m = acpt P od (panicR R) (e0A R) (bodyQ P fn R) (argE (#[.pointer c_0, .int .i64 k_1] : Array Value).toList) m := by kernel_rfl
theorem ok (c_0 : Option Addr) (k_1 : Int) (R : Ending → Mem → Prop) (m : Mem) (h : e0 c_0 k_1 R m) : HC P id #[.pointer c_0, .int .i64 k_1] m R := by
  refine HC_of (fn := fn) (c := body) (od := od) (tb := tb) Go.Proofs.Try.func38 (by kernel_rfl) (by kernel_rfl) follows (by kernel_rfl) (of_decide_eq_true (by kernel_rfl)) ?_
  have he : (e0A R).erase = body := by kernel_rfl
  rw [← he]
  refine acpt_sound (P := P) (e0A R) _ _ _ True.intro ?_
  exact Eq.mp (e0_eq c_0 k_1 R m) h
end lru_Cache_s_byte_Get

end
end Go.E
