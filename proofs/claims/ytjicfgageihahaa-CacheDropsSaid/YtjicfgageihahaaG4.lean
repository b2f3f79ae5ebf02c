/- Printed by this project's own gen.py: the shallow forms of Go functions over the logic H, and that the machine meets them. -/
import Derived.Test.YtjicfgageihahaaH7
import Derived.Test.YtjicfgageihahaaProg
set_option linter.unusedVariables false
set_option maxRecDepth 100000
namespace Go.E
open Go.H
noncomputable section
noncomputable abbrev P : Program := Go.Proofs.Try.prog
theorem follows : P.follows .mixedOrders = true := by kernel_rfl
abbrev T_ : TypeId := 0
abbrev T_2_int_bool : TypeId := 38
abbrev T_arr0_ptr_runtime_PanicNilError : TypeId := 98
abbrev T_arr256_int : TypeId := 36
abbrev T_arr2_int : TypeId := 35
abbrev T_bool : TypeId := 4
abbrev T_eyotref3_Cache : TypeId := 51
abbrev T_int : TypeId := 3
abbrev T_int32 : TypeId := 21
abbrev T_int64 : TypeId := 2
abbrev T_int_bool : TypeId := 26
abbrev T_internal_abi_BoundsErrorCode : TypeId := 6
abbrev T_internal_abi_Kind : TypeId := 104
abbrev T_internal_abi_NameOff : TypeId := 107
abbrev T_internal_abi_TFlag : TypeId := 103
abbrev T_internal_abi_Type : TypeId := 110
abbrev T_internal_abi_TypeOff : TypeId := 108
abbrev T_internal_runtime_maps_unhashableTypeError : TypeId := 19
abbrev T_lru_Cache_2_int : TypeId := 68
abbrev T_lru_Cache_int : TypeId := 60
abbrev T_lru_Cache_string : TypeId := 55
abbrev T_lru_entry_2_int : TypeId := 71
abbrev T_lru_entry_int : TypeId := 63
abbrev T_lru_entry_string : TypeId := 74
abbrev T_ptr_eyotref3_Cache : TypeId := 49
abbrev T_ptr_internal_abi_Type : TypeId := 17
abbrev T_ptr_lru_Cache_2_int : TypeId := 33
abbrev T_ptr_lru_Cache_int : TypeId := 24
abbrev T_ptr_lru_Cache_string : TypeId := 41
abbrev T_ptr_runtime_PanicNilError : TypeId := 16
abbrev T_ptr_runtime_TypeAssertionError : TypeId := 15
abbrev T_ptr_uint8 : TypeId := 106
abbrev T_runtime_PanicNilError : TypeId := 100
abbrev T_runtime_TypeAssertionError : TypeId := 97
abbrev T_runtime_boundsError : TypeId := 8
abbrev T_runtime_errorAddressString : TypeId := 14
abbrev T_runtime_errorString : TypeId := 10
abbrev T_runtime_plainError : TypeId := 11
abbrev T_sl_int : TypeId := 29
abbrev T_sl_lru_entry_2_int : TypeId := 66
abbrev T_sl_lru_entry_int : TypeId := 58
abbrev T_sl_lru_entry_string : TypeId := 53
abbrev T_sl_uint16 : TypeId := 48
abbrev T_sl_uint8 : TypeId := 22
abbrev T_string : TypeId := 9
abbrev T_string_bool : TypeId := 43
abbrev T_struct109 : TypeId := 109
abbrev T_struct13 : TypeId := 13
abbrev T_struct18 : TypeId := 18
abbrev T_struct50 : TypeId := 50
abbrev T_struct54 : TypeId := 54
abbrev T_struct59 : TypeId := 59
abbrev T_struct62 : TypeId := 62
abbrev T_struct67 : TypeId := 67
abbrev T_struct7 : TypeId := 7
abbrev T_struct70 : TypeId := 70
abbrev T_struct73 : TypeId := 73
abbrev T_struct96 : TypeId := 96
abbrev T_struct99 : TypeId := 99
abbrev T_t1 : TypeId := 1
abbrev T_t101 : TypeId := 101
abbrev T_t105 : TypeId := 105
abbrev T_t20 : TypeId := 20
abbrev T_t23 : TypeId := 23
abbrev T_t25 : TypeId := 25
abbrev T_t27 : TypeId := 27
abbrev T_t28 : TypeId := 28
abbrev T_t30 : TypeId := 30
abbrev T_t31 : TypeId := 31
abbrev T_t32 : TypeId := 32
abbrev T_t34 : TypeId := 34
abbrev T_t37 : TypeId := 37
abbrev T_t39 : TypeId := 39
abbrev T_t40 : TypeId := 40
abbrev T_t42 : TypeId := 42
abbrev T_t44 : TypeId := 44
abbrev T_t45 : TypeId := 45
abbrev T_t46 : TypeId := 46
abbrev T_t47 : TypeId := 47
abbrev T_t56 : TypeId := 56
abbrev T_t57 : TypeId := 57
abbrev T_t61 : TypeId := 61
abbrev T_t64 : TypeId := 64
abbrev T_t65 : TypeId := 65
abbrev T_t69 : TypeId := 69
abbrev T_t72 : TypeId := 72
abbrev T_t75 : TypeId := 75
abbrev T_t76 : TypeId := 76
abbrev T_t77 : TypeId := 77
abbrev T_t78 : TypeId := 78
abbrev T_t79 : TypeId := 79
abbrev T_t80 : TypeId := 80
abbrev T_t81 : TypeId := 81
abbrev T_t82 : TypeId := 82
abbrev T_t83 : TypeId := 83
abbrev T_t84 : TypeId := 84
abbrev T_t85 : TypeId := 85
abbrev T_t86 : TypeId := 86
abbrev T_t87 : TypeId := 87
abbrev T_t88 : TypeId := 88
abbrev T_t89 : TypeId := 89
abbrev T_t90 : TypeId := 90
abbrev T_t91 : TypeId := 91
abbrev T_t92 : TypeId := 92
abbrev T_t93 : TypeId := 93
abbrev T_t94 : TypeId := 94
abbrev T_t95 : TypeId := 95
abbrev T_uint16 : TypeId := 52
abbrev T_uint32 : TypeId := 102
abbrev T_uint8 : TypeId := 5
abbrev T_uintptr : TypeId := 12
abbrev T_unsafe_Pointer : TypeId := 111
namespace slices_overlaps_lru_entry_int
def id : FuncId := 48
end slices_overlaps_lru_entry_int
namespace slices_overlaps_lru_entry_2_int
def id : FuncId := 50
end slices_overlaps_lru_entry_2_int
namespace slices_overlaps_lru_entry_string
def id : FuncId := 52
end slices_overlaps_lru_entry_string
def eyotlaw4_CacheLast.id : FuncId := 3
def eyotlaw4_CacheValues.id : FuncId := 4
def eyotlaw4_CacheFull.id : FuncId := 5
def eyotlaw4_CacheAll.id : FuncId := 6
def eyotlaw4_CacheDrops.id : FuncId := 7
def eyotlaw4_begun.id : FuncId := 8
def lru_New_int.id : FuncId := 9
def lru_Cache_int_Get.id : FuncId := 10
def lru_Cache_int_Put.id : FuncId := 11
def eyotref13_SameInts.id : FuncId := 12
def lru_Cache_int_Keys.id : FuncId := 13
def lru_New_2_int.id : FuncId := 14
def lru_Cache_2_int_Put.id : FuncId := 15
def lru_Cache_2_int_Get.id : FuncId := 16
def lru_New_string.id : FuncId := 17
def lru_Cache_string_Keys.id : FuncId := 18
def lru_Cache_string_Get.id : FuncId := 19
def lru_Cache_string_Put.id : FuncId := 20
def lru_Cache_string_Drop.id : FuncId := 21
def eyotref3_Cache_Put.id : FuncId := 22
def eyotref3_Cache_Get.id : FuncId := 23
def lru_Cache_int_Drop.id : FuncId := 24
def eyotref3_Cache_Drop.id : FuncId := 25
def lru_Cache_int_Clear.id : FuncId := 26
def lru_Cache_string_Clear.id : FuncId := 27
def lru_Cache_int_at.id : FuncId := 28
def slices_Delete_s_lru_entry_int_lru_entry_int.id : FuncId := 29
def lru_Cache_int_front.id : FuncId := 30
def lru_Cache_2_int_Drop.id : FuncId := 31
def lru_Cache_2_int_front.id : FuncId := 32
def lru_Cache_2_int_at.id : FuncId := 33
def slices_Delete_s_lru_entry_2_int_lru_entry_2_int.id : FuncId := 34
def lru_Cache_string_at.id : FuncId := 35
def slices_Delete_s_lru_entry_string_lru_entry_string.id : FuncId := 36
def lru_Cache_string_front.id : FuncId := 37
def eyotref3_Cache_at.id : FuncId := 38
def slices_IndexFunc_s_lru_entry_int_lru_entry_int.id : FuncId := 39
def lru_Cache_int_at_1.id : FuncId := 40
def slices_Insert_s_lru_entry_int_lru_entry_int.id : FuncId := 41
def slices_Insert_s_lru_entry_2_int_lru_entry_2_int.id : FuncId := 42
def slices_IndexFunc_s_lru_entry_2_int_lru_entry_2_int.id : FuncId := 43
def lru_Cache_2_int_at_1.id : FuncId := 44
def slices_IndexFunc_s_lru_entry_string_lru_entry_string.id : FuncId := 45
def lru_Cache_string_at_1.id : FuncId := 46
def slices_Insert_s_lru_entry_string_lru_entry_string.id : FuncId := 47
def slices_rotateRight_lru_entry_int.id : FuncId := 49
def slices_rotateRight_lru_entry_2_int.id : FuncId := 51
def slices_rotateRight_lru_entry_string.id : FuncId := 53
def slices_rotateLeft_lru_entry_int.id : FuncId := 54
def slices_rotateLeft_lru_entry_2_int.id : FuncId := 55
def slices_rotateLeft_lru_entry_string.id : FuncId := 56
def slices_Reverse_s_lru_entry_int_lru_entry_int.id : FuncId := 57
def slices_Reverse_s_lru_entry_2_int_lru_entry_2_int.id : FuncId := 58
def slices_Reverse_s_lru_entry_string_lru_entry_string.id : FuncId := 59
/-! ### eyot/eyotlaw4.CacheLast -/
namespace eyotlaw4_CacheLast
noncomputable def fn : Func := Go.Proofs.Try.f3
noncomputable def body : Code := fn.body.getD .skip
def od : Nat → Ord := fun _ => .done
def tb : Nat → Tab := fun _ => (0, [], [])
def k5E (K : Option Addr → Nat → Nat → Int → Option Addr → Option Addr → Nat → Nat → Int → Int → Bool → Mem → Prop) : Env → Mem → Prop := fun ρ m => UnS (ρ 1) fun x1a x1l x1c => UnI (ρ 5) .i64 fun x5 => UnP (ρ 6) fun x6 => UnS (ρ 11) fun x11a x11l x11c => UnI (ρ 12) .i64 fun x12 => UnI (ρ 13) .i64 fun x13 => UnB (ρ 14) fun x14 => K x1a x1l x1c x5 x6 x11a x11l x11c x12 x13 x14 m
def k5 (K3 : Option Addr → Nat → Nat → Int → Option Addr → Option Addr → Nat → Nat → Int → Mem → Prop) (x1a : Option Addr) (x1l : Nat) (x1c : Nat) (x5 : Int) (x6 : Option Addr) (x11a : Option Addr) (x11l : Nat) (x11c : Nat) (x12 : Int) (x13 : Int) (x14 : Bool) (R : Ending → Mem → Prop) (m : Mem) : Prop :=
  Br (!x14) (
    NewC m #[.int .i64 x13] T_int fun b89 m1 =>
    BiN P .append #[T_sl_int, T_sl_int] T_sl_int #[false, false] #[.slice x11a x11l x11c, .slice (some ⟨b89, 0, none⟩) 1 1] m1 (fun w m2 =>
      UnS w fun x90a x90l x90c =>
      K3 x1a x1l x1c x5 x6 x90a x90l x90c (IntKind.i64.wrap (x12 - 1)) m2) (panicR R)) (
    K3 x1a x1l x1c x5 x6 x11a x11l x11c (IntKind.i64.wrap (x12 - 1)) m)
noncomputable def k5A (K3 : Option Addr → Nat → Nat → Int → Option Addr → Option Addr → Nat → Nat → Int → Mem → Prop) (R : Ending → Mem → Prop) : ACode := (.code (sR (sR (bB (sL (sR (lP (bB (sR (sL (sR (sR (sR (sR (sR (sR (sR (body))))))))))))))))))
def l4E (K : Option Addr → Nat → Nat → Int → Option Addr → Option Addr → Nat → Nat → Int → Int → Bool → Int → Mem → Prop) : Env → Mem → Prop := fun ρ m => UnS (ρ 1) fun x1a x1l x1c => UnI (ρ 5) .i64 fun x5 => UnP (ρ 6) fun x6 => UnS (ρ 11) fun x11a x11l x11c => UnI (ρ 12) .i64 fun x12 => UnI (ρ 13) .i64 fun x13 => UnB (ρ 14) fun x14 => UnI (ρ 15) .i64 fun x15 => K x1a x1l x1c x5 x6 x11a x11l x11c x12 x13 x14 x15 m
def l4B (K3 : Option Addr → Nat → Nat → Int → Option Addr → Option Addr → Nat → Nat → Int → Mem → Prop) (K4 : Option Addr → Nat → Nat → Int → Option Addr → Option Addr → Nat → Nat → Int → Int → Bool → Int → Mem → Prop) (x1a : Option Addr) (x1l : Nat) (x1c : Nat) (x5 : Int) (x6 : Option Addr) (x11a : Option Addr) (x11l : Nat) (x11c : Nat) (x12 : Int) (x13 : Int) (x14 : Bool) (x15 : Int) (R : Ending → Mem → Prop) (m : Mem) : Prop :=
  Br (decide (x15 < ((x11l : Nat) : Int))) (
    Br x14 (
      K4 x1a x1l x1c x5 x6 x11a x11l x11c x12 x13 true (IntKind.i64.wrap (x15 + 1)) m) (
      IxS x11a x11l x15 1 fun x80b x80o =>
      LdV m x80b x80o fun v =>
      UnI v .i64 fun x81 =>
      K4 x1a x1l x1c x5 x6 x11a x11l x11c x12 x13 (x81 == x13) (IntKind.i64.wrap (x15 + 1)) m)) (
    k5 K3 x1a x1l x1c x5 x6 x11a x11l x11c x12 x13 x14 R m)
def l4 (K3 : Option Addr → Nat → Nat → Int → Option Addr → Option Addr → Nat → Nat → Int → Mem → Prop) (x1a : Option Addr) (x1l : Nat) (x1c : Nat) (x5 : Int) (x6 : Option Addr) (x11a : Option Addr) (x11l : Nat) (x11c : Nat) (x12 : Int) (x13 : Int) (x14 : Bool) (x15 : Int) (R : Ending → Mem → Prop) (m : Mem) : Prop :=
  ∃ (I : Nat → Option Addr → Nat → Nat → Int → Option Addr → Option Addr → Nat → Nat → Int → Int → Bool → Int → Mem → Prop) (N : Nat), I N x1a x1l x1c x5 x6 x11a x11l x11c x12 x13 x14 x15 m ∧ ∀ N x1a x1l x1c x5 x6 x11a x11l x11c x12 x13 x14 x15 m, I N x1a x1l x1c x5 x6 x11a x11l x11c x12 x13 x14 x15 m → l4B K3 (fun x1a x1l x1c x5 x6 x11a x11l x11c x12 x13 x14 x15 m => ∃ N1, N1 < N ∧ I N1 x1a x1l x1c x5 x6 x11a x11l x11c x12 x13 x14 x15 m) x1a x1l x1c x5 x6 x11a x11l x11c x12 x13 x14 x15 R m
noncomputable def l4A (K3 : Option Addr → Nat → Nat → Int → Option Addr → Option Addr → Nat → Nat → Int → Mem → Prop) (K4 : Option Addr → Nat → Nat → Int → Option Addr → Option Addr → Nat → Nat → Int → Int → Bool → Int → Mem → Prop) (R : Ending → Mem → Prop) : ACode := (.code (lP (bB (sR (sL (sR (bB (sL (sR (lP (bB (sR (sL (sR (sR (sR (sR (sR (sR (sR (body)))))))))))))))))))))
def k6E (K : Option Addr → Option Addr → Nat → Nat → Mem → Prop) : Env → Mem → Prop := fun ρ m => UnP (ρ 6) fun x6 => UnS (ρ 11) fun x11a x11l x11c => K x6 x11a x11l x11c m
def k6  (x6 : Option Addr) (x11a : Option Addr) (x11l : Nat) (x11c : Nat) (R : Ending → Mem → Prop) (m : Mem) : Prop :=
  HC P lru_Cache_int_Keys.id #[.pointer x6] m (Cont (fun v m1 =>
      UnS v fun x92a x92l x92c =>
      HC P eyotref13_SameInts.id #[.slice x92a x92l x92c, .slice x11a x11l x11c] m1 (Cont (fun v m2 =>
          UnB v fun x94 =>
          R (.returned (.bool x94)) m2) (panicR R))) (panicR R))
noncomputable def k6A  (R : Ending → Mem → Prop) : ACode := (.code (sR (sR (sR (sR (sR (sR (sR (sR (body))))))))))
def l3E (K : Option Addr → Nat → Nat → Int → Option Addr → Option Addr → Nat → Nat → Int → Mem → Prop) : Env → Mem → Prop := fun ρ m => UnS (ρ 1) fun x1a x1l x1c => UnI (ρ 5) .i64 fun x5 => UnP (ρ 6) fun x6 => UnS (ρ 11) fun x11a x11l x11c => UnI (ρ 12) .i64 fun x12 => K x1a x1l x1c x5 x6 x11a x11l x11c x12 m
def l3B  (K3 : Option Addr → Nat → Nat → Int → Option Addr → Option Addr → Nat → Nat → Int → Mem → Prop) (x1a : Option Addr) (x1l : Nat) (x1c : Nat) (x5 : Int) (x6 : Option Addr) (x11a : Option Addr) (x11l : Nat) (x11c : Nat) (x12 : Int) (R : Ending → Mem → Prop) (m : Mem) : Prop :=
  Br (decide (x12 ≥ 0)) (
    Br (decide (((x11l : Nat) : Int) < x5)) (
      IxS x1a x1l x12 1 fun x66b x66o =>
      LdV m x66b x66o fun v =>
      UnI v .u8 fun x67 =>
      l4 K3 x1a x1l x1c x5 x6 x11a x11l x11c x12 (IntKind.i64.wrap (Int.tmod x67 16)) false 0 R m) (
      k6  x6 x11a x11l x11c R m)) (
    k6  x6 x11a x11l x11c R m)
def l3  (x1a : Option Addr) (x1l : Nat) (x1c : Nat) (x5 : Int) (x6 : Option Addr) (x11a : Option Addr) (x11l : Nat) (x11c : Nat) (x12 : Int) (R : Ending → Mem → Prop) (m : Mem) : Prop :=
  ∃ (I : Nat → Option Addr → Nat → Nat → Int → Option Addr → Option Addr → Nat → Nat → Int → Mem → Prop) (N : Nat), I N x1a x1l x1c x5 x6 x11a x11l x11c x12 m ∧ ∀ N x1a x1l x1c x5 x6 x11a x11l x11c x12 m, I N x1a x1l x1c x5 x6 x11a x11l x11c x12 m → l3B  (fun x1a x1l x1c x5 x6 x11a x11l x11c x12 m => ∃ N1, N1 < N ∧ I N1 x1a x1l x1c x5 x6 x11a x11l x11c x12 m) x1a x1l x1c x5 x6 x11a x11l x11c x12 R m
noncomputable def l3A  (K3 : Option Addr → Nat → Nat → Int → Option Addr → Option Addr → Nat → Nat → Int → Mem → Prop) (R : Ending → Mem → Prop) : ACode := (.seq (.code (sL (lP (bB (sR (sL (sR (sR (sR (sR (sR (sR (sR (body)))))))))))))) (.seq (.block 3 (.seq (.code (sL (bB (sL (sR (lP (bB (sR (sL (sR (sR (sR (sR (sR (sR (sR (body))))))))))))))))) (.seq (.seq (.code (sL (sL (sR (bB (sL (sR (lP (bB (sR (sL (sR (sR (sR (sR (sR (sR (sR (body))))))))))))))))))) (.block 4 (.cut (l4E fun x1a x1l x1c x5 x6 x11a x11l x11c x12 x13 x14 x15 m => l4 K3 x1a x1l x1c x5 x6 x11a x11l x11c x12 x13 x14 x15 R m) (.loop (lP (bB (sR (sL (sR (bB (sL (sR (lP (bB (sR (sL (sR (sR (sR (sR (sR (sR (sR (body)))))))))))))))))))))))) (.cut (k5E fun x1a x1l x1c x5 x6 x11a x11l x11c x12 x13 x14 m => k5 K3 x1a x1l x1c x5 x6 x11a x11l x11c x12 x13 x14 R m) (sR (sR (bB (sL (sR (lP (bB (sR (sL (sR (sR (sR (sR (sR (sR (sR (body))))))))))))))))))))) (.code (sR (sR (lP (bB (sR (sL (sR (sR (sR (sR (sR (sR (sR (body)))))))))))))))))
def k2E (K : Option Addr → Nat → Nat → Int → Option Addr → Mem → Prop) : Env → Mem → Prop := fun ρ m => UnS (ρ 1) fun x1a x1l x1c => UnI (ρ 5) .i64 fun x5 => UnP (ρ 6) fun x6 => K x1a x1l x1c x5 x6 m
def k2  (x1a : Option Addr) (x1l : Nat) (x1c : Nat) (x5 : Int) (x6 : Option Addr) (R : Ending → Mem → Prop) (m : Mem) : Prop :=
  l3  x1a x1l x1c x5 x6 none 0 0 (IntKind.i64.wrap (((x1l : Nat) : Int) - 1)) R m
noncomputable def k2A  (R : Ending → Mem → Prop) : ACode := (.seq (.code (sL (sR (sR (sR (sR (sR (sR (body))))))))) (.seq (.seq (.code (sL (sL (sR (sR (sR (sR (sR (sR (sR (body))))))))))) (.block 2 (.cut (l3E fun x1a x1l x1c x5 x6 x11a x11l x11c x12 m => l3  x1a x1l x1c x5 x6 x11a x11l x11c x12 R m) (.loop (lP (bB (sR (sL (sR (sR (sR (sR (sR (sR (sR (body)))))))))))))))) (.cut (k6E fun x6 x11a x11l x11c m => k6  x6 x11a x11l x11c R m) (sR (sR (sR (sR (sR (sR (sR (sR (body))))))))))))
def l1E (K : Option Addr → Nat → Nat → Int → Option Addr → Int → Mem → Prop) : Env → Mem → Prop := fun ρ m => UnS (ρ 1) fun x1a x1l x1c => UnI (ρ 5) .i64 fun x5 => UnP (ρ 6) fun x6 => UnI (ρ 7) .i64 fun x7 => K x1a x1l x1c x5 x6 x7 m
def l1B  (K1 : Option Addr → Nat → Nat → Int → Option Addr → Int → Mem → Prop) (x1a : Option Addr) (x1l : Nat) (x1c : Nat) (x5 : Int) (x6 : Option Addr) (x7 : Int) (R : Ending → Mem → Prop) (m : Mem) : Prop :=
  Br (decide (x7 < ((x1l : Nat) : Int))) (
    IxS x1a x1l x7 1 fun x35b x35o =>
    LdV m x35b x35o fun v =>
    UnI v .u8 fun x36 =>
    HC P lru_Cache_int_Get.id #[.pointer x6, .int .i64 (IntKind.i64.wrap (Int.tmod x36 16))] m (Cont (fun v m1 =>
        UnTup v fun us0 =>
        UnCons us0 fun w us1 =>
        UnI w .i64 fun x42_0 =>
        UnCons us1 fun w us2 =>
        UnB w fun x42_1 =>
        UnNil us2 (
          Br (!x42_1) (
            HC P lru_Cache_int_Put.id #[.pointer x6, .int .i64 (IntKind.i64.wrap (Int.tmod x36 16)), .int .i64 x7] m1 (Cont (fun v m2 =>
                UnTup v fun us0 =>
                UnCons us0 fun w us1 =>
                UnI w .i64 fun x50_0 =>
                UnCons us1 fun w us2 =>
                UnB w fun x50_1 =>
                UnNil us2 (
                  K1 x1a x1l x1c x5 x6 (IntKind.i64.wrap (x7 + 1)) m2)) (panicR R))) (
            K1 x1a x1l x1c x5 x6 (IntKind.i64.wrap (x7 + 1)) m1))) (panicR R))) (
    k2  x1a x1l x1c x5 x6 R m)
def l1  (x1a : Option Addr) (x1l : Nat) (x1c : Nat) (x5 : Int) (x6 : Option Addr) (x7 : Int) (R : Ending → Mem → Prop) (m : Mem) : Prop :=
  ∃ (I : Nat → Option Addr → Nat → Nat → Int → Option Addr → Int → Mem → Prop) (N : Nat), I N x1a x1l x1c x5 x6 x7 m ∧ ∀ N x1a x1l x1c x5 x6 x7 m, I N x1a x1l x1c x5 x6 x7 m → l1B  (fun x1a x1l x1c x5 x6 x7 m => ∃ N1, N1 < N ∧ I N1 x1a x1l x1c x5 x6 x7 m) x1a x1l x1c x5 x6 x7 R m
noncomputable def l1A  (K1 : Option Addr → Nat → Nat → Int → Option Addr → Int → Mem → Prop) (R : Ending → Mem → Prop) : ACode := (.code (lP (bB (sR (sL (sR (sR (sR (sR (sR (body)))))))))))
def e0 (a0 : Int) (a1a : Option Addr) (a1l : Nat) (a1c : Nat) (R : Ending → Mem → Prop) (m : Mem) : Prop :=
  HC P eyotlaw4_begun.id #[] m (Cont (fun v m1 =>
      UnB v fun x16 =>
      Br (!x16) (
        R (.returned (.bool false)) m1) (
        Br (decide (((a1l : Nat) : Int) > 80)) (
          R (.returned (.bool true)) m1) (
          HC P lru_New_int.id #[.int .i64 (IntKind.i64.wrap (1 + (IntKind.i64.wrap (Int.tmod a0 10))))] m1 (Cont (fun v m2 =>
              UnP v fun x26 =>
              l1  a1a a1l a1c (IntKind.i64.wrap (1 + (IntKind.i64.wrap (Int.tmod a0 10)))) x26 0 R m2) (panicR R))))) (panicR R))
noncomputable def e0A (R : Ending → Mem → Prop) : ACode := (.seq (.code (sL (body))) (.seq (.code (sL (sR (body)))) (.seq (.code (sL (sR (sR (body))))) (.seq (.code (sL (sR (sR (sR (body)))))) (.seq (.code (sL (sR (sR (sR (sR (body))))))) (.seq (.seq (.code (sL (sL (sR (sR (sR (sR (sR (body))))))))) (.block 0 (.cut (l1E fun x1a x1l x1c x5 x6 x7 m => l1  x1a x1l x1c x5 x6 x7 R m) (.loop (lP (bB (sR (sL (sR (sR (sR (sR (sR (body)))))))))))))) (.cut (k2E fun x1a x1l x1c x5 x6 m => k2  x1a x1l x1c x5 x6 R m) (sR (sR (sR (sR (sR (sR (body))))))))))))))
theorem k5_eq (K3 : Option Addr → Nat → Nat → Int → Option Addr → Option Addr → Nat → Nat → Int → Mem → Prop) (R : Ending → Mem → Prop) (x1a : Option Addr) (x1l : Nat) (x1c : Nat) (x5 : Int) (x6 : Option Addr) (x11a : Option Addr) (x11l : Nat) (x11c : Nat) (x12 : Int) (x13 : Int) (x14 : Bool) (ρ : Env) (m : Mem) : k5 K3 x1a x1l x1c x5 x6 x11a x11l x11c x12 x13 x14 R m = acpt P od (panicR R) (k5A K3 R) (blockQ 3 (thenQ (acpt P od (panicR R) (.code (sR (sR (lP (bB (sR (sL (sR (sR (sR (sR (sR (sR (sR (body))))))))))))))) (thenQ (l3E K3) (blockQ 2 (thenQ (acpt P od (panicR R) (.cut (k6E fun x6 x11a x11l x11c m => k6  x6 x11a x11l x11c R m) (sR (sR (sR (sR (sR (sR (sR (sR (body)))))))))) (bodyQ P fn R)) (bodyQ P fn R))))) (thenQ (l3E K3) (blockQ 2 (thenQ (acpt P od (panicR R) (.cut (k6E fun x6 x11a x11l x11c m => k6  x6 x11a x11l x11c R m) (sR (sR (sR (sR (sR (sR (sR (sR (body)))))))))) (bodyQ P fn R)) (bodyQ P fn R)))))) (upd (upd (upd (upd (upd (upd (upd ρ 14 (.bool x14)) 13 (.int .i64 x13)) 12 (.int .i64 x12)) 11 (.slice x11a x11l x11c)) 6 (.pointer x6)) 5 (.int .i64 x5)) 1 (.slice x1a x1l x1c)) m := by kernel_rfl
theorem k5_er (K3 : Option Addr → Nat → Nat → Int → Option Addr → Option Addr → Nat → Nat → Int → Mem → Prop) (R : Ending → Mem → Prop) : (k5A K3 R).erase = sR (sR (bB (sL (sR (lP (bB (sR (sL (sR (sR (sR (sR (sR (sR (sR (body)))))))))))))))) := by kernel_rfl
theorem k5_ok (K3 : Option Addr → Nat → Nat → Int → Option Addr → Option Addr → Nat → Nat → Int → Mem → Prop) (R : Ending → Mem → Prop) (ρ : Env) (m : Mem) (h : (k5E fun x1a x1l x1c x5 x6 x11a x11l x11c x12 x13 x14 m => k5 K3 x1a x1l x1c x5 x6 x11a x11l x11c x12 x13 x14 R m) ρ m) : cpt P od (panicR R) (sR (sR (bB (sL (sR (lP (bB (sR (sL (sR (sR (sR (sR (sR (sR (sR (body))))))))))))))))) (blockQ 3 (thenQ (acpt P od (panicR R) (.code (sR (sR (lP (bB (sR (sL (sR (sR (sR (sR (sR (sR (sR (body))))))))))))))) (thenQ (l3E K3) (blockQ 2 (thenQ (acpt P od (panicR R) (.cut (k6E fun x6 x11a x11l x11c m => k6  x6 x11a x11l x11c R m) (sR (sR (sR (sR (sR (sR (sR (sR (body)))))))))) (bodyQ P fn R)) (bodyQ P fn R))))) (thenQ (l3E K3) (blockQ 2 (thenQ (acpt P od (panicR R) (.cut (k6E fun x6 x11a x11l x11c m => k6  x6 x11a x11l x11c R m) (sR (sR (sR (sR (sR (sR (sR (sR (body)))))))))) (bodyQ P fn R)) (bodyQ P fn R)))))) ρ m := by
  unfold k5E at h
  obtain ⟨x1a, x1l, x1c, e1, h⟩ := h.ex
  obtain ⟨x5, e5, h⟩ := h.ex
  obtain ⟨x6, e6, h⟩ := h.ex
  obtain ⟨x11a, x11l, x11c, e11, h⟩ := h.ex
  obtain ⟨x12, e12, h⟩ := h.ex
  obtain ⟨x13, e13, h⟩ := h.ex
  obtain ⟨x14, e14, h⟩ := h.ex
  rw [← upd_self e1, ← upd_self e5, ← upd_self e6, ← upd_self e11, ← upd_self e12, ← upd_self e13, ← upd_self e14]
  rw [← k5_er K3 R]
  refine acpt_sound (P := P) (k5A K3 R) _ _ _ True.intro ?_
  exact Eq.mp (k5_eq K3 R x1a x1l x1c x5 x6 x11a x11l x11c x12 x13 x14 ρ m) h
theorem l4_eq (K3 : Option Addr → Nat → Nat → Int → Option Addr → Option Addr → Nat → Nat → Int → Mem → Prop) (K4 : Option Addr → Nat → Nat → Int → Option Addr → Option Addr → Nat → Nat → Int → Int → Bool → Int → Mem → Prop) (R : Ending → Mem → Prop) (x1a : Option Addr) (x1l : Nat) (x1c : Nat) (x5 : Int) (x6 : Option Addr) (x11a : Option Addr) (x11l : Nat) (x11c : Nat) (x12 : Int) (x13 : Int) (x14 : Bool) (x15 : Int) (ρ : Env) (m : Mem) : l4B K3 K4 x1a x1l x1c x5 x6 x11a x11l x11c x12 x13 x14 x15 R m = acpt P od (panicR R) (l4A K3 K4 R) (thenQ (l4E K4) (blockQ 4 (thenQ (acpt P od (panicR R) (.cut (k5E fun x1a x1l x1c x5 x6 x11a x11l x11c x12 x13 x14 m => k5 K3 x1a x1l x1c x5 x6 x11a x11l x11c x12 x13 x14 R m) (sR (sR (bB (sL (sR (lP (bB (sR (sL (sR (sR (sR (sR (sR (sR (sR (body)))))))))))))))))) (blockQ 3 (thenQ (acpt P od (panicR R) (.code (sR (sR (lP (bB (sR (sL (sR (sR (sR (sR (sR (sR (sR (body))))))))))))))) (thenQ (l3E K3) (blockQ 2 (thenQ (acpt P od (panicR R) (.cut (k6E fun x6 x11a x11l x11c m => k6  x6 x11a x11l x11c R m) (sR (sR (sR (sR (sR (sR (sR (sR (body)))))))))) (bodyQ P fn R)) (bodyQ P fn R))))) (thenQ (l3E K3) (blockQ 2 (thenQ (acpt P od (panicR R) (.cut (k6E fun x6 x11a x11l x11c m => k6  x6 x11a x11l x11c R m) (sR (sR (sR (sR (sR (sR (sR (sR (body)))))))))) (bodyQ P fn R)) (bodyQ P fn R))))))) (blockQ 3 (thenQ (acpt P od (panicR R) (.code (sR (sR (lP (bB (sR (sL (sR (sR (sR (sR (sR (sR (sR (body))))))))))))))) (thenQ (l3E K3) (blockQ 2 (thenQ (acpt P od (panicR R) (.cut (k6E fun x6 x11a x11l x11c m => k6  x6 x11a x11l x11c R m) (sR (sR (sR (sR (sR (sR (sR (sR (body)))))))))) (bodyQ P fn R)) (bodyQ P fn R))))) (thenQ (l3E K3) (blockQ 2 (thenQ (acpt P od (panicR R) (.cut (k6E fun x6 x11a x11l x11c m => k6  x6 x11a x11l x11c R m) (sR (sR (sR (sR (sR (sR (sR (sR (body)))))))))) (bodyQ P fn R)) (bodyQ P fn R))))))))) (upd (upd (upd (upd (upd (upd (upd (upd ρ 15 (.int .i64 x15)) 14 (.bool x14)) 13 (.int .i64 x13)) 12 (.int .i64 x12)) 11 (.slice x11a x11l x11c)) 6 (.pointer x6)) 5 (.int .i64 x5)) 1 (.slice x1a x1l x1c)) m := by kernel_rfl
theorem l4_er (K3 : Option Addr → Nat → Nat → Int → Option Addr → Option Addr → Nat → Nat → Int → Mem → Prop) (K4 : Option Addr → Nat → Nat → Int → Option Addr → Option Addr → Nat → Nat → Int → Int → Bool → Int → Mem → Prop) (R : Ending → Mem → Prop) : (l4A K3 K4 R).erase = lP (bB (sR (sL (sR (bB (sL (sR (lP (bB (sR (sL (sR (sR (sR (sR (sR (sR (sR (body))))))))))))))))))) := by kernel_rfl
theorem l4_ok (K3 : Option Addr → Nat → Nat → Int → Option Addr → Option Addr → Nat → Nat → Int → Mem → Prop) (R : Ending → Mem → Prop) (ρ : Env) (m : Mem) (h : (l4E fun x1a x1l x1c x5 x6 x11a x11l x11c x12 x13 x14 x15 m => l4 K3 x1a x1l x1c x5 x6 x11a x11l x11c x12 x13 x14 x15 R m) ρ m) : cpt P od (panicR R) (.loop (lP (bB (sR (sL (sR (bB (sL (sR (lP (bB (sR (sL (sR (sR (sR (sR (sR (sR (sR (body))))))))))))))))))))) (blockQ 4 (thenQ (acpt P od (panicR R) (.cut (k5E fun x1a x1l x1c x5 x6 x11a x11l x11c x12 x13 x14 m => k5 K3 x1a x1l x1c x5 x6 x11a x11l x11c x12 x13 x14 R m) (sR (sR (bB (sL (sR (lP (bB (sR (sL (sR (sR (sR (sR (sR (sR (sR (body)))))))))))))))))) (blockQ 3 (thenQ (acpt P od (panicR R) (.code (sR (sR (lP (bB (sR (sL (sR (sR (sR (sR (sR (sR (sR (body))))))))))))))) (thenQ (l3E K3) (blockQ 2 (thenQ (acpt P od (panicR R) (.cut (k6E fun x6 x11a x11l x11c m => k6  x6 x11a x11l x11c R m) (sR (sR (sR (sR (sR (sR (sR (sR (body)))))))))) (bodyQ P fn R)) (bodyQ P fn R))))) (thenQ (l3E K3) (blockQ 2 (thenQ (acpt P od (panicR R) (.cut (k6E fun x6 x11a x11l x11c m => k6  x6 x11a x11l x11c R m) (sR (sR (sR (sR (sR (sR (sR (sR (body)))))))))) (bodyQ P fn R)) (bodyQ P fn R))))))) (blockQ 3 (thenQ (acpt P od (panicR R) (.code (sR (sR (lP (bB (sR (sL (sR (sR (sR (sR (sR (sR (sR (body))))))))))))))) (thenQ (l3E K3) (blockQ 2 (thenQ (acpt P od (panicR R) (.cut (k6E fun x6 x11a x11l x11c m => k6  x6 x11a x11l x11c R m) (sR (sR (sR (sR (sR (sR (sR (sR (body)))))))))) (bodyQ P fn R)) (bodyQ P fn R))))) (thenQ (l3E K3) (blockQ 2 (thenQ (acpt P od (panicR R) (.cut (k6E fun x6 x11a x11l x11c m => k6  x6 x11a x11l x11c R m) (sR (sR (sR (sR (sR (sR (sR (sR (body)))))))))) (bodyQ P fn R)) (bodyQ P fn R)))))))) ρ m := by
  unfold l4E at h
  obtain ⟨x1a, x1l, x1c, e1, h⟩ := h.ex
  obtain ⟨x5, e5, h⟩ := h.ex
  obtain ⟨x6, e6, h⟩ := h.ex
  obtain ⟨x11a, x11l, x11c, e11, h⟩ := h.ex
  obtain ⟨x12, e12, h⟩ := h.ex
  obtain ⟨x13, e13, h⟩ := h.ex
  obtain ⟨x14, e14, h⟩ := h.ex
  obtain ⟨x15, e15, h⟩ := h.ex
  obtain ⟨I, N, h0, hs⟩ := h
  refine ⟨fun N => l4E (I N), N, (by show l4E (I N) ρ m; unfold l4E; rw [e1, e5, e6, e11, e12, e13, e14, e15]; exact h0), ?_⟩
  clear h0 e1 e5 e6 e11 e12 e13 e14 e15
  intro N ρ m h
  unfold l4E at h
  obtain ⟨x1a, x1l, x1c, e1, h⟩ := h.ex
  obtain ⟨x5, e5, h⟩ := h.ex
  obtain ⟨x6, e6, h⟩ := h.ex
  obtain ⟨x11a, x11l, x11c, e11, h⟩ := h.ex
  obtain ⟨x12, e12, h⟩ := h.ex
  obtain ⟨x13, e13, h⟩ := h.ex
  obtain ⟨x14, e14, h⟩ := h.ex
  obtain ⟨x15, e15, h⟩ := h.ex
  refine cpt_mono (P := P) (lP (bB (sR (sL (sR (bB (sL (sR (lP (bB (sR (sL (sR (sR (sR (sR (sR (sR (sR (body)))))))))))))))))))) (Q := thenQ (l4E fun x1a x1l x1c x5 x6 x11a x11l x11c x12 x13 x14 x15 m => ∃ N1, N1 < N ∧ I N1 x1a x1l x1c x5 x6 x11a x11l x11c x12 x13 x14 x15 m) (blockQ 4 (thenQ (acpt P od (panicR R) (.cut (k5E fun x1a x1l x1c x5 x6 x11a x11l x11c x12 x13 x14 m => k5 K3 x1a x1l x1c x5 x6 x11a x11l x11c x12 x13 x14 R m) (sR (sR (bB (sL (sR (lP (bB (sR (sL (sR (sR (sR (sR (sR (sR (sR (body)))))))))))))))))) (blockQ 3 (thenQ (acpt P od (panicR R) (.code (sR (sR (lP (bB (sR (sL (sR (sR (sR (sR (sR (sR (sR (body))))))))))))))) (thenQ (l3E K3) (blockQ 2 (thenQ (acpt P od (panicR R) (.cut (k6E fun x6 x11a x11l x11c m => k6  x6 x11a x11l x11c R m) (sR (sR (sR (sR (sR (sR (sR (sR (body)))))))))) (bodyQ P fn R)) (bodyQ P fn R))))) (thenQ (l3E K3) (blockQ 2 (thenQ (acpt P od (panicR R) (.cut (k6E fun x6 x11a x11l x11c m => k6  x6 x11a x11l x11c R m) (sR (sR (sR (sR (sR (sR (sR (sR (body)))))))))) (bodyQ P fn R)) (bodyQ P fn R))))))) (blockQ 3 (thenQ (acpt P od (panicR R) (.code (sR (sR (lP (bB (sR (sL (sR (sR (sR (sR (sR (sR (sR (body))))))))))))))) (thenQ (l3E K3) (blockQ 2 (thenQ (acpt P od (panicR R) (.cut (k6E fun x6 x11a x11l x11c m => k6  x6 x11a x11l x11c R m) (sR (sR (sR (sR (sR (sR (sR (sR (body)))))))))) (bodyQ P fn R)) (bodyQ P fn R))))) (thenQ (l3E K3) (blockQ 2 (thenQ (acpt P od (panicR R) (.cut (k6E fun x6 x11a x11l x11c m => k6  x6 x11a x11l x11c R m) (sR (sR (sR (sR (sR (sR (sR (sR (body)))))))))) (bodyQ P fn R)) (bodyQ P fn R))))))))) (fun e ρ m h => ?_) ρ m ?_
  · cases e with
    | normal =>
      have h : l4E (fun x1a x1l x1c x5 x6 x11a x11l x11c x12 x13 x14 x15 m => ∃ N1, N1 < N ∧ I N1 x1a x1l x1c x5 x6 x11a x11l x11c x12 x13 x14 x15 m) ρ m := h
      unfold l4E at h
      obtain ⟨x1a, x1l, x1c, e1, h⟩ := h.ex
      obtain ⟨x5, e5, h⟩ := h.ex
      obtain ⟨x6, e6, h⟩ := h.ex
      obtain ⟨x11a, x11l, x11c, e11, h⟩ := h.ex
      obtain ⟨x12, e12, h⟩ := h.ex
      obtain ⟨x13, e13, h⟩ := h.ex
      obtain ⟨x14, e14, h⟩ := h.ex
      obtain ⟨x15, e15, h⟩ := h.ex
      obtain ⟨N1, hlt, h⟩ := h
      exact ⟨N1, hlt, (by show l4E (I N1) ρ m; unfold l4E; rw [e1, e5, e6, e11, e12, e13, e14, e15]; exact h)⟩
    | _ => exact h
  have hh := hs N x1a x1l x1c x5 x6 x11a x11l x11c x12 x13 x14 x15 m h
  generalize (fun x1a x1l x1c x5 x6 x11a x11l x11c x12 x13 x14 x15 m => ∃ N1, N1 < N ∧ I N1 x1a x1l x1c x5 x6 x11a x11l x11c x12 x13 x14 x15 m : Option Addr → Nat → Nat → Int → Option Addr → Option Addr → Nat → Nat → Int → Int → Bool → Int → Mem → Prop) = K4 at hh ⊢
  rw [← upd_self e1, ← upd_self e5, ← upd_self e6, ← upd_self e11, ← upd_self e12, ← upd_self e13, ← upd_self e14, ← upd_self e15]
  rw [← l4_er K3 K4 R]
  refine acpt_sound (P := P) (l4A K3 K4 R) _ _ _ True.intro ?_
  exact Eq.mp (l4_eq K3 K4 R x1a x1l x1c x5 x6 x11a x11l x11c x12 x13 x14 x15 ρ m) hh
theorem k6_eq  (R : Ending → Mem → Prop) (x6 : Option Addr) (x11a : Option Addr) (x11l : Nat) (x11c : Nat) (ρ : Env) (m : Mem) : k6  x6 x11a x11l x11c R m = acpt P od (panicR R) (k6A  R) (bodyQ P fn R) (upd (upd ρ 11 (.slice x11a x11l x11c)) 6 (.pointer x6)) m := by kernel_rfl
theorem k6_er  (R : Ending → Mem → Prop) : (k6A  R).erase = sR (sR (sR (sR (sR (sR (sR (sR (body)))))))) := by kernel_rfl
theorem k6_ok  (R : Ending → Mem → Prop) (ρ : Env) (m : Mem) (h : (k6E fun x6 x11a x11l x11c m => k6  x6 x11a x11l x11c R m) ρ m) : cpt P od (panicR R) (sR (sR (sR (sR (sR (sR (sR (sR (body))))))))) (bodyQ P fn R) ρ m := by
  unfold k6E at h
  obtain ⟨x6, e6, h⟩ := h.ex
  obtain ⟨x11a, x11l, x11c, e11, h⟩ := h.ex
  rw [← upd_self e6, ← upd_self e11]
  rw [← k6_er  R]
  refine acpt_sound (P := P) (k6A  R) _ _ _ True.intro ?_
  exact Eq.mp (k6_eq  R x6 x11a x11l x11c ρ m) h
theorem l3_eq  (K3 : Option Addr → Nat → Nat → Int → Option Addr → Option Addr → Nat → Nat → Int → Mem → Prop) (R : Ending → Mem → Prop) (x1a : Option Addr) (x1l : Nat) (x1c : Nat) (x5 : Int) (x6 : Option Addr) (x11a : Option Addr) (x11l : Nat) (x11c : Nat) (x12 : Int) (ρ : Env) (m : Mem) : l3B  K3 x1a x1l x1c x5 x6 x11a x11l x11c x12 R m = acpt P od (panicR R) (l3A  K3 R) (thenQ (l3E K3) (blockQ 2 (thenQ (acpt P od (panicR R) (.cut (k6E fun x6 x11a x11l x11c m => k6  x6 x11a x11l x11c R m) (sR (sR (sR (sR (sR (sR (sR (sR (body)))))))))) (bodyQ P fn R)) (bodyQ P fn R)))) (upd (upd (upd (upd (upd ρ 12 (.int .i64 x12)) 11 (.slice x11a x11l x11c)) 6 (.pointer x6)) 5 (.int .i64 x5)) 1 (.slice x1a x1l x1c)) m := by kernel_rfl
theorem l3_er  (K3 : Option Addr → Nat → Nat → Int → Option Addr → Option Addr → Nat → Nat → Int → Mem → Prop) (R : Ending → Mem → Prop) : (l3A  K3 R).erase = lP (bB (sR (sL (sR (sR (sR (sR (sR (sR (sR (body))))))))))) := by kernel_rfl
theorem l3_ok  (R : Ending → Mem → Prop) (ρ : Env) (m : Mem) (h : (l3E fun x1a x1l x1c x5 x6 x11a x11l x11c x12 m => l3  x1a x1l x1c x5 x6 x11a x11l x11c x12 R m) ρ m) : cpt P od (panicR R) (.loop (lP (bB (sR (sL (sR (sR (sR (sR (sR (sR (sR (body))))))))))))) (blockQ 2 (thenQ (acpt P od (panicR R) (.cut (k6E fun x6 x11a x11l x11c m => k6  x6 x11a x11l x11c R m) (sR (sR (sR (sR (sR (sR (sR (sR (body)))))))))) (bodyQ P fn R)) (bodyQ P fn R))) ρ m := by
  unfold l3E at h
  obtain ⟨x1a, x1l, x1c, e1, h⟩ := h.ex
  obtain ⟨x5, e5, h⟩ := h.ex
  obtain ⟨x6, e6, h⟩ := h.ex
  obtain ⟨x11a, x11l, x11c, e11, h⟩ := h.ex
  obtain ⟨x12, e12, h⟩ := h.ex
  obtain ⟨I, N, h0, hs⟩ := h
  refine ⟨fun N => l3E (I N), N, (by show l3E (I N) ρ m; unfold l3E; rw [e1, e5, e6, e11, e12]; exact h0), ?_⟩
  clear h0 e1 e5 e6 e11 e12
  intro N ρ m h
  unfold l3E at h
  obtain ⟨x1a, x1l, x1c, e1, h⟩ := h.ex
  obtain ⟨x5, e5, h⟩ := h.ex
  obtain ⟨x6, e6, h⟩ := h.ex
  obtain ⟨x11a, x11l, x11c, e11, h⟩ := h.ex
  obtain ⟨x12, e12, h⟩ := h.ex
  refine cpt_mono (P := P) (lP (bB (sR (sL (sR (sR (sR (sR (sR (sR (sR (body)))))))))))) (Q := thenQ (l3E fun x1a x1l x1c x5 x6 x11a x11l x11c x12 m => ∃ N1, N1 < N ∧ I N1 x1a x1l x1c x5 x6 x11a x11l x11c x12 m) (blockQ 2 (thenQ (acpt P od (panicR R) (.cut (k6E fun x6 x11a x11l x11c m => k6  x6 x11a x11l x11c R m) (sR (sR (sR (sR (sR (sR (sR (sR (body)))))))))) (bodyQ P fn R)) (bodyQ P fn R)))) (fun e ρ m h => ?_) ρ m ?_
  · cases e with
    | normal =>
      have h : l3E (fun x1a x1l x1c x5 x6 x11a x11l x11c x12 m => ∃ N1, N1 < N ∧ I N1 x1a x1l x1c x5 x6 x11a x11l x11c x12 m) ρ m := h
      unfold l3E at h
      obtain ⟨x1a, x1l, x1c, e1, h⟩ := h.ex
      obtain ⟨x5, e5, h⟩ := h.ex
      obtain ⟨x6, e6, h⟩ := h.ex
      obtain ⟨x11a, x11l, x11c, e11, h⟩ := h.ex
      obtain ⟨x12, e12, h⟩ := h.ex
      obtain ⟨N1, hlt, h⟩ := h
      exact ⟨N1, hlt, (by show l3E (I N1) ρ m; unfold l3E; rw [e1, e5, e6, e11, e12]; exact h)⟩
    | _ => exact h
  have hh := hs N x1a x1l x1c x5 x6 x11a x11l x11c x12 m h
  generalize (fun x1a x1l x1c x5 x6 x11a x11l x11c x12 m => ∃ N1, N1 < N ∧ I N1 x1a x1l x1c x5 x6 x11a x11l x11c x12 m : Option Addr → Nat → Nat → Int → Option Addr → Option Addr → Nat → Nat → Int → Mem → Prop) = K3 at hh ⊢
  rw [← upd_self e1, ← upd_self e5, ← upd_self e6, ← upd_self e11, ← upd_self e12]
  rw [← l3_er  K3 R]
  refine acpt_sound (P := P) (l3A  K3 R) _ _ _ ⟨⟨True.intro, ⟨⟨(fun ρ m h => k5_ok K3 R ρ m h), ⟨(fun ρ m h => l4_ok K3 R ρ m h), True.intro⟩⟩, True.intro⟩⟩, True.intro⟩ ?_
  exact Eq.mp (l3_eq  K3 R x1a x1l x1c x5 x6 x11a x11l x11c x12 ρ m) hh
theorem k2_eq  (R : Ending → Mem → Prop) (x1a : Option Addr) (x1l : Nat) (x1c : Nat) (x5 : Int) (x6 : Option Addr) (ρ : Env) (m : Mem) : k2  x1a x1l x1c x5 x6 R m = acpt P od (panicR R) (k2A  R) (bodyQ P fn R) (upd (upd (upd ρ 6 (.pointer x6)) 5 (.int .i64 x5)) 1 (.slice x1a x1l x1c)) m := by kernel_rfl
theorem k2_er  (R : Ending → Mem → Prop) : (k2A  R).erase = sR (sR (sR (sR (sR (sR (body)))))) := by kernel_rfl
theorem k2_ok  (R : Ending → Mem → Prop) (ρ : Env) (m : Mem) (h : (k2E fun x1a x1l x1c x5 x6 m => k2  x1a x1l x1c x5 x6 R m) ρ m) : cpt P od (panicR R) (sR (sR (sR (sR (sR (sR (body))))))) (bodyQ P fn R) ρ m := by
  unfold k2E at h
  obtain ⟨x1a, x1l, x1c, e1, h⟩ := h.ex
  obtain ⟨x5, e5, h⟩ := h.ex
  obtain ⟨x6, e6, h⟩ := h.ex
  rw [← upd_self e1, ← upd_self e5, ← upd_self e6]
  rw [← k2_er  R]
  refine acpt_sound (P := P) (k2A  R) _ _ _ ⟨⟨(fun ρ m h => k6_ok  R ρ m h), ⟨(fun ρ m h => l3_ok  R ρ m h), True.intro⟩⟩, True.intro⟩ ?_
  exact Eq.mp (k2_eq  R x1a x1l x1c x5 x6 ρ m) h
theorem l1_eq  (K1 : Option Addr → Nat → Nat → Int → Option Addr → Int → Mem → Prop) (R : Ending → Mem → Prop) (x1a : Option Addr) (x1l : Nat) (x1c : Nat) (x5 : Int) (x6 : Option Addr) (x7 : Int) (ρ : Env) (m : Mem) : l1B  K1 x1a x1l x1c x5 x6 x7 R m = acpt P od (panicR R) (l1A  K1 R) (thenQ (l1E K1) (blockQ 0 (thenQ (acpt P od (panicR R) (.cut (k2E fun x1a x1l x1c x5 x6 m => k2  x1a x1l x1c x5 x6 R m) (sR (sR (sR (sR (sR (sR (body)))))))) (bodyQ P fn R)) (bodyQ P fn R)))) (upd (upd (upd (upd ρ 7 (.int .i64 x7)) 6 (.pointer x6)) 5 (.int .i64 x5)) 1 (.slice x1a x1l x1c)) m := by kernel_rfl
theorem l1_er  (K1 : Option Addr → Nat → Nat → Int → Option Addr → Int → Mem → Prop) (R : Ending → Mem → Prop) : (l1A  K1 R).erase = lP (bB (sR (sL (sR (sR (sR (sR (sR (body))))))))) := by kernel_rfl
theorem l1_ok  (R : Ending → Mem → Prop) (ρ : Env) (m : Mem) (h : (l1E fun x1a x1l x1c x5 x6 x7 m => l1  x1a x1l x1c x5 x6 x7 R m) ρ m) : cpt P od (panicR R) (.loop (lP (bB (sR (sL (sR (sR (sR (sR (sR (body))))))))))) (blockQ 0 (thenQ (acpt P od (panicR R) (.cut (k2E fun x1a x1l x1c x5 x6 m => k2  x1a x1l x1c x5 x6 R m) (sR (sR (sR (sR (sR (sR (body)))))))) (bodyQ P fn R)) (bodyQ P fn R))) ρ m := by
  unfold l1E at h
  obtain ⟨x1a, x1l, x1c, e1, h⟩ := h.ex
  obtain ⟨x5, e5, h⟩ := h.ex
  obtain ⟨x6, e6, h⟩ := h.ex
  obtain ⟨x7, e7, h⟩ := h.ex
  obtain ⟨I, N, h0, hs⟩ := h
  refine ⟨fun N => l1E (I N), N, (by show l1E (I N) ρ m; unfold l1E; rw [e1, e5, e6, e7]; exact h0), ?_⟩
  clear h0 e1 e5 e6 e7
  intro N ρ m h
  unfold l1E at h
  obtain ⟨x1a, x1l, x1c, e1, h⟩ := h.ex
  obtain ⟨x5, e5, h⟩ := h.ex
  obtain ⟨x6, e6, h⟩ := h.ex
  obtain ⟨x7, e7, h⟩ := h.ex
  refine cpt_mono (P := P) (lP (bB (sR (sL (sR (sR (sR (sR (sR (body)))))))))) (Q := thenQ (l1E fun x1a x1l x1c x5 x6 x7 m => ∃ N1, N1 < N ∧ I N1 x1a x1l x1c x5 x6 x7 m) (blockQ 0 (thenQ (acpt P od (panicR R) (.cut (k2E fun x1a x1l x1c x5 x6 m => k2  x1a x1l x1c x5 x6 R m) (sR (sR (sR (sR (sR (sR (body)))))))) (bodyQ P fn R)) (bodyQ P fn R)))) (fun e ρ m h => ?_) ρ m ?_
  · cases e with
    | normal =>
      have h : l1E (fun x1a x1l x1c x5 x6 x7 m => ∃ N1, N1 < N ∧ I N1 x1a x1l x1c x5 x6 x7 m) ρ m := h
      unfold l1E at h
      obtain ⟨x1a, x1l, x1c, e1, h⟩ := h.ex
      obtain ⟨x5, e5, h⟩ := h.ex
      obtain ⟨x6, e6, h⟩ := h.ex
      obtain ⟨x7, e7, h⟩ := h.ex
      obtain ⟨N1, hlt, h⟩ := h
      exact ⟨N1, hlt, (by show l1E (I N1) ρ m; unfold l1E; rw [e1, e5, e6, e7]; exact h)⟩
    | _ => exact h
  have hh := hs N x1a x1l x1c x5 x6 x7 m h
  generalize (fun x1a x1l x1c x5 x6 x7 m => ∃ N1, N1 < N ∧ I N1 x1a x1l x1c x5 x6 x7 m : Option Addr → Nat → Nat → Int → Option Addr → Int → Mem → Prop) = K1 at hh ⊢
  rw [← upd_self e1, ← upd_self e5, ← upd_self e6, ← upd_self e7]
  rw [← l1_er  K1 R]
  refine acpt_sound (P := P) (l1A  K1 R) _ _ _ True.intro ?_
  exact Eq.mp (l1_eq  K1 R x1a x1l x1c x5 x6 x7 ρ m) hh
theorem e0_eq (a0 : Int) (a1a : Option Addr) (a1l : Nat) (a1c : Nat) (R : Ending → Mem → Prop) (m : Mem) : e0 a0 a1a a1l a1c R m = acpt P od (panicR R) (e0A R) (bodyQ P fn R) (argE (#[.int .u8 a0, .slice a1a a1l a1c] : Array Value).toList) m := by kernel_rfl
theorem ok (a0 : Int) (a1a : Option Addr) (a1l : Nat) (a1c : Nat) (R : Ending → Mem → Prop) (m : Mem) (h : e0 a0 a1a a1l a1c R m) : HC P id #[.int .u8 a0, .slice a1a a1l a1c] m R := by
  refine HC_of (fn := fn) (c := body) (od := od) (tb := tb) Go.Proofs.Try.func3 (by kernel_rfl) (by kernel_rfl) follows (by kernel_rfl) (of_decide_eq_true (by kernel_rfl)) ?_
  have he : (e0A R).erase = body := by kernel_rfl
  rw [← he]
  refine acpt_sound (P := P) (e0A R) _ _ _ ⟨⟨⟨⟨⟨⟨(fun ρ m h => k2_ok  R ρ m h), ⟨(fun ρ m h => l1_ok  R ρ m h), True.intro⟩⟩, True.intro⟩, True.intro⟩, True.intro⟩, True.intro⟩, True.intro⟩ ?_
  exact Eq.mp (e0_eq a0 a1a a1l a1c R m) h
end eyotlaw4_CacheLast

/-! ### eyot/eyotlaw4.CacheValues -/
namespace eyotlaw4_CacheValues
noncomputable def fn : Func := Go.Proofs.Try.f4
noncomputable def body : Code := fn.body.getD .skip
def od : Nat → Ord := fun | 10 => ordL [(0, 3), (1, 3), (2, 3), (3, 3), (4, 1), (5, 3), (6, 3), (7, 3), (8, 3), (9, 3), (10, 0), (11, 3), (12, 3), (13, 2), (14, 3), (15, 3), (16, 3), (17, 3), (18, 3)] .done | 18 => ordL [(0, 3), (1, 3), (2, 3), (3, 1), (4, 3), (5, 3), (6, 3), (7, 1), (8, 3), (9, 1), (10, 3), (11, 3), (12, 3), (13, 0), (14, 3), (15, 3), (16, 3), (17, 3)] .done | _ => .done
def tb : Nat → Tab := fun | 10 => (8192, [0, 0, 0, 6, 14, 30, 0, 0, 0, 384, 896, 1920, 4032, 8191, 16383, 32767, 32767, 65535, 262143], [(0, 8, 25), (0, 1, 26), (0, 32, 27), (6, 100663296, 28), (8, 134217728, 29), (16, 268435456, 30), (0, 32, 31), (0, 1, 32), (0, 32, 33), (384, 6442450944, 34), (512, 8589934592, 35), (1024, 17179869184, 36), (2112, 35433480192, 37), (4129, 69273124864, 38), (8192, 137438953472, 24), (16384, 8388608, 39), (16384, 8388608, 40), (65535, 274877906944, 7), (262143, 549755813888, 8)]) | 18 => (0, [0, 1, 3, 7, 7, 7, 55, 119, 247, 503, 7, 7, 3079, 7175, 15367, 32759, 65535, 131071], [(0, 1024, 68), (1, 147573952589676412928, 69), (2, 295147905179352825856, 70), (4, 590295810358705652224, 71), (4, 590295810358705651713, 72), (4, 590295810358705651968, 73), (52, 7673845534663173472256, 74), (68, 10035028776097996079104, 75), (132, 19479761741837286506512, 76), (260, 38369227673315867361280, 77), (4, 590295810358705651713, 78), (4, 590295810358705651968, 79), (3076, 453937478165844646166528, 80), (4100, 605053205617673293004800, 81), (8196, 1209516115424987880357888, 82), (16900, 2493999798765531378483200, 83), (32780, 4837474165889592815779840, 84), (65540, 9671996852727392103301120, 85)]) | _ => (0, [], [])
def l3E (K : Option Addr → Nat → Nat → Option Addr → Nat → Nat → Int → Mem → Prop) : Env → Mem → Prop := fun ρ m => UnS (ρ 0) fun x0a x0l x0c => UnP (ρ 3) fun x3 => UnPA (ρ 4) fun x4b x4o => UnI (ρ 8) .i64 fun x8 => K x0a x0l x0c x3 x4b x4o x8 m
def l3B  (K3 : Option Addr → Nat → Nat → Option Addr → Nat → Nat → Int → Mem → Prop) (x0a : Option Addr) (x0l : Nat) (x0c : Nat) (x3 : Option Addr) (x4b : Nat) (x4o : Nat) (x8 : Int) (R : Ending → Mem → Prop) (m : Mem) : Prop :=
  Br (decide (x8 < ((x0l : Nat) : Int))) (
    IxS x0a x0l x8 1 fun x61b x61o =>
    LdV m x61b x61o fun v =>
    UnI v .u8 fun x62 =>
    HC P lru_Cache_2_int_Get.id #[.pointer x3, .int .i64 (IntKind.i64.wrap x62)] m (Cont (fun v m1 =>
        UnTup v fun us0 =>
        UnCons us0 fun w us1 =>
        UnAgg w fun l =>
        UnCons l fun v l =>
        UnI v .i64 fun x64_0_0 =>
        UnCons l fun v l =>
        UnI v .i64 fun x64_0_1 =>
        UnNil l (
          UnCons us1 fun w us2 =>
          UnB w fun x64_1 =>
          UnNil us2 (
            NewC m1 #[.int .i64 0, .int .i64 0] T_arr2_int fun b9 m2 =>
            St1 m2 b9 0 (.int .i64 x64_0_0) fun m3 =>
            St1 m3 b9 1 (.int .i64 x64_0_1) fun m4 =>
            Sub m4 fun r5 =>
            Br (!x64_1) (
              R (.returned (.bool false)) m4) (
              LdV r5 b9 0 fun v =>
              UnI v .i64 fun x70_0 =>
              LdV r5 b9 1 fun v =>
              UnI v .i64 fun x70_1 =>
              IxS x0a x0l x8 1 fun x73b x73o =>
              LdV r5 x73b x73o fun v =>
              UnI v .u8 fun x74 =>
              0 ≤ (x74 : Int) ∧ x74 < (256 : Nat) ∧ (
                LdV r5 x4b (x4o + (x74).toNat * 1) fun v =>
                UnI v .i64 fun x76 =>
                IxS x0a x0l x8 1 fun x79b x79o =>
                LdV m4 x79b x79o fun v =>
                UnI v .u8 fun x80 =>
                Br (!(eqL [.int .i64 x70_0, .int .i64 x70_1] [.int .i64 x76, .int .i64 (IntKind.i64.wrap x80)])) (
                  R (.returned (.bool false)) m4) (
                  K3 x0a x0l x0c x3 x4b x4o (IntKind.i64.wrap (x8 + 1)) m4)))))) (panicR R))) (
    R (.returned (.bool true)) m)
def l3  (x0a : Option Addr) (x0l : Nat) (x0c : Nat) (x3 : Option Addr) (x4b : Nat) (x4o : Nat) (x8 : Int) (R : Ending → Mem → Prop) (m : Mem) : Prop :=
  ∃ (I : Nat → Option Addr → Nat → Nat → Option Addr → Nat → Nat → Int → Mem → Prop) (N : Nat), I N x0a x0l x0c x3 x4b x4o x8 m ∧ ∀ N x0a x0l x0c x3 x4b x4o x8 m, I N x0a x0l x0c x3 x4b x4o x8 m → l3B  (fun x0a x0l x0c x3 x4b x4o x8 m => ∃ N1, N1 < N ∧ I N1 x0a x0l x0c x3 x4b x4o x8 m) x0a x0l x0c x3 x4b x4o x8 R m
noncomputable def l3A  (K3 : Option Addr → Nat → Nat → Option Addr → Nat → Nat → Int → Mem → Prop) (R : Ending → Mem → Prop) : ACode := (.code (lP (bB (sR (sL (sR (sR (sR (sR (sR (sR (body))))))))))))
def k2E (K : Option Addr → Nat → Nat → Option Addr → Nat → Nat → Mem → Prop) : Env → Mem → Prop := fun ρ m => UnS (ρ 0) fun x0a x0l x0c => UnP (ρ 3) fun x3 => UnPA (ρ 4) fun x4b x4o => K x0a x0l x0c x3 x4b x4o m
def k2  (x0a : Option Addr) (x0l : Nat) (x0c : Nat) (x3 : Option Addr) (x4b : Nat) (x4o : Nat) (R : Ending → Mem → Prop) (m : Mem) : Prop :=
  l3  x0a x0l x0c x3 x4b x4o 0 R m
noncomputable def k2A  (R : Ending → Mem → Prop) : ACode := (.seq (.seq (.code (sL (sL (sR (sR (sR (sR (sR (sR (body)))))))))) (.block 2 (.cut (l3E fun x0a x0l x0c x3 x4b x4o x8 m => l3  x0a x0l x0c x3 x4b x4o x8 R m) (.loop (lP (bB (sR (sL (sR (sR (sR (sR (sR (sR (body))))))))))))))) (.code (sR (sR (sR (sR (sR (sR (sR (body))))))))))
def l1E (K : Option Addr → Nat → Nat → Option Addr → Nat → Nat → Int → Mem → Prop) : Env → Mem → Prop := fun ρ m => UnS (ρ 0) fun x0a x0l x0c => UnP (ρ 3) fun x3 => UnPA (ρ 4) fun x4b x4o => UnI (ρ 5) .i64 fun x5 => K x0a x0l x0c x3 x4b x4o x5 m
def l1B  (K1 : Option Addr → Nat → Nat → Option Addr → Nat → Nat → Int → Mem → Prop) (x0a : Option Addr) (x0l : Nat) (x0c : Nat) (x3 : Option Addr) (x4b : Nat) (x4o : Nat) (x5 : Int) (R : Ending → Mem → Prop) (m : Mem) : Prop :=
  Br (decide (x5 < ((x0l : Nat) : Int))) (
    Sub m fun r1 =>
    IxS x0a x0l x5 1 fun x27b x27o =>
    LdV r1 x27b x27o fun v =>
    UnI v .u8 fun x28 =>
    IxS x0a x0l x5 1 fun x33b x33o =>
    LdV m x33b x33o fun v =>
    UnI v .u8 fun x34 =>
    HC P lru_Cache_2_int_Put.id #[.pointer x3, .int .i64 (IntKind.i64.wrap x28), .agg #[.int .i64 x5, .int .i64 (IntKind.i64.wrap x34)]] m (Cont (fun v m2 =>
        UnTup v fun us0 =>
        UnCons us0 fun w us1 =>
        UnI w .i64 fun x37_0 =>
        UnCons us1 fun w us2 =>
        UnB w fun x37_1 =>
        UnNil us2 (
          Br (x37_0 != 0) (
            R (.returned (.bool false)) m2) (
            Br x37_1 (
              R (.returned (.bool false)) m2) (
              IxS x0a x0l x5 1 fun x47b x47o =>
              LdV m2 x47b x47o fun v =>
              UnI v .u8 fun x48 =>
              0 ≤ (x48 : Int) ∧ x48 < (256 : Nat) ∧ (
                St1 m2 x4b (x4o + (x48).toNat * 1) (.int .i64 x5) fun m3 =>
                K1 x0a x0l x0c x3 x4b x4o (IntKind.i64.wrap (x5 + 1)) m3))))) (panicR R))) (
    k2  x0a x0l x0c x3 x4b x4o R m)
def l1  (x0a : Option Addr) (x0l : Nat) (x0c : Nat) (x3 : Option Addr) (x4b : Nat) (x4o : Nat) (x5 : Int) (R : Ending → Mem → Prop) (m : Mem) : Prop :=
  ∃ (I : Nat → Option Addr → Nat → Nat → Option Addr → Nat → Nat → Int → Mem → Prop) (N : Nat), I N x0a x0l x0c x3 x4b x4o x5 m ∧ ∀ N x0a x0l x0c x3 x4b x4o x5 m, I N x0a x0l x0c x3 x4b x4o x5 m → l1B  (fun x0a x0l x0c x3 x4b x4o x5 m => ∃ N1, N1 < N ∧ I N1 x0a x0l x0c x3 x4b x4o x5 m) x0a x0l x0c x3 x4b x4o x5 R m
noncomputable def l1A  (K1 : Option Addr → Nat → Nat → Option Addr → Nat → Nat → Int → Mem → Prop) (R : Ending → Mem → Prop) : ACode := (.code (lP (bB (sR (sL (sR (sR (sR (sR (sR (body)))))))))))
def e0 (a0a : Option Addr) (a0l : Nat) (a0c : Nat) (R : Ending → Mem → Prop) (m : Mem) : Prop :=
  HC P eyotlaw4_begun.id #[] m (Cont (fun v m1 =>
      UnB v fun x11 =>
      Br (!x11) (
        R (.returned (.bool false)) m1) (
        Br (decide (((a0l : Nat) : Int) > 40)) (
          R (.returned (.bool true)) m1) (
          HC P lru_New_2_int.id #[.int .i64 64] m1 (Cont (fun v m2 =>
              UnP v fun x16 =>
              NewC m2 #[.int .i64 0, .int .i64 0, .int .i64 0, .int .i64 0, .int .i64 0, .int .i64 0, .int .i64 0, .int .i64 0, .int .i64 0, .int .i64 0, .int .i64 0, .int .i64 0, .int .i64 0, .int .i64 0, .int .i64 0, .int .i64 0, .int .i64 0, .int .i64 0, .int .i64 0, .int .i64 0, .int .i64 0, .int .i64 0, .int .i64 0, .int .i64 0, .int .i64 0, .int .i64 0, .int .i64 0, .int .i64 0, .int .i64 0, .int .i64 0, .int .i64 0, .int .i64 0, .int .i64 0, .int .i64 0, .int .i64 0, .int .i64 0, .int .i64 0, .int .i64 0, .int .i64 0, .int .i64 0, .int .i64 0, .int .i64 0, .int .i64 0, .int .i64 0, .int .i64 0, .int .i64 0, .int .i64 0, .int .i64 0, .int .i64 0, .int .i64 0, .int .i64 0, .int .i64 0, .int .i64 0, .int .i64 0, .int .i64 0, .int .i64 0, .int .i64 0, .int .i64 0, .int .i64 0, .int .i64 0, .int .i64 0, .int .i64 0, .int .i64 0, .int .i64 0, .int .i64 0, .int .i64 0, .int .i64 0, .int .i64 0, .int .i64 0, .int .i64 0, .int .i64 0, .int .i64 0, .int .i64 0, .int .i64 0, .int .i64 0, .int .i64 0, .int .i64 0, .int .i64 0, .int .i64 0, .int .i64 0, .int .i64 0, .int .i64 0, .int .i64 0, .int .i64 0, .int .i64 0, .int .i64 0, .int .i64 0, .int .i64 0, .int .i64 0, .int .i64 0, .int .i64 0, .int .i64 0, .int .i64 0, .int .i64 0, .int .i64 0, .int .i64 0, .int .i64 0, .int .i64 0, .int .i64 0, .int .i64 0, .int .i64 0, .int .i64 0, .int .i64 0, .int .i64 0, .int .i64 0, .int .i64 0, .int .i64 0, .int .i64 0, .int .i64 0, .int .i64 0, .int .i64 0, .int .i64 0, .int .i64 0, .int .i64 0, .int .i64 0, .int .i64 0, .int .i64 0, .int .i64 0, .int .i64 0, .int .i64 0, .int .i64 0, .int .i64 0, .int .i64 0, .int .i64 0, .int .i64 0, .int .i64 0, .int .i64 0, .int .i64 0, .int .i64 0, .int .i64 0, .int .i64 0, .int .i64 0, .int .i64 0, .int .i64 0, .int .i64 0, .int .i64 0, .int .i64 0, .int .i64 0, .int .i64 0, .int .i64 0, .int .i64 0, .int .i64 0, .int .i64 0, .int .i64 0, .int .i64 0, .int .i64 0, .int .i64 0, .int .i64 0, .int .i64 0, .int .i64 0, .int .i64 0, .int .i64 0, .int .i64 0, .int .i64 0, .int .i64 0, .int .i64 0, .int .i64 0, .int .i64 0, .int .i64 0, .int .i64 0, .int .i64 0, .int .i64 0, .int .i64 0, .int .i64 0, .int .i64 0, .int .i64 0, .int .i64 0, .int .i64 0, .int .i64 0, .int .i64 0, .int .i64 0, .int .i64 0, .int .i64 0, .int .i64 0, .int .i64 0, .int .i64 0, .int .i64 0, .int .i64 0, .int .i64 0, .int .i64 0, .int .i64 0, .int .i64 0, .int .i64 0, .int .i64 0, .int .i64 0, .int .i64 0, .int .i64 0, .int .i64 0, .int .i64 0, .int .i64 0, .int .i64 0, .int .i64 0, .int .i64 0, .int .i64 0, .int .i64 0, .int .i64 0, .int .i64 0, .int .i64 0, .int .i64 0, .int .i64 0, .int .i64 0, .int .i64 0, .int .i64 0, .int .i64 0, .int .i64 0, .int .i64 0, .int .i64 0, .int .i64 0, .int .i64 0, .int .i64 0, .int .i64 0, .int .i64 0, .int .i64 0, .int .i64 0, .int .i64 0, .int .i64 0, .int .i64 0, .int .i64 0, .int .i64 0, .int .i64 0, .int .i64 0, .int .i64 0, .int .i64 0, .int .i64 0, .int .i64 0, .int .i64 0, .int .i64 0, .int .i64 0, .int .i64 0, .int .i64 0, .int .i64 0, .int .i64 0, .int .i64 0, .int .i64 0, .int .i64 0, .int .i64 0, .int .i64 0, .int .i64 0, .int .i64 0, .int .i64 0, .int .i64 0, .int .i64 0, .int .i64 0, .int .i64 0, .int .i64 0, .int .i64 0, .int .i64 0, .int .i64 0, .int .i64 0, .int .i64 0, .int .i64 0, .int .i64 0, .int .i64 0, .int .i64 0, .int .i64 0, .int .i64 0] T_arr256_int fun b4 m3 =>
              l1  a0a a0l a0c x16 b4 0 0 R m3) (panicR R))))) (panicR R))
noncomputable def e0A (R : Ending → Mem → Prop) : ACode := (.seq (.code (sL (body))) (.seq (.code (sL (sR (body)))) (.seq (.code (sL (sR (sR (body))))) (.seq (.code (sL (sR (sR (sR (body)))))) (.seq (.code (sL (sR (sR (sR (sR (body))))))) (.seq (.seq (.code (sL (sL (sR (sR (sR (sR (sR (body))))))))) (.block 0 (.cut (l1E fun x0a x0l x0c x3 x4b x4o x5 m => l1  x0a x0l x0c x3 x4b x4o x5 R m) (.loop (lP (bB (sR (sL (sR (sR (sR (sR (sR (body)))))))))))))) (.cut (k2E fun x0a x0l x0c x3 x4b x4o m => k2  x0a x0l x0c x3 x4b x4o R m) (sR (sR (sR (sR (sR (sR (body))))))))))))))
theorem l3_eq  (K3 : Option Addr → Nat → Nat → Option Addr → Nat → Nat → Int → Mem → Prop) (R : Ending → Mem → Prop) (x0a : Option Addr) (x0l : Nat) (x0c : Nat) (x3 : Option Addr) (x4b : Nat) (x4o : Nat) (x8 : Int) (ρ : Env) (m : Mem) : l3B  K3 x0a x0l x0c x3 x4b x4o x8 R m = acpt P od (panicR R) (l3A  K3 R) (thenQ (l3E K3) (blockQ 2 (thenQ (acpt P od (panicR R) (.code (sR (sR (sR (sR (sR (sR (sR (body))))))))) (bodyQ P fn R)) (bodyQ P fn R)))) (upd (upd (upd (upd ρ 8 (.int .i64 x8)) 4 (.pointer (some ⟨x4b, x4o, none⟩))) 3 (.pointer x3)) 0 (.slice x0a x0l x0c)) m := by kernel_rfl
theorem l3_er  (K3 : Option Addr → Nat → Nat → Option Addr → Nat → Nat → Int → Mem → Prop) (R : Ending → Mem → Prop) : (l3A  K3 R).erase = lP (bB (sR (sL (sR (sR (sR (sR (sR (sR (body)))))))))) := by kernel_rfl
theorem l3_ok  (R : Ending → Mem → Prop) (ρ : Env) (m : Mem) (h : (l3E fun x0a x0l x0c x3 x4b x4o x8 m => l3  x0a x0l x0c x3 x4b x4o x8 R m) ρ m) : cpt P od (panicR R) (.loop (lP (bB (sR (sL (sR (sR (sR (sR (sR (sR (body)))))))))))) (blockQ 2 (thenQ (acpt P od (panicR R) (.code (sR (sR (sR (sR (sR (sR (sR (body))))))))) (bodyQ P fn R)) (bodyQ P fn R))) ρ m := by
  unfold l3E at h
  obtain ⟨x0a, x0l, x0c, e0, h⟩ := h.ex
  obtain ⟨x3, e3, h⟩ := h.ex
  obtain ⟨x4b, x4o, e4, h⟩ := h.ex
  obtain ⟨x8, e8, h⟩ := h.ex
  obtain ⟨I, N, h0, hs⟩ := h
  refine ⟨fun N => l3E (I N), N, (by show l3E (I N) ρ m; unfold l3E; rw [e0, e3, e4, e8]; exact h0), ?_⟩
  clear h0 e0 e3 e4 e8
  intro N ρ m h
  unfold l3E at h
  obtain ⟨x0a, x0l, x0c, e0, h⟩ := h.ex
  obtain ⟨x3, e3, h⟩ := h.ex
  obtain ⟨x4b, x4o, e4, h⟩ := h.ex
  obtain ⟨x8, e8, h⟩ := h.ex
  refine cpt_mono (P := P) (lP (bB (sR (sL (sR (sR (sR (sR (sR (sR (body))))))))))) (Q := thenQ (l3E fun x0a x0l x0c x3 x4b x4o x8 m => ∃ N1, N1 < N ∧ I N1 x0a x0l x0c x3 x4b x4o x8 m) (blockQ 2 (thenQ (acpt P od (panicR R) (.code (sR (sR (sR (sR (sR (sR (sR (body))))))))) (bodyQ P fn R)) (bodyQ P fn R)))) (fun e ρ m h => ?_) ρ m ?_
  · cases e with
    | normal =>
      have h : l3E (fun x0a x0l x0c x3 x4b x4o x8 m => ∃ N1, N1 < N ∧ I N1 x0a x0l x0c x3 x4b x4o x8 m) ρ m := h
      unfold l3E at h
      obtain ⟨x0a, x0l, x0c, e0, h⟩ := h.ex
      obtain ⟨x3, e3, h⟩ := h.ex
      obtain ⟨x4b, x4o, e4, h⟩ := h.ex
      obtain ⟨x8, e8, h⟩ := h.ex
      obtain ⟨N1, hlt, h⟩ := h
      exact ⟨N1, hlt, (by show l3E (I N1) ρ m; unfold l3E; rw [e0, e3, e4, e8]; exact h)⟩
    | _ => exact h
  have hh := hs N x0a x0l x0c x3 x4b x4o x8 m h
  generalize (fun x0a x0l x0c x3 x4b x4o x8 m => ∃ N1, N1 < N ∧ I N1 x0a x0l x0c x3 x4b x4o x8 m : Option Addr → Nat → Nat → Option Addr → Nat → Nat → Int → Mem → Prop) = K3 at hh ⊢
  rw [← upd_self e0, ← upd_self e3, ← upd_self e4, ← upd_self e8]
  rw [← l3_er  K3 R]
  refine acpt_sound (P := P) (l3A  K3 R) _ _ _ True.intro ?_
  exact Eq.mp (l3_eq  K3 R x0a x0l x0c x3 x4b x4o x8 ρ m) hh
theorem k2_eq  (R : Ending → Mem → Prop) (x0a : Option Addr) (x0l : Nat) (x0c : Nat) (x3 : Option Addr) (x4b : Nat) (x4o : Nat) (ρ : Env) (m : Mem) : k2  x0a x0l x0c x3 x4b x4o R m = acpt P od (panicR R) (k2A  R) (bodyQ P fn R) (upd (upd (upd ρ 4 (.pointer (some ⟨x4b, x4o, none⟩))) 3 (.pointer x3)) 0 (.slice x0a x0l x0c)) m := by kernel_rfl
theorem k2_er  (R : Ending → Mem → Prop) : (k2A  R).erase = sR (sR (sR (sR (sR (sR (body)))))) := by kernel_rfl
theorem k2_ok  (R : Ending → Mem → Prop) (ρ : Env) (m : Mem) (h : (k2E fun x0a x0l x0c x3 x4b x4o m => k2  x0a x0l x0c x3 x4b x4o R m) ρ m) : cpt P od (panicR R) (sR (sR (sR (sR (sR (sR (body))))))) (bodyQ P fn R) ρ m := by
  unfold k2E at h
  obtain ⟨x0a, x0l, x0c, e0, h⟩ := h.ex
  obtain ⟨x3, e3, h⟩ := h.ex
  obtain ⟨x4b, x4o, e4, h⟩ := h.ex
  rw [← upd_self e0, ← upd_self e3, ← upd_self e4]
  rw [← k2_er  R]
  refine acpt_sound (P := P) (k2A  R) _ _ _ ⟨True.intro, ⟨(fun ρ m h => l3_ok  R ρ m h), True.intro⟩⟩ ?_
  exact Eq.mp (k2_eq  R x0a x0l x0c x3 x4b x4o ρ m) h
theorem l1_eq  (K1 : Option Addr → Nat → Nat → Option Addr → Nat → Nat → Int → Mem → Prop) (R : Ending → Mem → Prop) (x0a : Option Addr) (x0l : Nat) (x0c : Nat) (x3 : Option Addr) (x4b : Nat) (x4o : Nat) (x5 : Int) (ρ : Env) (m : Mem) : l1B  K1 x0a x0l x0c x3 x4b x4o x5 R m = acpt P od (panicR R) (l1A  K1 R) (thenQ (l1E K1) (blockQ 0 (thenQ (acpt P od (panicR R) (.cut (k2E fun x0a x0l x0c x3 x4b x4o m => k2  x0a x0l x0c x3 x4b x4o R m) (sR (sR (sR (sR (sR (sR (body)))))))) (bodyQ P fn R)) (bodyQ P fn R)))) (upd (upd (upd (upd ρ 5 (.int .i64 x5)) 4 (.pointer (some ⟨x4b, x4o, none⟩))) 3 (.pointer x3)) 0 (.slice x0a x0l x0c)) m := by kernel_rfl
theorem l1_er  (K1 : Option Addr → Nat → Nat → Option Addr → Nat → Nat → Int → Mem → Prop) (R : Ending → Mem → Prop) : (l1A  K1 R).erase = lP (bB (sR (sL (sR (sR (sR (sR (sR (body))))))))) := by kernel_rfl
theorem l1_ok  (R : Ending → Mem → Prop) (ρ : Env) (m : Mem) (h : (l1E fun x0a x0l x0c x3 x4b x4o x5 m => l1  x0a x0l x0c x3 x4b x4o x5 R m) ρ m) : cpt P od (panicR R) (.loop (lP (bB (sR (sL (sR (sR (sR (sR (sR (body))))))))))) (blockQ 0 (thenQ (acpt P od (panicR R) (.cut (k2E fun x0a x0l x0c x3 x4b x4o m => k2  x0a x0l x0c x3 x4b x4o R m) (sR (sR (sR (sR (sR (sR (body)))))))) (bodyQ P fn R)) (bodyQ P fn R))) ρ m := by
  unfold l1E at h
  obtain ⟨x0a, x0l, x0c, e0, h⟩ := h.ex
  obtain ⟨x3, e3, h⟩ := h.ex
  obtain ⟨x4b, x4o, e4, h⟩ := h.ex
  obtain ⟨x5, e5, h⟩ := h.ex
  obtain ⟨I, N, h0, hs⟩ := h
  refine ⟨fun N => l1E (I N), N, (by show l1E (I N) ρ m; unfold l1E; rw [e0, e3, e4, e5]; exact h0), ?_⟩
  clear h0 e0 e3 e4 e5
  intro N ρ m h
  unfold l1E at h
  obtain ⟨x0a, x0l, x0c, e0, h⟩ := h.ex
  obtain ⟨x3, e3, h⟩ := h.ex
  obtain ⟨x4b, x4o, e4, h⟩ := h.ex
  obtain ⟨x5, e5, h⟩ := h.ex
  refine cpt_mono (P := P) (lP (bB (sR (sL (sR (sR (sR (sR (sR (body)))))))))) (Q := thenQ (l1E fun x0a x0l x0c x3 x4b x4o x5 m => ∃ N1, N1 < N ∧ I N1 x0a x0l x0c x3 x4b x4o x5 m) (blockQ 0 (thenQ (acpt P od (panicR R) (.cut (k2E fun x0a x0l x0c x3 x4b x4o m => k2  x0a x0l x0c x3 x4b x4o R m) (sR (sR (sR (sR (sR (sR (body)))))))) (bodyQ P fn R)) (bodyQ P fn R)))) (fun e ρ m h => ?_) ρ m ?_
  · cases e with
    | normal =>
      have h : l1E (fun x0a x0l x0c x3 x4b x4o x5 m => ∃ N1, N1 < N ∧ I N1 x0a x0l x0c x3 x4b x4o x5 m) ρ m := h
      unfold l1E at h
      obtain ⟨x0a, x0l, x0c, e0, h⟩ := h.ex
      obtain ⟨x3, e3, h⟩ := h.ex
      obtain ⟨x4b, x4o, e4, h⟩ := h.ex
      obtain ⟨x5, e5, h⟩ := h.ex
      obtain ⟨N1, hlt, h⟩ := h
      exact ⟨N1, hlt, (by show l1E (I N1) ρ m; unfold l1E; rw [e0, e3, e4, e5]; exact h)⟩
    | _ => exact h
  have hh := hs N x0a x0l x0c x3 x4b x4o x5 m h
  generalize (fun x0a x0l x0c x3 x4b x4o x5 m => ∃ N1, N1 < N ∧ I N1 x0a x0l x0c x3 x4b x4o x5 m : Option Addr → Nat → Nat → Option Addr → Nat → Nat → Int → Mem → Prop) = K1 at hh ⊢
  rw [← upd_self e0, ← upd_self e3, ← upd_self e4, ← upd_self e5]
  rw [← l1_er  K1 R]
  refine acpt_sound (P := P) (l1A  K1 R) _ _ _ True.intro ?_
  exact Eq.mp (l1_eq  K1 R x0a x0l x0c x3 x4b x4o x5 ρ m) hh
theorem e0_eq (a0a : Option Addr) (a0l : Nat) (a0c : Nat) (R : Ending → Mem → Prop) (m : Mem) : e0 a0a a0l a0c R m = acpt P od (panicR R) (e0A R) (bodyQ P fn R) (argE (#[.slice a0a a0l a0c] : Array Value).toList) m := by kernel_rfl
theorem ok (a0a : Option Addr) (a0l : Nat) (a0c : Nat) (R : Ending → Mem → Prop) (m : Mem) (h : e0 a0a a0l a0c R m) : HC P id #[.slice a0a a0l a0c] m R := by
  refine HC_of (fn := fn) (c := body) (od := od) (tb := tb) Go.Proofs.Try.func4 (by kernel_rfl) (by kernel_rfl) follows (by kernel_rfl) (of_decide_eq_true (by kernel_rfl)) ?_
  have he : (e0A R).erase = body := by kernel_rfl
  rw [← he]
  refine acpt_sound (P := P) (e0A R) _ _ _ ⟨⟨⟨⟨⟨⟨(fun ρ m h => k2_ok  R ρ m h), ⟨(fun ρ m h => l1_ok  R ρ m h), True.intro⟩⟩, True.intro⟩, True.intro⟩, True.intro⟩, True.intro⟩, True.intro⟩ ?_
  exact Eq.mp (e0_eq a0a a0l a0c R m) h
end eyotlaw4_CacheValues

/-! ### eyot/eyotlaw4.CacheFull -/
namespace eyotlaw4_CacheFull
noncomputable def fn : Func := Go.Proofs.Try.f5
noncomputable def body : Code := fn.body.getD .skip
def od : Nat → Ord := fun | 16 => ordL [(0, 3), (1, 3), (2, 3), (3, 3), (4, 3), (5, 3), (6, 3), (7, 3), (8, 3), (9, 3), (10, 3), (11, 3), (12, 1), (13, 3), (14, 3), (15, 3), (16, 0), (17, 3), (18, 3), (19, 3)] .done | _ => .done
def tb : Nat → Tab := fun | 16 => (0, [0, 1, 0, 7, 15, 31, 63, 127, 255, 511, 1023, 2047, 4095, 1023, 1023, 25599, 58367, 123903, 262143, 524287], [(0, 32768, 92), (1, 2475880078570760549798248448, 93), (0, 128, 94), (6, 14855280471424563298789490688, 95), (8, 19807040628566084398385987584, 96), (16, 39614081257132168796772007936, 97), (48, 118842243771396506390315925504, 98), (80, 198070406285660843983859875840, 99), (144, 356526731314189519170947776512, 100), (272, 633825300114114700748351602688, 101), (512, 1267650600228229401496703238144, 102), (1536, 3802951800684688204490109616128, 103), (2560, 6338253001141147007483516026880, 104), (512, 1267650600228229401496703205378, 105), (512, 1267650600228229401496703205888, 106), (25088, 62114879411183240673338457063424, 107), (33280, 82397289014834911097285708349440, 108), (66048, 163526927429441592793074713493504, 109), (135680, 335927409060480791396626349424640, 110), (262656, 650304757917081682967808744357888, 111)]) | _ => (0, [], [])
def k2E (K : Option Addr → Nat → Nat → Int → Int → Option Addr → Int → Mem → Prop) : Env → Mem → Prop := fun ρ m => UnS (ρ 1) fun x1a x1l x1c => UnI (ρ 2) .u8 fun x2 => UnI (ρ 7) .i64 fun x7 => UnP (ρ 8) fun x8 => UnI (ρ 9) .i64 fun x9 => K x1a x1l x1c x2 x7 x8 x9 m
def k2 (K1 : Option Addr → Nat → Nat → Int → Int → Option Addr → Int → Mem → Prop) (x1a : Option Addr) (x1l : Nat) (x1c : Nat) (x2 : Int) (x7 : Int) (x8 : Option Addr) (x9 : Int) (R : Ending → Mem → Prop) (m : Mem) : Prop :=
  HC P lru_Cache_string_Keys.id #[.pointer x8] m (Cont (fun v m1 =>
      UnS v fun x90a x90l x90c =>
      Sub m1 fun r2 =>
      Br (decide (((x90l : Nat) : Int) > x7)) (
        R (.returned (.bool false)) m1) (
        Br (((x90l : Nat) : Int) == 0) (
          R (.returned (.bool false)) m1) (
          IxS x90a x90l 0 1 fun x102b x102o =>
          LdV r2 x102b x102o fun v =>
          UnI v .i64 fun x103 =>
          IxS x1a x1l x9 1 fun x106b x106o =>
          LdV m1 x106b x106o fun v =>
          UnI v .u8 fun x107 =>
          Br (x103 != (IntKind.i64.wrap x107)) (
            R (.returned (.bool false)) m1) (
            K1 x1a x1l x1c x2 x7 x8 (IntKind.i64.wrap (x9 + 1)) m1)))) (panicR R))
noncomputable def k2A (K1 : Option Addr → Nat → Nat → Int → Int → Option Addr → Int → Mem → Prop) (R : Ending → Mem → Prop) : ACode := (.code (sR (sR (sR (sR (bB (sL (sR (lP (bB (sR (sL (sR (sR (sR (sR (sR (body))))))))))))))))))
def k3E (K : Option Addr → Nat → Nat → Int → Option Addr → Mem → Prop) : Env → Mem → Prop := fun ρ m => UnS (ρ 1) fun x1a x1l x1c => UnI (ρ 2) .u8 fun x2 => UnP (ρ 8) fun x8 => K x1a x1l x1c x2 x8 m
def k3  (x1a : Option Addr) (x1l : Nat) (x1c : Nat) (x2 : Int) (x8 : Option Addr) (R : Ending → Mem → Prop) (m : Mem) : Prop :=
  HC P lru_Cache_string_Keys.id #[.pointer x8] m (Cont (fun v m1 =>
      UnS v fun x112a x112l x112c =>
      Br (((x112l : Nat) : Int) == 0) (
        R (.returned (.bool (((x1l : Nat) : Int) == 0))) m1) (
        NzI ((x112l : Nat) : Int) (
          IxS x112a x112l (Int.tmod (IntKind.i64.wrap x2) ((x112l : Nat) : Int)) 1 fun x125b x125o =>
          LdV m1 x125b x125o fun v =>
          UnI v .i64 fun x126 =>
          HC P lru_Cache_string_Drop.id #[.pointer x8, .int .i64 x126] m1 (Cont (fun v m2 =>
              UnB v fun x129 =>
              Br (!x129) (
                R (.returned (.bool false)) m2) (
                HC P lru_Cache_string_Drop.id #[.pointer x8, .int .i64 x126] m2 (Cont (fun v m3 =>
                    UnB v fun x134 =>
                    Br x134 (
                      R (.returned (.bool false)) m3) (
                      HC P lru_Cache_string_Put.id #[.pointer x8, .int .i64 1000, .string (ByteArray.mk #[121])] m3 (Cont (fun v m4 =>
                        UnTup v fun us0 =>
                        UnCons us0 fun w us1 =>
                        UnI w .i64 fun x138_0 =>
                        UnCons us1 fun w us2 =>
                        UnB w fun x138_1 =>
                        UnNil us2 (
                        HC P lru_Cache_string_Get.id #[.pointer x8, .int .i64 1000] m4 (Cont (fun v m5 =>
                        UnTup v fun us0 =>
                        UnCons us0 fun w us1 =>
                        UnStr w fun x143_0 =>
                        UnCons us1 fun w us2 =>
                        UnB w fun x143_1 =>
                        UnNil us2 (
                        Br (!x138_1) (
                        Br x143_1 (
                        Br (x143_0.toList == (ByteArray.mk #[121]).toList) (
                        HC P lru_Cache_string_Keys.id #[.pointer x8] m5 (Cont (fun v m6 =>
                        UnS v fun x157a x157l x157c =>
                        R (.returned (.bool (((x157l : Nat) : Int) == ((x112l : Nat) : Int)))) m6) (panicR R))) (
                        R (.returned (.bool false)) m5)) (
                        R (.returned (.bool false)) m5)) (
                        R (.returned (.bool false)) m5))) (panicR R)))) (panicR R)))) (panicR R)))) (panicR R))))) (panicR R))
noncomputable def k3A  (R : Ending → Mem → Prop) : ACode := (.code (sR (sR (sR (sR (sR (sR (body))))))))
def l1E (K : Option Addr → Nat → Nat → Int → Int → Option Addr → Int → Mem → Prop) : Env → Mem → Prop := fun ρ m => UnS (ρ 1) fun x1a x1l x1c => UnI (ρ 2) .u8 fun x2 => UnI (ρ 7) .i64 fun x7 => UnP (ρ 8) fun x8 => UnI (ρ 9) .i64 fun x9 => K x1a x1l x1c x2 x7 x8 x9 m
def l1B  (K1 : Option Addr → Nat → Nat → Int → Int → Option Addr → Int → Mem → Prop) (x1a : Option Addr) (x1l : Nat) (x1c : Nat) (x2 : Int) (x7 : Int) (x8 : Option Addr) (x9 : Int) (R : Ending → Mem → Prop) (m : Mem) : Prop :=
  Br (decide (x9 < ((x1l : Nat) : Int))) (
    HC P lru_Cache_string_Keys.id #[.pointer x8] m (Cont (fun v m1 =>
        UnS v fun x40a x40l x40c =>
        IxS x1a x1l x9 1 fun x45b x45o =>
        LdV m1 x45b x45o fun v =>
        UnI v .u8 fun x46 =>
        HC P lru_Cache_string_Get.id #[.pointer x8, .int .i64 (IntKind.i64.wrap x46)] m1 (Cont (fun v m2 =>
            UnTup v fun us0 =>
            UnCons us0 fun w us1 =>
            UnStr w fun x48_0 =>
            UnCons us1 fun w us2 =>
            UnB w fun x48_1 =>
            UnNil us2 (
              IxS x1a x1l x9 1 fun x55b x55o =>
              LdV m2 x55b x55o fun v =>
              UnI v .u8 fun x56 =>
              HC P lru_Cache_string_Put.id #[.pointer x8, .int .i64 (IntKind.i64.wrap x56), .string (ByteArray.mk #[120])] m2 (Cont (fun v m3 =>
                  UnTup v fun us0 =>
                  UnCons us0 fun w us1 =>
                  UnI w .i64 fun x58_0 =>
                  UnCons us1 fun w us2 =>
                  UnB w fun x58_1 =>
                  UnNil us2 (
                    Br (!x48_1) (
                      Br (!(x58_1 == (((x40l : Nat) : Int) == x7))) (
                        R (.returned (.bool false)) m3) (
                        Br x58_1 (
                        Br (((x40l : Nat) : Int) == 0) (
                        R (.returned (.bool false)) m3) (
                        IxS x40a x40l (IntKind.i64.wrap (((x40l : Nat) : Int) - 1)) 1 fun x83b x83o =>
                        LdV m3 x83b x83o fun v =>
                        UnI v .i64 fun x84 =>
                        Br (x58_0 != x84) (
                        R (.returned (.bool false)) m3) (
                        k2 K1 x1a x1l x1c x2 x7 x8 x9 R m3))) (
                        k2 K1 x1a x1l x1c x2 x7 x8 x9 R m3))) (
                      Br (!(x58_1 == false)) (
                        R (.returned (.bool false)) m3) (
                        Br x58_1 (
                        Br (((x40l : Nat) : Int) == 0) (
                        R (.returned (.bool false)) m3) (
                        IxS x40a x40l (IntKind.i64.wrap (((x40l : Nat) : Int) - 1)) 1 fun x83b x83o =>
                        LdV m3 x83b x83o fun v =>
                        UnI v .i64 fun x84 =>
                        Br (x58_0 != x84) (
                        R (.returned (.bool false)) m3) (
                        k2 K1 x1a x1l x1c x2 x7 x8 x9 R m3))) (
                        k2 K1 x1a x1l x1c x2 x7 x8 x9 R m3))))) (panicR R)))) (panicR R))) (panicR R))) (
    k3  x1a x1l x1c x2 x8 R m)
def l1  (x1a : Option Addr) (x1l : Nat) (x1c : Nat) (x2 : Int) (x7 : Int) (x8 : Option Addr) (x9 : Int) (R : Ending → Mem → Prop) (m : Mem) : Prop :=
  ∃ (I : Nat → Option Addr → Nat → Nat → Int → Int → Option Addr → Int → Mem → Prop) (N : Nat), I N x1a x1l x1c x2 x7 x8 x9 m ∧ ∀ N x1a x1l x1c x2 x7 x8 x9 m, I N x1a x1l x1c x2 x7 x8 x9 m → l1B  (fun x1a x1l x1c x2 x7 x8 x9 m => ∃ N1, N1 < N ∧ I N1 x1a x1l x1c x2 x7 x8 x9 m) x1a x1l x1c x2 x7 x8 x9 R m
noncomputable def l1A  (K1 : Option Addr → Nat → Nat → Int → Int → Option Addr → Int → Mem → Prop) (R : Ending → Mem → Prop) : ACode := (.seq (.code (sL (lP (bB (sR (sL (sR (sR (sR (sR (sR (body)))))))))))) (.seq (.block 1 (.seq (.code (sL (bB (sL (sR (lP (bB (sR (sL (sR (sR (sR (sR (sR (body))))))))))))))) (.seq (.code (sL (sR (bB (sL (sR (lP (bB (sR (sL (sR (sR (sR (sR (sR (body)))))))))))))))) (.seq (.code (sL (sR (sR (bB (sL (sR (lP (bB (sR (sL (sR (sR (sR (sR (sR (body))))))))))))))))) (.seq (.code (sL (sR (sR (sR (bB (sL (sR (lP (bB (sR (sL (sR (sR (sR (sR (sR (body)))))))))))))))))) (.cut (k2E fun x1a x1l x1c x2 x7 x8 x9 m => k2 K1 x1a x1l x1c x2 x7 x8 x9 R m) (sR (sR (sR (sR (bB (sL (sR (lP (bB (sR (sL (sR (sR (sR (sR (sR (body))))))))))))))))))))))) (.code (sR (sR (lP (bB (sR (sL (sR (sR (sR (sR (sR (body)))))))))))))))
def e0 (a0 : Int) (a1a : Option Addr) (a1l : Nat) (a1c : Nat) (a2 : Int) (R : Ending → Mem → Prop) (m : Mem) : Prop :=
  HC P eyotlaw4_begun.id #[] m (Cont (fun v m1 =>
      UnB v fun x22 =>
      Br (!x22) (
        R (.returned (.bool false)) m1) (
        Br (decide (((a1l : Nat) : Int) > 40)) (
          R (.returned (.bool true)) m1) (
          HC P lru_New_string.id #[.int .i64 (IntKind.i64.wrap (1 + (IntKind.i64.wrap (Int.tmod a0 8))))] m1 (Cont (fun v m2 =>
              UnP v fun x32 =>
              l1  a1a a1l a1c a2 (IntKind.i64.wrap (1 + (IntKind.i64.wrap (Int.tmod a0 8)))) x32 0 R m2) (panicR R))))) (panicR R))
noncomputable def e0A (R : Ending → Mem → Prop) : ACode := (.seq (.code (sL (body))) (.seq (.code (sL (sR (body)))) (.seq (.code (sL (sR (sR (body))))) (.seq (.code (sL (sR (sR (sR (body)))))) (.seq (.code (sL (sR (sR (sR (sR (body))))))) (.seq (.seq (.code (sL (sL (sR (sR (sR (sR (sR (body))))))))) (.block 0 (.cut (l1E fun x1a x1l x1c x2 x7 x8 x9 m => l1  x1a x1l x1c x2 x7 x8 x9 R m) (.loop (lP (bB (sR (sL (sR (sR (sR (sR (sR (body)))))))))))))) (.cut (k3E fun x1a x1l x1c x2 x8 m => k3  x1a x1l x1c x2 x8 R m) (sR (sR (sR (sR (sR (sR (body))))))))))))))
theorem k2_eq (K1 : Option Addr → Nat → Nat → Int → Int → Option Addr → Int → Mem → Prop) (R : Ending → Mem → Prop) (x1a : Option Addr) (x1l : Nat) (x1c : Nat) (x2 : Int) (x7 : Int) (x8 : Option Addr) (x9 : Int) (ρ : Env) (m : Mem) : k2 K1 x1a x1l x1c x2 x7 x8 x9 R m = acpt P od (panicR R) (k2A K1 R) (blockQ 1 (thenQ (acpt P od (panicR R) (.code (sR (sR (lP (bB (sR (sL (sR (sR (sR (sR (sR (body))))))))))))) (thenQ (l1E K1) (blockQ 0 (thenQ (acpt P od (panicR R) (.cut (k3E fun x1a x1l x1c x2 x8 m => k3  x1a x1l x1c x2 x8 R m) (sR (sR (sR (sR (sR (sR (body)))))))) (bodyQ P fn R)) (bodyQ P fn R))))) (thenQ (l1E K1) (blockQ 0 (thenQ (acpt P od (panicR R) (.cut (k3E fun x1a x1l x1c x2 x8 m => k3  x1a x1l x1c x2 x8 R m) (sR (sR (sR (sR (sR (sR (body)))))))) (bodyQ P fn R)) (bodyQ P fn R)))))) (upd (upd (upd (upd (upd ρ 9 (.int .i64 x9)) 8 (.pointer x8)) 7 (.int .i64 x7)) 2 (.int .u8 x2)) 1 (.slice x1a x1l x1c)) m := by kernel_rfl
theorem k2_er (K1 : Option Addr → Nat → Nat → Int → Int → Option Addr → Int → Mem → Prop) (R : Ending → Mem → Prop) : (k2A K1 R).erase = sR (sR (sR (sR (bB (sL (sR (lP (bB (sR (sL (sR (sR (sR (sR (sR (body)))))))))))))))) := by kernel_rfl
theorem k2_ok (K1 : Option Addr → Nat → Nat → Int → Int → Option Addr → Int → Mem → Prop) (R : Ending → Mem → Prop) (ρ : Env) (m : Mem) (h : (k2E fun x1a x1l x1c x2 x7 x8 x9 m => k2 K1 x1a x1l x1c x2 x7 x8 x9 R m) ρ m) : cpt P od (panicR R) (sR (sR (sR (sR (bB (sL (sR (lP (bB (sR (sL (sR (sR (sR (sR (sR (body))))))))))))))))) (blockQ 1 (thenQ (acpt P od (panicR R) (.code (sR (sR (lP (bB (sR (sL (sR (sR (sR (sR (sR (body))))))))))))) (thenQ (l1E K1) (blockQ 0 (thenQ (acpt P od (panicR R) (.cut (k3E fun x1a x1l x1c x2 x8 m => k3  x1a x1l x1c x2 x8 R m) (sR (sR (sR (sR (sR (sR (body)))))))) (bodyQ P fn R)) (bodyQ P fn R))))) (thenQ (l1E K1) (blockQ 0 (thenQ (acpt P od (panicR R) (.cut (k3E fun x1a x1l x1c x2 x8 m => k3  x1a x1l x1c x2 x8 R m) (sR (sR (sR (sR (sR (sR (body)))))))) (bodyQ P fn R)) (bodyQ P fn R)))))) ρ m := by
  unfold k2E at h
  obtain ⟨x1a, x1l, x1c, e1, h⟩ := h.ex
  obtain ⟨x2, e2, h⟩ := h.ex
  obtain ⟨x7, e7, h⟩ := h.ex
  obtain ⟨x8, e8, h⟩ := h.ex
  obtain ⟨x9, e9, h⟩ := h.ex
  rw [← upd_self e1, ← upd_self e2, ← upd_self e7, ← upd_self e8, ← upd_self e9]
  rw [← k2_er K1 R]
  refine acpt_sound (P := P) (k2A K1 R) _ _ _ True.intro ?_
  exact Eq.mp (k2_eq K1 R x1a x1l x1c x2 x7 x8 x9 ρ m) h
theorem k3_eq  (R : Ending → Mem → Prop) (x1a : Option Addr) (x1l : Nat) (x1c : Nat) (x2 : Int) (x8 : Option Addr) (ρ : Env) (m : Mem) : k3  x1a x1l x1c x2 x8 R m = acpt P od (panicR R) (k3A  R) (bodyQ P fn R) (upd (upd (upd ρ 8 (.pointer x8)) 2 (.int .u8 x2)) 1 (.slice x1a x1l x1c)) m := by kernel_rfl
theorem k3_er  (R : Ending → Mem → Prop) : (k3A  R).erase = sR (sR (sR (sR (sR (sR (body)))))) := by kernel_rfl
theorem k3_ok  (R : Ending → Mem → Prop) (ρ : Env) (m : Mem) (h : (k3E fun x1a x1l x1c x2 x8 m => k3  x1a x1l x1c x2 x8 R m) ρ m) : cpt P od (panicR R) (sR (sR (sR (sR (sR (sR (body))))))) (bodyQ P fn R) ρ m := by
  unfold k3E at h
  obtain ⟨x1a, x1l, x1c, e1, h⟩ := h.ex
  obtain ⟨x2, e2, h⟩ := h.ex
  obtain ⟨x8, e8, h⟩ := h.ex
  rw [← upd_self e1, ← upd_self e2, ← upd_self e8]
  rw [← k3_er  R]
  refine acpt_sound (P := P) (k3A  R) _ _ _ True.intro ?_
  exact Eq.mp (k3_eq  R x1a x1l x1c x2 x8 ρ m) h
theorem l1_eq  (K1 : Option Addr → Nat → Nat → Int → Int → Option Addr → Int → Mem → Prop) (R : Ending → Mem → Prop) (x1a : Option Addr) (x1l : Nat) (x1c : Nat) (x2 : Int) (x7 : Int) (x8 : Option Addr) (x9 : Int) (ρ : Env) (m : Mem) : l1B  K1 x1a x1l x1c x2 x7 x8 x9 R m = acpt P od (panicR R) (l1A  K1 R) (thenQ (l1E K1) (blockQ 0 (thenQ (acpt P od (panicR R) (.cut (k3E fun x1a x1l x1c x2 x8 m => k3  x1a x1l x1c x2 x8 R m) (sR (sR (sR (sR (sR (sR (body)))))))) (bodyQ P fn R)) (bodyQ P fn R)))) (upd (upd (upd (upd (upd ρ 9 (.int .i64 x9)) 8 (.pointer x8)) 7 (.int .i64 x7)) 2 (.int .u8 x2)) 1 (.slice x1a x1l x1c)) m := by kernel_rfl
theorem l1_er  (K1 : Option Addr → Nat → Nat → Int → Int → Option Addr → Int → Mem → Prop) (R : Ending → Mem → Prop) : (l1A  K1 R).erase = lP (bB (sR (sL (sR (sR (sR (sR (sR (body))))))))) := by kernel_rfl
theorem l1_ok  (R : Ending → Mem → Prop) (ρ : Env) (m : Mem) (h : (l1E fun x1a x1l x1c x2 x7 x8 x9 m => l1  x1a x1l x1c x2 x7 x8 x9 R m) ρ m) : cpt P od (panicR R) (.loop (lP (bB (sR (sL (sR (sR (sR (sR (sR (body))))))))))) (blockQ 0 (thenQ (acpt P od (panicR R) (.cut (k3E fun x1a x1l x1c x2 x8 m => k3  x1a x1l x1c x2 x8 R m) (sR (sR (sR (sR (sR (sR (body)))))))) (bodyQ P fn R)) (bodyQ P fn R))) ρ m := by
  unfold l1E at h
  obtain ⟨x1a, x1l, x1c, e1, h⟩ := h.ex
  obtain ⟨x2, e2, h⟩ := h.ex
  obtain ⟨x7, e7, h⟩ := h.ex
  obtain ⟨x8, e8, h⟩ := h.ex
  obtain ⟨x9, e9, h⟩ := h.ex
  obtain ⟨I, N, h0, hs⟩ := h
  refine ⟨fun N => l1E (I N), N, (by show l1E (I N) ρ m; unfold l1E; rw [e1, e2, e7, e8, e9]; exact h0), ?_⟩
  clear h0 e1 e2 e7 e8 e9
  intro N ρ m h
  unfold l1E at h
  obtain ⟨x1a, x1l, x1c, e1, h⟩ := h.ex
  obtain ⟨x2, e2, h⟩ := h.ex
  obtain ⟨x7, e7, h⟩ := h.ex
  obtain ⟨x8, e8, h⟩ := h.ex
  obtain ⟨x9, e9, h⟩ := h.ex
  refine cpt_mono (P := P) (lP (bB (sR (sL (sR (sR (sR (sR (sR (body)))))))))) (Q := thenQ (l1E fun x1a x1l x1c x2 x7 x8 x9 m => ∃ N1, N1 < N ∧ I N1 x1a x1l x1c x2 x7 x8 x9 m) (blockQ 0 (thenQ (acpt P od (panicR R) (.cut (k3E fun x1a x1l x1c x2 x8 m => k3  x1a x1l x1c x2 x8 R m) (sR (sR (sR (sR (sR (sR (body)))))))) (bodyQ P fn R)) (bodyQ P fn R)))) (fun e ρ m h => ?_) ρ m ?_
  · cases e with
    | normal =>
      have h : l1E (fun x1a x1l x1c x2 x7 x8 x9 m => ∃ N1, N1 < N ∧ I N1 x1a x1l x1c x2 x7 x8 x9 m) ρ m := h
      unfold l1E at h
      obtain ⟨x1a, x1l, x1c, e1, h⟩ := h.ex
      obtain ⟨x2, e2, h⟩ := h.ex
      obtain ⟨x7, e7, h⟩ := h.ex
      obtain ⟨x8, e8, h⟩ := h.ex
      obtain ⟨x9, e9, h⟩ := h.ex
      obtain ⟨N1, hlt, h⟩ := h
      exact ⟨N1, hlt, (by show l1E (I N1) ρ m; unfold l1E; rw [e1, e2, e7, e8, e9]; exact h)⟩
    | _ => exact h
  have hh := hs N x1a x1l x1c x2 x7 x8 x9 m h
  generalize (fun x1a x1l x1c x2 x7 x8 x9 m => ∃ N1, N1 < N ∧ I N1 x1a x1l x1c x2 x7 x8 x9 m : Option Addr → Nat → Nat → Int → Int → Option Addr → Int → Mem → Prop) = K1 at hh ⊢
  rw [← upd_self e1, ← upd_self e2, ← upd_self e7, ← upd_self e8, ← upd_self e9]
  rw [← l1_er  K1 R]
  refine acpt_sound (P := P) (l1A  K1 R) _ _ _ ⟨⟨True.intro, ⟨⟨⟨⟨(fun ρ m h => k2_ok K1 R ρ m h), True.intro⟩, True.intro⟩, True.intro⟩, True.intro⟩⟩, True.intro⟩ ?_
  exact Eq.mp (l1_eq  K1 R x1a x1l x1c x2 x7 x8 x9 ρ m) hh
theorem e0_eq (a0 : Int) (a1a : Option Addr) (a1l : Nat) (a1c : Nat) (a2 : Int) (R : Ending → Mem → Prop) (m : Mem) : e0 a0 a1a a1l a1c a2 R m = acpt P od (panicR R) (e0A R) (bodyQ P fn R) (argE (#[.int .u8 a0, .slice a1a a1l a1c, .int .u8 a2] : Array Value).toList) m := by kernel_rfl
theorem ok (a0 : Int) (a1a : Option Addr) (a1l : Nat) (a1c : Nat) (a2 : Int) (R : Ending → Mem → Prop) (m : Mem) (h : e0 a0 a1a a1l a1c a2 R m) : HC P id #[.int .u8 a0, .slice a1a a1l a1c, .int .u8 a2] m R := by
  refine HC_of (fn := fn) (c := body) (od := od) (tb := tb) Go.Proofs.Try.func5 (by kernel_rfl) (by kernel_rfl) follows (by kernel_rfl) (of_decide_eq_true (by kernel_rfl)) ?_
  have he : (e0A R).erase = body := by kernel_rfl
  rw [← he]
  refine acpt_sound (P := P) (e0A R) _ _ _ ⟨⟨⟨⟨⟨⟨(fun ρ m h => k3_ok  R ρ m h), ⟨(fun ρ m h => l1_ok  R ρ m h), True.intro⟩⟩, True.intro⟩, True.intro⟩, True.intro⟩, True.intro⟩, True.intro⟩ ?_
  exact Eq.mp (e0_eq a0 a1a a1l a1c a2 R m) h
end eyotlaw4_CacheFull

/-! ### eyot/eyotlaw4.CacheAll -/
namespace eyotlaw4_CacheAll
noncomputable def fn : Func := Go.Proofs.Try.f6
noncomputable def body : Code := fn.body.getD .skip
def od : Nat → Ord := fun _ => .done
def tb : Nat → Tab := fun _ => (0, [], [])
def l3E (K : Option Addr → Nat → Nat → Option Addr → Nat → Nat → Int → Option Addr → Nat → Nat → Int → Mem → Prop) : Env → Mem → Prop := fun ρ m => UnS (ρ 1) fun x1a x1l x1c => UnP (ρ 5) fun x5 => UnPA (ρ 6) fun x6b x6o => UnI (ρ 7) .i64 fun x7 => UnS (ρ 18) fun x18a x18l x18c => UnI (ρ 19) .i64 fun x19 => K x1a x1l x1c x5 x6b x6o x7 x18a x18l x18c x19 m
def l3B (K1 : Option Addr → Nat → Nat → Option Addr → Nat → Nat → Int → Mem → Prop) (K3 : Option Addr → Nat → Nat → Option Addr → Nat → Nat → Int → Option Addr → Nat → Nat → Int → Mem → Prop) (x1a : Option Addr) (x1l : Nat) (x1c : Nat) (x5 : Option Addr) (x6b : Nat) (x6o : Nat) (x7 : Int) (x18a : Option Addr) (x18l : Nat) (x18c : Nat) (x19 : Int) (R : Ending → Mem → Prop) (m : Mem) : Prop :=
  Br (decide (x19 < ((x18l : Nat) : Int))) (
    IxS x18a x18l x19 1 fun x143b x143o =>
    St1 m x143b x143o (.int .i64 (-9)) fun m1 =>
    K3 x1a x1l x1c x5 x6b x6o x7 x18a x18l x18c (IntKind.i64.wrap (x19 + 1)) m1) (
    K1 x1a x1l x1c x5 x6b x6o (IntKind.i64.wrap (x7 + 1)) m)
def l3 (K1 : Option Addr → Nat → Nat → Option Addr → Nat → Nat → Int → Mem → Prop) (x1a : Option Addr) (x1l : Nat) (x1c : Nat) (x5 : Option Addr) (x6b : Nat) (x6o : Nat) (x7 : Int) (x18a : Option Addr) (x18l : Nat) (x18c : Nat) (x19 : Int) (R : Ending → Mem → Prop) (m : Mem) : Prop :=
  ∃ (I : Nat → Option Addr → Nat → Nat → Option Addr → Nat → Nat → Int → Option Addr → Nat → Nat → Int → Mem → Prop) (N : Nat), I N x1a x1l x1c x5 x6b x6o x7 x18a x18l x18c x19 m ∧ ∀ N x1a x1l x1c x5 x6b x6o x7 x18a x18l x18c x19 m, I N x1a x1l x1c x5 x6b x6o x7 x18a x18l x18c x19 m → l3B K1 (fun x1a x1l x1c x5 x6b x6o x7 x18a x18l x18c x19 m => ∃ N1, N1 < N ∧ I N1 x1a x1l x1c x5 x6b x6o x7 x18a x18l x18c x19 m) x1a x1l x1c x5 x6b x6o x7 x18a x18l x18c x19 R m
noncomputable def l3A (K1 : Option Addr → Nat → Nat → Option Addr → Nat → Nat → Int → Mem → Prop) (K3 : Option Addr → Nat → Nat → Option Addr → Nat → Nat → Int → Option Addr → Nat → Nat → Int → Mem → Prop) (R : Ending → Mem → Prop) : ACode := (.code (lP (bB (sR (sR (sR (sR (sR (bB (sL (sR (lP (bB (sR (sL (sR (sR (sR (sR (body))))))))))))))))))))
def k2E (K : Option Addr → Nat → Nat → Option Addr → Nat → Nat → Int → Mem → Prop) : Env → Mem → Prop := fun ρ m => UnS (ρ 1) fun x1a x1l x1c => UnP (ρ 5) fun x5 => UnPA (ρ 6) fun x6b x6o => UnI (ρ 7) .i64 fun x7 => K x1a x1l x1c x5 x6b x6o x7 m
def k2 (K1 : Option Addr → Nat → Nat → Option Addr → Nat → Nat → Int → Mem → Prop) (x1a : Option Addr) (x1l : Nat) (x1c : Nat) (x5 : Option Addr) (x6b : Nat) (x6o : Nat) (x7 : Int) (R : Ending → Mem → Prop) (m : Mem) : Prop :=
  HC P lru_Cache_int_Keys.id #[.pointer x5] m (Cont (fun v m1 =>
      UnS v fun x127a x127l x127c =>
      LdV m1 x6b (x6o + 1) fun v =>
      UnS v fun x132a x132l x132c =>
      HC P eyotref13_SameInts.id #[.slice x127a x127l x127c, .slice x132a x132l x132c] m1 (Cont (fun v m2 =>
          UnB v fun x133 =>
          Br (!x133) (
            R (.returned (.bool false)) m2) (
            l3 K1 x1a x1l x1c x5 x6b x6o x7 x127a x127l x127c 0 R m2)) (panicR R))) (panicR R))
noncomputable def k2A (K1 : Option Addr → Nat → Nat → Option Addr → Nat → Nat → Int → Mem → Prop) (R : Ending → Mem → Prop) : ACode := (.seq (.code (sL (sR (sR (bB (sL (sR (lP (bB (sR (sL (sR (sR (sR (sR (body)))))))))))))))) (.seq (.code (sL (sR (sR (sR (bB (sL (sR (lP (bB (sR (sL (sR (sR (sR (sR (body))))))))))))))))) (.seq (.code (sL (sR (sR (sR (sR (bB (sL (sR (lP (bB (sR (sL (sR (sR (sR (sR (body)))))))))))))))))) (.block 3 (.cut (l3E fun x1a x1l x1c x5 x6b x6o x7 x18a x18l x18c x19 m => l3 K1 x1a x1l x1c x5 x6b x6o x7 x18a x18l x18c x19 R m) (.loop (lP (bB (sR (sR (sR (sR (sR (bB (sL (sR (lP (bB (sR (sL (sR (sR (sR (sR (body)))))))))))))))))))))))))
def k4E (K : Mem → Prop) : Env → Mem → Prop := fun ρ m => K  m
def k4   (R : Ending → Mem → Prop) (m : Mem) : Prop :=
  NewC m #[.int .i64 0, .slice none 0 0] T_lru_Cache_string fun b145 m1 =>
  HC P lru_Cache_string_Get.id #[.pointer none, .int .i64 1] m1 (Cont (fun v m2 =>
      UnTup v fun us0 =>
      UnCons us0 fun w us1 =>
      UnStr w fun x148_0 =>
      UnCons us1 fun w us2 =>
      UnB w fun x148_1 =>
      UnNil us2 (
        HC P lru_Cache_string_Put.id #[.pointer none, .int .i64 1, .string (ByteArray.mk #[120])] m2 (Cont (fun v m3 =>
            UnTup v fun us0 =>
            UnCons us0 fun w us1 =>
            UnI w .i64 fun x153_0 =>
            UnCons us1 fun w us2 =>
            UnB w fun x153_1 =>
            UnNil us2 (
              HC P lru_Cache_string_Clear.id #[.pointer none] m3 (Cont (fun v m4 =>
                  UnTup v fun us0 =>
                  UnNil us0 (
                    HC P lru_Cache_string_Put.id #[.pointer (some ⟨b145, 0, none⟩), .int .i64 1, .string (ByteArray.mk #[120])] m4 (Cont (fun v m5 =>
                        UnTup v fun us0 =>
                        UnCons us0 fun w us1 =>
                        UnI w .i64 fun x160_0 =>
                        UnCons us1 fun w us2 =>
                        UnB w fun x160_1 =>
                        UnNil us2 (
                        HC P lru_Cache_string_Put.id #[.pointer (some ⟨b145, 0, none⟩), .int .i64 2, .string (ByteArray.mk #[121])] m5 (Cont (fun v m6 =>
                        UnTup v fun us0 =>
                        UnCons us0 fun w us1 =>
                        UnI w .i64 fun x165_0 =>
                        UnCons us1 fun w us2 =>
                        UnB w fun x165_1 =>
                        UnNil us2 (
                        HC P lru_Cache_string_Get.id #[.pointer (some ⟨b145, 0, none⟩), .int .i64 2] m6 (Cont (fun v m7 =>
                        UnTup v fun us0 =>
                        UnCons us0 fun w us1 =>
                        UnStr w fun x170_0 =>
                        UnCons us1 fun w us2 =>
                        UnB w fun x170_1 =>
                        UnNil us2 (
                        Br (!x148_1) (
                        Br (!x153_1) (
                        HC P lru_Cache_string_Drop.id #[.pointer none, .int .i64 1] m7 (Cont (fun v m8 =>
                        UnB v fun x181 =>
                        Br (!x181) (
                        HC P lru_Cache_string_Keys.id #[.pointer none] m8 (Cont (fun v m9 =>
                        UnS v fun x186a x186l x186c =>
                        Br (((x186l : Nat) : Int) == 0) (
                        Br (!x160_1) (
                        Br x165_1 (
                        Br (x165_0 == 1) (
                        Br x170_1 (
                        R (.returned (.bool (x170_0.toList == (ByteArray.mk #[121]).toList))) m9) (
                        R (.returned (.bool false)) m9)) (
                        R (.returned (.bool false)) m9)) (
                        R (.returned (.bool false)) m9)) (
                        R (.returned (.bool false)) m9)) (
                        R (.returned (.bool false)) m9)) (panicR R))) (
                        R (.returned (.bool false)) m8)) (panicR R))) (
                        R (.returned (.bool false)) m7)) (
                        R (.returned (.bool false)) m7))) (panicR R)))) (panicR R)))) (panicR R)))) (panicR R)))) (panicR R)))) (panicR R))
noncomputable def k4A  (R : Ending → Mem → Prop) : ACode := (.code (sR (sR (sR (sR (sR (body)))))))
def l1E (K : Option Addr → Nat → Nat → Option Addr → Nat → Nat → Int → Mem → Prop) : Env → Mem → Prop := fun ρ m => UnS (ρ 1) fun x1a x1l x1c => UnP (ρ 5) fun x5 => UnPA (ρ 6) fun x6b x6o => UnI (ρ 7) .i64 fun x7 => K x1a x1l x1c x5 x6b x6o x7 m
def l1B  (K1 : Option Addr → Nat → Nat → Option Addr → Nat → Nat → Int → Mem → Prop) (x1a : Option Addr) (x1l : Nat) (x1c : Nat) (x5 : Option Addr) (x6b : Nat) (x6o : Nat) (x7 : Int) (R : Ending → Mem → Prop) (m : Mem) : Prop :=
  Br (decide (x7 < ((x1l : Nat) : Int))) (
    IxS x1a x1l x7 1 fun x50b x50o =>
    LdV m x50b x50o fun v =>
    UnI v .u16 fun x51 =>
    IxS x1a x1l x7 1 fun x57b x57o =>
    LdV m x57b x57o fun v =>
    UnI v .u16 fun x58 =>
    Br (decide ((Int.tmod x58 10) < 5)) (
      HC P lru_Cache_int_Put.id #[.pointer x5, .int .i64 (Int.tmod (IntKind.i64.wrap (IntKind.u16.wrap (Int.tdiv x51 10))) 12), .int .i64 x7] m (Cont (fun v m1 =>
          UnTup v fun us0 =>
          UnCons us0 fun w us1 =>
          UnI w .i64 fun x75_0 =>
          UnCons us1 fun w us2 =>
          UnB w fun x75_1 =>
          UnNil us2 (
            HC P eyotref3_Cache_Put.id #[.pointer (some ⟨x6b, x6o, none⟩), .int .i64 (Int.tmod (IntKind.i64.wrap (IntKind.u16.wrap (Int.tdiv x51 10))) 12), .int .i64 x7] m1 (Cont (fun v m2 =>
                UnTup v fun us0 =>
                UnCons us0 fun w us1 =>
                UnI w .i64 fun x82_0 =>
                UnCons us1 fun w us2 =>
                UnB w fun x82_1 =>
                UnNil us2 (
                  Br (x75_0 != x82_0) (
                    R (.returned (.bool false)) m2) (
                    Br (!(x75_1 == x82_1)) (
                      R (.returned (.bool false)) m2) (
                      k2 K1 x1a x1l x1c x5 x6b x6o x7 R m2)))) (panicR R)))) (panicR R))) (
      Br (decide ((Int.tmod x58 10) < 8)) (
        HC P lru_Cache_int_Get.id #[.pointer x5, .int .i64 (Int.tmod (IntKind.i64.wrap (IntKind.u16.wrap (Int.tdiv x51 10))) 12)] m (Cont (fun v m1 =>
            UnTup v fun us0 =>
            UnCons us0 fun w us1 =>
            UnI w .i64 fun x99_0 =>
            UnCons us1 fun w us2 =>
            UnB w fun x99_1 =>
            UnNil us2 (
              HC P eyotref3_Cache_Get.id #[.pointer (some ⟨x6b, x6o, none⟩), .int .i64 (Int.tmod (IntKind.i64.wrap (IntKind.u16.wrap (Int.tdiv x51 10))) 12)] m1 (Cont (fun v m2 =>
                  UnTup v fun us0 =>
                  UnCons us0 fun w us1 =>
                  UnI w .i64 fun x105_0 =>
                  UnCons us1 fun w us2 =>
                  UnB w fun x105_1 =>
                  UnNil us2 (
                    Br (x99_0 != x105_0) (
                      R (.returned (.bool false)) m2) (
                      Br (!(x99_1 == x105_1)) (
                        R (.returned (.bool false)) m2) (
                        k2 K1 x1a x1l x1c x5 x6b x6o x7 R m2)))) (panicR R)))) (panicR R))) (
        Br ((Int.tmod x58 10) == 8) (
          HC P lru_Cache_int_Drop.id #[.pointer x5, .int .i64 (Int.tmod (IntKind.i64.wrap (IntKind.u16.wrap (Int.tdiv x51 10))) 12)] m (Cont (fun v m1 =>
              UnB v fun x121 =>
              HC P eyotref3_Cache_Drop.id #[.pointer (some ⟨x6b, x6o, none⟩), .int .i64 (Int.tmod (IntKind.i64.wrap (IntKind.u16.wrap (Int.tdiv x51 10))) 12)] m1 (Cont (fun v m2 =>
                  UnB v fun x124 =>
                  Br (!(x121 == x124)) (
                    R (.returned (.bool false)) m2) (
                    k2 K1 x1a x1l x1c x5 x6b x6o x7 R m2)) (panicR R))) (panicR R))) (
          HC P lru_Cache_int_Clear.id #[.pointer x5] m (Cont (fun v m1 =>
              UnTup v fun us0 =>
              UnNil us0 (
                St1 m1 x6b (x6o + 1) (.slice none 0 0) fun m2 =>
                St1 m2 x6b (x6o + 2) (.slice none 0 0) fun m3 =>
                k2 K1 x1a x1l x1c x5 x6b x6o x7 R m3)) (panicR R)))))) (
    k4   R m)
def l1  (x1a : Option Addr) (x1l : Nat) (x1c : Nat) (x5 : Option Addr) (x6b : Nat) (x6o : Nat) (x7 : Int) (R : Ending → Mem → Prop) (m : Mem) : Prop :=
  ∃ (I : Nat → Option Addr → Nat → Nat → Option Addr → Nat → Nat → Int → Mem → Prop) (N : Nat), I N x1a x1l x1c x5 x6b x6o x7 m ∧ ∀ N x1a x1l x1c x5 x6b x6o x7 m, I N x1a x1l x1c x5 x6b x6o x7 m → l1B  (fun x1a x1l x1c x5 x6b x6o x7 m => ∃ N1, N1 < N ∧ I N1 x1a x1l x1c x5 x6b x6o x7 m) x1a x1l x1c x5 x6b x6o x7 R m
noncomputable def l1A  (K1 : Option Addr → Nat → Nat → Option Addr → Nat → Nat → Int → Mem → Prop) (R : Ending → Mem → Prop) : ACode := (.seq (.code (sL (lP (bB (sR (sL (sR (sR (sR (sR (body))))))))))) (.seq (.block 1 (.seq (.code (sL (bB (sL (sR (lP (bB (sR (sL (sR (sR (sR (sR (body)))))))))))))) (.seq (.code (sL (sR (bB (sL (sR (lP (bB (sR (sL (sR (sR (sR (sR (body))))))))))))))) (.cut (k2E fun x1a x1l x1c x5 x6b x6o x7 m => k2 K1 x1a x1l x1c x5 x6b x6o x7 R m) (sR (sR (bB (sL (sR (lP (bB (sR (sL (sR (sR (sR (sR (body)))))))))))))))))) (.code (sR (sR (lP (bB (sR (sL (sR (sR (sR (sR (body))))))))))))))
def e0 (a0 : Int) (a1a : Option Addr) (a1l : Nat) (a1c : Nat) (R : Ending → Mem → Prop) (m : Mem) : Prop :=
  HC P eyotlaw4_begun.id #[] m (Cont (fun v m1 =>
      UnB v fun x32 =>
      Br (!x32) (
        R (.returned (.bool false)) m1) (
        Br (decide (((a1l : Nat) : Int) > 80)) (
          R (.returned (.bool true)) m1) (
          HC P lru_New_int.id #[.int .i64 a0] m1 (Cont (fun v m2 =>
              UnP v fun x38 =>
              NewC m2 #[.int .i64 a0, .slice none 0 0, .slice none 0 0] T_eyotref3_Cache fun b41 m3 =>
              l1  a1a a1l a1c x38 b41 0 0 R m3) (panicR R))))) (panicR R))
noncomputable def e0A (R : Ending → Mem → Prop) : ACode := (.seq (.code (sL (body))) (.seq (.code (sL (sR (body)))) (.seq (.code (sL (sR (sR (body))))) (.seq (.code (sL (sR (sR (sR (body)))))) (.seq (.seq (.code (sL (sL (sR (sR (sR (sR (body)))))))) (.block 0 (.cut (l1E fun x1a x1l x1c x5 x6b x6o x7 m => l1  x1a x1l x1c x5 x6b x6o x7 R m) (.loop (lP (bB (sR (sL (sR (sR (sR (sR (body))))))))))))) (.cut (k4E fun  m => k4   R m) (sR (sR (sR (sR (sR (body))))))))))))
theorem l3_eq (K1 : Option Addr → Nat → Nat → Option Addr → Nat → Nat → Int → Mem → Prop) (K3 : Option Addr → Nat → Nat → Option Addr → Nat → Nat → Int → Option Addr → Nat → Nat → Int → Mem → Prop) (R : Ending → Mem → Prop) (x1a : Option Addr) (x1l : Nat) (x1c : Nat) (x5 : Option Addr) (x6b : Nat) (x6o : Nat) (x7 : Int) (x18a : Option Addr) (x18l : Nat) (x18c : Nat) (x19 : Int) (ρ : Env) (m : Mem) : l3B K1 K3 x1a x1l x1c x5 x6b x6o x7 x18a x18l x18c x19 R m = acpt P od (panicR R) (l3A K1 K3 R) (thenQ (l3E K3) (blockQ 3 (blockQ 1 (thenQ (acpt P od (panicR R) (.code (sR (sR (lP (bB (sR (sL (sR (sR (sR (sR (body)))))))))))) (thenQ (l1E K1) (blockQ 0 (thenQ (acpt P od (panicR R) (.cut (k4E fun  m => k4   R m) (sR (sR (sR (sR (sR (body))))))) (bodyQ P fn R)) (bodyQ P fn R))))) (thenQ (l1E K1) (blockQ 0 (thenQ (acpt P od (panicR R) (.cut (k4E fun  m => k4   R m) (sR (sR (sR (sR (sR (body))))))) (bodyQ P fn R)) (bodyQ P fn R)))))))) (upd (upd (upd (upd (upd (upd ρ 19 (.int .i64 x19)) 18 (.slice x18a x18l x18c)) 7 (.int .i64 x7)) 6 (.pointer (some ⟨x6b, x6o, none⟩))) 5 (.pointer x5)) 1 (.slice x1a x1l x1c)) m := by kernel_rfl
theorem l3_er (K1 : Option Addr → Nat → Nat → Option Addr → Nat → Nat → Int → Mem → Prop) (K3 : Option Addr → Nat → Nat → Option Addr → Nat → Nat → Int → Option Addr → Nat → Nat → Int → Mem → Prop) (R : Ending → Mem → Prop) : (l3A K1 K3 R).erase = lP (bB (sR (sR (sR (sR (sR (bB (sL (sR (lP (bB (sR (sL (sR (sR (sR (sR (body)))))))))))))))))) := by kernel_rfl
theorem l3_ok (K1 : Option Addr → Nat → Nat → Option Addr → Nat → Nat → Int → Mem → Prop) (R : Ending → Mem → Prop) (ρ : Env) (m : Mem) (h : (l3E fun x1a x1l x1c x5 x6b x6o x7 x18a x18l x18c x19 m => l3 K1 x1a x1l x1c x5 x6b x6o x7 x18a x18l x18c x19 R m) ρ m) : cpt P od (panicR R) (.loop (lP (bB (sR (sR (sR (sR (sR (bB (sL (sR (lP (bB (sR (sL (sR (sR (sR (sR (body)))))))))))))))))))) (blockQ 3 (blockQ 1 (thenQ (acpt P od (panicR R) (.code (sR (sR (lP (bB (sR (sL (sR (sR (sR (sR (body)))))))))))) (thenQ (l1E K1) (blockQ 0 (thenQ (acpt P od (panicR R) (.cut (k4E fun  m => k4   R m) (sR (sR (sR (sR (sR (body))))))) (bodyQ P fn R)) (bodyQ P fn R))))) (thenQ (l1E K1) (blockQ 0 (thenQ (acpt P od (panicR R) (.cut (k4E fun  m => k4   R m) (sR (sR (sR (sR (sR (body))))))) (bodyQ P fn R)) (bodyQ P fn R))))))) ρ m := by
  unfold l3E at h
  obtain ⟨x1a, x1l, x1c, e1, h⟩ := h.ex
  obtain ⟨x5, e5, h⟩ := h.ex
  obtain ⟨x6b, x6o, e6, h⟩ := h.ex
  obtain ⟨x7, e7, h⟩ := h.ex
  obtain ⟨x18a, x18l, x18c, e18, h⟩ := h.ex
  obtain ⟨x19, e19, h⟩ := h.ex
  obtain ⟨I, N, h0, hs⟩ := h
  refine ⟨fun N => l3E (I N), N, (by show l3E (I N) ρ m; unfold l3E; rw [e1, e5, e6, e7, e18, e19]; exact h0), ?_⟩
  clear h0 e1 e5 e6 e7 e18 e19
  intro N ρ m h
  unfold l3E at h
  obtain ⟨x1a, x1l, x1c, e1, h⟩ := h.ex
  obtain ⟨x5, e5, h⟩ := h.ex
  obtain ⟨x6b, x6o, e6, h⟩ := h.ex
  obtain ⟨x7, e7, h⟩ := h.ex
  obtain ⟨x18a, x18l, x18c, e18, h⟩ := h.ex
  obtain ⟨x19, e19, h⟩ := h.ex
  refine cpt_mono (P := P) (lP (bB (sR (sR (sR (sR (sR (bB (sL (sR (lP (bB (sR (sL (sR (sR (sR (sR (body))))))))))))))))))) (Q := thenQ (l3E fun x1a x1l x1c x5 x6b x6o x7 x18a x18l x18c x19 m => ∃ N1, N1 < N ∧ I N1 x1a x1l x1c x5 x6b x6o x7 x18a x18l x18c x19 m) (blockQ 3 (blockQ 1 (thenQ (acpt P od (panicR R) (.code (sR (sR (lP (bB (sR (sL (sR (sR (sR (sR (body)))))))))))) (thenQ (l1E K1) (blockQ 0 (thenQ (acpt P od (panicR R) (.cut (k4E fun  m => k4   R m) (sR (sR (sR (sR (sR (body))))))) (bodyQ P fn R)) (bodyQ P fn R))))) (thenQ (l1E K1) (blockQ 0 (thenQ (acpt P od (panicR R) (.cut (k4E fun  m => k4   R m) (sR (sR (sR (sR (sR (body))))))) (bodyQ P fn R)) (bodyQ P fn R)))))))) (fun e ρ m h => ?_) ρ m ?_
  · cases e with
    | normal =>
      have h : l3E (fun x1a x1l x1c x5 x6b x6o x7 x18a x18l x18c x19 m => ∃ N1, N1 < N ∧ I N1 x1a x1l x1c x5 x6b x6o x7 x18a x18l x18c x19 m) ρ m := h
      unfold l3E at h
      obtain ⟨x1a, x1l, x1c, e1, h⟩ := h.ex
      obtain ⟨x5, e5, h⟩ := h.ex
      obtain ⟨x6b, x6o, e6, h⟩ := h.ex
      obtain ⟨x7, e7, h⟩ := h.ex
      obtain ⟨x18a, x18l, x18c, e18, h⟩ := h.ex
      obtain ⟨x19, e19, h⟩ := h.ex
      obtain ⟨N1, hlt, h⟩ := h
      exact ⟨N1, hlt, (by show l3E (I N1) ρ m; unfold l3E; rw [e1, e5, e6, e7, e18, e19]; exact h)⟩
    | _ => exact h
  have hh := hs N x1a x1l x1c x5 x6b x6o x7 x18a x18l x18c x19 m h
  generalize (fun x1a x1l x1c x5 x6b x6o x7 x18a x18l x18c x19 m => ∃ N1, N1 < N ∧ I N1 x1a x1l x1c x5 x6b x6o x7 x18a x18l x18c x19 m : Option Addr → Nat → Nat → Option Addr → Nat → Nat → Int → Option Addr → Nat → Nat → Int → Mem → Prop) = K3 at hh ⊢
  rw [← upd_self e1, ← upd_self e5, ← upd_self e6, ← upd_self e7, ← upd_self e18, ← upd_self e19]
  rw [← l3_er K1 K3 R]
  refine acpt_sound (P := P) (l3A K1 K3 R) _ _ _ True.intro ?_
  exact Eq.mp (l3_eq K1 K3 R x1a x1l x1c x5 x6b x6o x7 x18a x18l x18c x19 ρ m) hh
theorem k2_eq (K1 : Option Addr → Nat → Nat → Option Addr → Nat → Nat → Int → Mem → Prop) (R : Ending → Mem → Prop) (x1a : Option Addr) (x1l : Nat) (x1c : Nat) (x5 : Option Addr) (x6b : Nat) (x6o : Nat) (x7 : Int) (ρ : Env) (m : Mem) : k2 K1 x1a x1l x1c x5 x6b x6o x7 R m = acpt P od (panicR R) (k2A K1 R) (blockQ 1 (thenQ (acpt P od (panicR R) (.code (sR (sR (lP (bB (sR (sL (sR (sR (sR (sR (body)))))))))))) (thenQ (l1E K1) (blockQ 0 (thenQ (acpt P od (panicR R) (.cut (k4E fun  m => k4   R m) (sR (sR (sR (sR (sR (body))))))) (bodyQ P fn R)) (bodyQ P fn R))))) (thenQ (l1E K1) (blockQ 0 (thenQ (acpt P od (panicR R) (.cut (k4E fun  m => k4   R m) (sR (sR (sR (sR (sR (body))))))) (bodyQ P fn R)) (bodyQ P fn R)))))) (upd (upd (upd (upd ρ 7 (.int .i64 x7)) 6 (.pointer (some ⟨x6b, x6o, none⟩))) 5 (.pointer x5)) 1 (.slice x1a x1l x1c)) m := by kernel_rfl
theorem k2_er (K1 : Option Addr → Nat → Nat → Option Addr → Nat → Nat → Int → Mem → Prop) (R : Ending → Mem → Prop) : (k2A K1 R).erase = sR (sR (bB (sL (sR (lP (bB (sR (sL (sR (sR (sR (sR (body))))))))))))) := by kernel_rfl
theorem k2_ok (K1 : Option Addr → Nat → Nat → Option Addr → Nat → Nat → Int → Mem → Prop) (R : Ending → Mem → Prop) (ρ : Env) (m : Mem) (h : (k2E fun x1a x1l x1c x5 x6b x6o x7 m => k2 K1 x1a x1l x1c x5 x6b x6o x7 R m) ρ m) : cpt P od (panicR R) (sR (sR (bB (sL (sR (lP (bB (sR (sL (sR (sR (sR (sR (body)))))))))))))) (blockQ 1 (thenQ (acpt P od (panicR R) (.code (sR (sR (lP (bB (sR (sL (sR (sR (sR (sR (body)))))))))))) (thenQ (l1E K1) (blockQ 0 (thenQ (acpt P od (panicR R) (.cut (k4E fun  m => k4   R m) (sR (sR (sR (sR (sR (body))))))) (bodyQ P fn R)) (bodyQ P fn R))))) (thenQ (l1E K1) (blockQ 0 (thenQ (acpt P od (panicR R) (.cut (k4E fun  m => k4   R m) (sR (sR (sR (sR (sR (body))))))) (bodyQ P fn R)) (bodyQ P fn R)))))) ρ m := by
  unfold k2E at h
  obtain ⟨x1a, x1l, x1c, e1, h⟩ := h.ex
  obtain ⟨x5, e5, h⟩ := h.ex
  obtain ⟨x6b, x6o, e6, h⟩ := h.ex
  obtain ⟨x7, e7, h⟩ := h.ex
  rw [← upd_self e1, ← upd_self e5, ← upd_self e6, ← upd_self e7]
  rw [← k2_er K1 R]
  refine acpt_sound (P := P) (k2A K1 R) _ _ _ ⟨⟨⟨(fun ρ m h => l3_ok K1 R ρ m h), True.intro⟩, True.intro⟩, True.intro⟩ ?_
  exact Eq.mp (k2_eq K1 R x1a x1l x1c x5 x6b x6o x7 ρ m) h
theorem k4_eq  (R : Ending → Mem → Prop)  (ρ : Env) (m : Mem) : k4   R m = acpt P od (panicR R) (k4A  R) (bodyQ P fn R) ρ m := by kernel_rfl
theorem k4_er  (R : Ending → Mem → Prop) : (k4A  R).erase = sR (sR (sR (sR (sR (body))))) := by kernel_rfl
theorem k4_ok  (R : Ending → Mem → Prop) (ρ : Env) (m : Mem) (h : (k4E fun  m => k4   R m) ρ m) : cpt P od (panicR R) (sR (sR (sR (sR (sR (body)))))) (bodyQ P fn R) ρ m := by
  unfold k4E at h
  rw [← k4_er  R]
  refine acpt_sound (P := P) (k4A  R) _ _ _ True.intro ?_
  exact Eq.mp (k4_eq  R  ρ m) h
theorem l1_eq  (K1 : Option Addr → Nat → Nat → Option Addr → Nat → Nat → Int → Mem → Prop) (R : Ending → Mem → Prop) (x1a : Option Addr) (x1l : Nat) (x1c : Nat) (x5 : Option Addr) (x6b : Nat) (x6o : Nat) (x7 : Int) (ρ : Env) (m : Mem) : l1B  K1 x1a x1l x1c x5 x6b x6o x7 R m = acpt P od (panicR R) (l1A  K1 R) (thenQ (l1E K1) (blockQ 0 (thenQ (acpt P od (panicR R) (.cut (k4E fun  m => k4   R m) (sR (sR (sR (sR (sR (body))))))) (bodyQ P fn R)) (bodyQ P fn R)))) (upd (upd (upd (upd ρ 7 (.int .i64 x7)) 6 (.pointer (some ⟨x6b, x6o, none⟩))) 5 (.pointer x5)) 1 (.slice x1a x1l x1c)) m := by kernel_rfl
theorem l1_er  (K1 : Option Addr → Nat → Nat → Option Addr → Nat → Nat → Int → Mem → Prop) (R : Ending → Mem → Prop) : (l1A  K1 R).erase = lP (bB (sR (sL (sR (sR (sR (sR (body)))))))) := by kernel_rfl
theorem l1_ok  (R : Ending → Mem → Prop) (ρ : Env) (m : Mem) (h : (l1E fun x1a x1l x1c x5 x6b x6o x7 m => l1  x1a x1l x1c x5 x6b x6o x7 R m) ρ m) : cpt P od (panicR R) (.loop (lP (bB (sR (sL (sR (sR (sR (sR (body)))))))))) (blockQ 0 (thenQ (acpt P od (panicR R) (.cut (k4E fun  m => k4   R m) (sR (sR (sR (sR (sR (body))))))) (bodyQ P fn R)) (bodyQ P fn R))) ρ m := by
  unfold l1E at h
  obtain ⟨x1a, x1l, x1c, e1, h⟩ := h.ex
  obtain ⟨x5, e5, h⟩ := h.ex
  obtain ⟨x6b, x6o, e6, h⟩ := h.ex
  obtain ⟨x7, e7, h⟩ := h.ex
  obtain ⟨I, N, h0, hs⟩ := h
  refine ⟨fun N => l1E (I N), N, (by show l1E (I N) ρ m; unfold l1E; rw [e1, e5, e6, e7]; exact h0), ?_⟩
  clear h0 e1 e5 e6 e7
  intro N ρ m h
  unfold l1E at h
  obtain ⟨x1a, x1l, x1c, e1, h⟩ := h.ex
  obtain ⟨x5, e5, h⟩ := h.ex
  obtain ⟨x6b, x6o, e6, h⟩ := h.ex
  obtain ⟨x7, e7, h⟩ := h.ex
  refine cpt_mono (P := P) (lP (bB (sR (sL (sR (sR (sR (sR (body))))))))) (Q := thenQ (l1E fun x1a x1l x1c x5 x6b x6o x7 m => ∃ N1, N1 < N ∧ I N1 x1a x1l x1c x5 x6b x6o x7 m) (blockQ 0 (thenQ (acpt P od (panicR R) (.cut (k4E fun  m => k4   R m) (sR (sR (sR (sR (sR (body))))))) (bodyQ P fn R)) (bodyQ P fn R)))) (fun e ρ m h => ?_) ρ m ?_
  · cases e with
    | normal =>
      have h : l1E (fun x1a x1l x1c x5 x6b x6o x7 m => ∃ N1, N1 < N ∧ I N1 x1a x1l x1c x5 x6b x6o x7 m) ρ m := h
      unfold l1E at h
      obtain ⟨x1a, x1l, x1c, e1, h⟩ := h.ex
      obtain ⟨x5, e5, h⟩ := h.ex
      obtain ⟨x6b, x6o, e6, h⟩ := h.ex
      obtain ⟨x7, e7, h⟩ := h.ex
      obtain ⟨N1, hlt, h⟩ := h
      exact ⟨N1, hlt, (by show l1E (I N1) ρ m; unfold l1E; rw [e1, e5, e6, e7]; exact h)⟩
    | _ => exact h
  have hh := hs N x1a x1l x1c x5 x6b x6o x7 m h
  generalize (fun x1a x1l x1c x5 x6b x6o x7 m => ∃ N1, N1 < N ∧ I N1 x1a x1l x1c x5 x6b x6o x7 m : Option Addr → Nat → Nat → Option Addr → Nat → Nat → Int → Mem → Prop) = K1 at hh ⊢
  rw [← upd_self e1, ← upd_self e5, ← upd_self e6, ← upd_self e7]
  rw [← l1_er  K1 R]
  refine acpt_sound (P := P) (l1A  K1 R) _ _ _ ⟨⟨True.intro, ⟨⟨(fun ρ m h => k2_ok K1 R ρ m h), True.intro⟩, True.intro⟩⟩, True.intro⟩ ?_
  exact Eq.mp (l1_eq  K1 R x1a x1l x1c x5 x6b x6o x7 ρ m) hh
theorem e0_eq (a0 : Int) (a1a : Option Addr) (a1l : Nat) (a1c : Nat) (R : Ending → Mem → Prop) (m : Mem) : e0 a0 a1a a1l a1c R m = acpt P od (panicR R) (e0A R) (bodyQ P fn R) (argE (#[.int .i64 a0, .slice a1a a1l a1c] : Array Value).toList) m := by kernel_rfl
theorem ok (a0 : Int) (a1a : Option Addr) (a1l : Nat) (a1c : Nat) (R : Ending → Mem → Prop) (m : Mem) (h : e0 a0 a1a a1l a1c R m) : HC P id #[.int .i64 a0, .slice a1a a1l a1c] m R := by
  refine HC_of (fn := fn) (c := body) (od := od) (tb := tb) Go.Proofs.Try.func6 (by kernel_rfl) (by kernel_rfl) follows (by kernel_rfl) (of_decide_eq_true (by kernel_rfl)) ?_
  have he : (e0A R).erase = body := by kernel_rfl
  rw [← he]
  refine acpt_sound (P := P) (e0A R) _ _ _ ⟨⟨⟨⟨⟨(fun ρ m h => k4_ok  R ρ m h), ⟨(fun ρ m h => l1_ok  R ρ m h), True.intro⟩⟩, True.intro⟩, True.intro⟩, True.intro⟩, True.intro⟩ ?_
  exact Eq.mp (e0_eq a0 a1a a1l a1c R m) h
end eyotlaw4_CacheAll

/-! ### eyot/eyotlaw4.CacheDrops -/
namespace eyotlaw4_CacheDrops
noncomputable def fn : Func := Go.Proofs.Try.f7
noncomputable def body : Code := fn.body.getD .skip
def od : Nat → Ord := fun | 15 => ordL [(1, 3), (2, 3), (3, 3), (5, 3), (6, 3), (7, 3), (8, 3), (0, 2), (4, 2), (9, 2), (10, 3)] .done | _ => .done
def tb : Nat → Tab := fun | 15 => (529, [0, 0, 0, 6, 15, 0, 0, 64, 224, 511, 1023], [(0, 0, 57), (0, 128, 58), (0, 256, 59), (6, 432345564227567616, 60), (9, 648518346341351424, 61), (0, 128, 62), (0, 256, 63), (64, 4611686018427387904, 64), (160, 11529215046068469760, 65), (272, 19599665578316398592, 66), (1023, 36893488147419103232, 11)]) | _ => (0, [], [])
def k2E (K : Option Addr → Nat → Nat → Int → Option Addr → Mem → Prop) : Env → Mem → Prop := fun ρ m => UnS (ρ 0) fun x0a x0l x0c => UnI (ρ 1) .u8 fun x1 => UnP (ρ 5) fun x5 => K x0a x0l x0c x1 x5 m
def k2  (x0a : Option Addr) (x0l : Nat) (x0c : Nat) (x1 : Int) (x5 : Option Addr) (R : Ending → Mem → Prop) (m : Mem) : Prop :=
  HC P lru_Cache_int_Keys.id #[.pointer x5] m (Cont (fun v m1 =>
      UnS v fun x41a x41l x41c =>
      Br (((x41l : Nat) : Int) == 0) (
        R (.returned (.bool false)) m1) (
        NzI ((x41l : Nat) : Int) (
          IxS x41a x41l (Int.tmod (IntKind.i64.wrap x1) ((x41l : Nat) : Int)) 1 fun x53b x53o =>
          LdV m1 x53b x53o fun v =>
          UnI v .i64 fun x54 =>
          HC P lru_Cache_int_Drop.id #[.pointer x5, .int .i64 x54] m1 (Cont (fun v m2 =>
              UnB v fun x55 =>
              Sub m2 fun r3 =>
              SlS x41a x41c 0 (Int.tmod (IntKind.i64.wrap x1) ((x41l : Nat) : Int)) 1 fun x59a x59l x59c =>
              SlS x41a x41c (IntKind.i64.wrap ((Int.tmod (IntKind.i64.wrap x1) ((x41l : Nat) : Int)) + 1)) x41l 1 fun x64a x64l x64c =>
              NewC m2 #[] T_int fun b56 m4 =>
              BiN P .append #[T_sl_int, T_sl_int] T_sl_int #[false, false] #[.slice (some ⟨b56, 0, none⟩) 0 0, .slice x59a x59l x59c] m4 (fun w m5 =>
                UnS w fun x60a x60l x60c =>
                BiN P .append #[T_sl_int, T_sl_int] T_sl_int #[false, false] #[.slice x60a x60l x60c, .slice x64a x64l x64c] m5 (fun w m6 =>
                  UnS w fun x65a x65l x65c =>
                  IxS x41a x41l (Int.tmod (IntKind.i64.wrap x1) ((x41l : Nat) : Int)) 1 fun x70b x70o =>
                  LdV m6 x70b x70o fun v =>
                  UnI v .i64 fun x71 =>
                  HC P lru_Cache_int_Get.id #[.pointer x5, .int .i64 x71] m6 (Cont (fun v m7 =>
                      UnTup v fun us0 =>
                      UnCons us0 fun w us1 =>
                      UnI w .i64 fun x72_0 =>
                      UnCons us1 fun w us2 =>
                      UnB w fun x72_1 =>
                      UnNil us2 (
                        Br (!x55) (
                        R (.returned (.bool false)) m7) (
                        Br x72_1 (
                        R (.returned (.bool false)) m7) (
                        HC P lru_Cache_int_Keys.id #[.pointer x5] m7 (Cont (fun v m8 =>
                        UnS v fun x82a x82l x82c =>
                        HC P eyotref13_SameInts.id #[.slice x82a x82l x82c, .slice x65a x65l x65c] m8 (Cont (fun v m9 =>
                        UnB v fun x84 =>
                        Br (!x84) (
                        R (.returned (.bool false)) m9) (
                        HC P lru_Cache_int_Clear.id #[.pointer x5] m9 (Cont (fun v m10 =>
                        UnTup v fun us0 =>
                        UnNil us0 (
                        IxS x0a x0l 0 1 fun x92b x92o =>
                        LdV m10 x92b x92o fun v =>
                        UnI v .u8 fun x93 =>
                        HC P lru_Cache_int_Get.id #[.pointer x5, .int .i64 (IntKind.i64.wrap x93)] m10 (Cont (fun v m11 =>
                        UnTup v fun us0 =>
                        UnCons us0 fun w us1 =>
                        UnI w .i64 fun x95_0 =>
                        UnCons us1 fun w us2 =>
                        UnB w fun x95_1 =>
                        UnNil us2 (
                        Br (!x95_1) (
                        HC P lru_Cache_int_Keys.id #[.pointer x5] m11 (Cont (fun v m12 =>
                        UnS v fun x102a x102l x102c =>
                        R (.returned (.bool (((x102l : Nat) : Int) == 0))) m12) (panicR R))) (
                        R (.returned (.bool false)) m11))) (panicR R)))) (panicR R)))) (panicR R))) (panicR R)))))) (panicR R))) (panicR R)) (panicR R)) (panicR R))))) (panicR R))
noncomputable def k2A  (R : Ending → Mem → Prop) : ACode := (.code (sR (sR (sR (sR (sR (body)))))))
def l1E (K : Option Addr → Nat → Nat → Int → Option Addr → Int → Mem → Prop) : Env → Mem → Prop := fun ρ m => UnS (ρ 0) fun x0a x0l x0c => UnI (ρ 1) .u8 fun x1 => UnP (ρ 5) fun x5 => UnI (ρ 6) .i64 fun x6 => K x0a x0l x0c x1 x5 x6 m
def l1B  (K1 : Option Addr → Nat → Nat → Int → Option Addr → Int → Mem → Prop) (x0a : Option Addr) (x0l : Nat) (x0c : Nat) (x1 : Int) (x5 : Option Addr) (x6 : Int) (R : Ending → Mem → Prop) (m : Mem) : Prop :=
  Br (decide (x6 < ((x0l : Nat) : Int))) (
    IxS x0a x0l x6 1 fun x35b x35o =>
    LdV m x35b x35o fun v =>
    UnI v .u8 fun x36 =>
    HC P lru_Cache_int_Put.id #[.pointer x5, .int .i64 (IntKind.i64.wrap x36), .int .i64 x6] m (Cont (fun v m1 =>
        UnTup v fun us0 =>
        UnCons us0 fun w us1 =>
        UnI w .i64 fun x39_0 =>
        UnCons us1 fun w us2 =>
        UnB w fun x39_1 =>
        UnNil us2 (
          K1 x0a x0l x0c x1 x5 (IntKind.i64.wrap (x6 + 1)) m1)) (panicR R))) (
    k2  x0a x0l x0c x1 x5 R m)
def l1  (x0a : Option Addr) (x0l : Nat) (x0c : Nat) (x1 : Int) (x5 : Option Addr) (x6 : Int) (R : Ending → Mem → Prop) (m : Mem) : Prop :=
  ∃ (I : Nat → Option Addr → Nat → Nat → Int → Option Addr → Int → Mem → Prop) (N : Nat), I N x0a x0l x0c x1 x5 x6 m ∧ ∀ N x0a x0l x0c x1 x5 x6 m, I N x0a x0l x0c x1 x5 x6 m → l1B  (fun x0a x0l x0c x1 x5 x6 m => ∃ N1, N1 < N ∧ I N1 x0a x0l x0c x1 x5 x6 m) x0a x0l x0c x1 x5 x6 R m
noncomputable def l1A  (K1 : Option Addr → Nat → Nat → Int → Option Addr → Int → Mem → Prop) (R : Ending → Mem → Prop) : ACode := (.code (lP (bB (sR (sL (sR (sR (sR (sR (body))))))))))
def e0 (a0a : Option Addr) (a0l : Nat) (a0c : Nat) (a1 : Int) (R : Ending → Mem → Prop) (m : Mem) : Prop :=
  HC P eyotlaw4_begun.id #[] m (Cont (fun v m1 =>
      UnB v fun x15 =>
      Br (!x15) (
        R (.returned (.bool false)) m1) (
        Br (((a0l : Nat) : Int) == 0) (
          R (.returned (.bool true)) m1) (
          Br (decide (((a0l : Nat) : Int) > 20)) (
            R (.returned (.bool true)) m1) (
            HC P lru_New_int.id #[.int .i64 30] m1 (Cont (fun v m2 =>
                UnP v fun x25 =>
                l1  a0a a0l a0c a1 x25 0 R m2) (panicR R)))))) (panicR R))
noncomputable def e0A (R : Ending → Mem → Prop) : ACode := (.seq (.code (sL (body))) (.seq (.code (sL (sR (body)))) (.seq (.code (sL (sR (sR (body))))) (.seq (.code (sL (sR (sR (sR (body)))))) (.seq (.seq (.code (sL (sL (sR (sR (sR (sR (body)))))))) (.block 0 (.cut (l1E fun x0a x0l x0c x1 x5 x6 m => l1  x0a x0l x0c x1 x5 x6 R m) (.loop (lP (bB (sR (sL (sR (sR (sR (sR (body))))))))))))) (.cut (k2E fun x0a x0l x0c x1 x5 m => k2  x0a x0l x0c x1 x5 R m) (sR (sR (sR (sR (sR (body))))))))))))
theorem k2_eq  (R : Ending → Mem → Prop) (x0a : Option Addr) (x0l : Nat) (x0c : Nat) (x1 : Int) (x5 : Option Addr) (ρ : Env) (m : Mem) : k2  x0a x0l x0c x1 x5 R m = acpt P od (panicR R) (k2A  R) (bodyQ P fn R) (upd (upd (upd ρ 5 (.pointer x5)) 1 (.int .u8 x1)) 0 (.slice x0a x0l x0c)) m := by kernel_rfl
theorem k2_er  (R : Ending → Mem → Prop) : (k2A  R).erase = sR (sR (sR (sR (sR (body))))) := by kernel_rfl
theorem k2_ok  (R : Ending → Mem → Prop) (ρ : Env) (m : Mem) (h : (k2E fun x0a x0l x0c x1 x5 m => k2  x0a x0l x0c x1 x5 R m) ρ m) : cpt P od (panicR R) (sR (sR (sR (sR (sR (body)))))) (bodyQ P fn R) ρ m := by
  unfold k2E at h
  obtain ⟨x0a, x0l, x0c, e0, h⟩ := h.ex
  obtain ⟨x1, e1, h⟩ := h.ex
  obtain ⟨x5, e5, h⟩ := h.ex
  rw [← upd_self e0, ← upd_self e1, ← upd_self e5]
  rw [← k2_er  R]
  refine acpt_sound (P := P) (k2A  R) _ _ _ True.intro ?_
  exact Eq.mp (k2_eq  R x0a x0l x0c x1 x5 ρ m) h
theorem l1_eq  (K1 : Option Addr → Nat → Nat → Int → Option Addr → Int → Mem → Prop) (R : Ending → Mem → Prop) (x0a : Option Addr) (x0l : Nat) (x0c : Nat) (x1 : Int) (x5 : Option Addr) (x6 : Int) (ρ : Env) (m : Mem) : l1B  K1 x0a x0l x0c x1 x5 x6 R m = acpt P od (panicR R) (l1A  K1 R) (thenQ (l1E K1) (blockQ 0 (thenQ (acpt P od (panicR R) (.cut (k2E fun x0a x0l x0c x1 x5 m => k2  x0a x0l x0c x1 x5 R m) (sR (sR (sR (sR (sR (body))))))) (bodyQ P fn R)) (bodyQ P fn R)))) (upd (upd (upd (upd ρ 6 (.int .i64 x6)) 5 (.pointer x5)) 1 (.int .u8 x1)) 0 (.slice x0a x0l x0c)) m := by kernel_rfl
theorem l1_er  (K1 : Option Addr → Nat → Nat → Int → Option Addr → Int → Mem → Prop) (R : Ending → Mem → Prop) : (l1A  K1 R).erase = lP (bB (sR (sL (sR (sR (sR (sR (body)))))))) := by kernel_rfl
theorem l1_ok  (R : Ending → Mem → Prop) (ρ : Env) (m : Mem) (h : (l1E fun x0a x0l x0c x1 x5 x6 m => l1  x0a x0l x0c x1 x5 x6 R m) ρ m) : cpt P od (panicR R) (.loop (lP (bB (sR (sL (sR (sR (sR (sR (body)))))))))) (blockQ 0 (thenQ (acpt P od (panicR R) (.cut (k2E fun x0a x0l x0c x1 x5 m => k2  x0a x0l x0c x1 x5 R m) (sR (sR (sR (sR (sR (body))))))) (bodyQ P fn R)) (bodyQ P fn R))) ρ m := by
  unfold l1E at h
  obtain ⟨x0a, x0l, x0c, e0, h⟩ := h.ex
  obtain ⟨x1, e1, h⟩ := h.ex
  obtain ⟨x5, e5, h⟩ := h.ex
  obtain ⟨x6, e6, h⟩ := h.ex
  obtain ⟨I, N, h0, hs⟩ := h
  refine ⟨fun N => l1E (I N), N, (by show l1E (I N) ρ m; unfold l1E; rw [e0, e1, e5, e6]; exact h0), ?_⟩
  clear h0 e0 e1 e5 e6
  intro N ρ m h
  unfold l1E at h
  obtain ⟨x0a, x0l, x0c, e0, h⟩ := h.ex
  obtain ⟨x1, e1, h⟩ := h.ex
  obtain ⟨x5, e5, h⟩ := h.ex
  obtain ⟨x6, e6, h⟩ := h.ex
  refine cpt_mono (P := P) (lP (bB (sR (sL (sR (sR (sR (sR (body))))))))) (Q := thenQ (l1E fun x0a x0l x0c x1 x5 x6 m => ∃ N1, N1 < N ∧ I N1 x0a x0l x0c x1 x5 x6 m) (blockQ 0 (thenQ (acpt P od (panicR R) (.cut (k2E fun x0a x0l x0c x1 x5 m => k2  x0a x0l x0c x1 x5 R m) (sR (sR (sR (sR (sR (body))))))) (bodyQ P fn R)) (bodyQ P fn R)))) (fun e ρ m h => ?_) ρ m ?_
  · cases e with
    | normal =>
      have h : l1E (fun x0a x0l x0c x1 x5 x6 m => ∃ N1, N1 < N ∧ I N1 x0a x0l x0c x1 x5 x6 m) ρ m := h
      unfold l1E at h
      obtain ⟨x0a, x0l, x0c, e0, h⟩ := h.ex
      obtain ⟨x1, e1, h⟩ := h.ex
      obtain ⟨x5, e5, h⟩ := h.ex
      obtain ⟨x6, e6, h⟩ := h.ex
      obtain ⟨N1, hlt, h⟩ := h
      exact ⟨N1, hlt, (by show l1E (I N1) ρ m; unfold l1E; rw [e0, e1, e5, e6]; exact h)⟩
    | _ => exact h
  have hh := hs N x0a x0l x0c x1 x5 x6 m h
  generalize (fun x0a x0l x0c x1 x5 x6 m => ∃ N1, N1 < N ∧ I N1 x0a x0l x0c x1 x5 x6 m : Option Addr → Nat → Nat → Int → Option Addr → Int → Mem → Prop) = K1 at hh ⊢
  rw [← upd_self e0, ← upd_self e1, ← upd_self e5, ← upd_self e6]
  rw [← l1_er  K1 R]
  refine acpt_sound (P := P) (l1A  K1 R) _ _ _ True.intro ?_
  exact Eq.mp (l1_eq  K1 R x0a x0l x0c x1 x5 x6 ρ m) hh
theorem e0_eq (a0a : Option Addr) (a0l : Nat) (a0c : Nat) (a1 : Int) (R : Ending → Mem → Prop) (m : Mem) : e0 a0a a0l a0c a1 R m = acpt P od (panicR R) (e0A R) (bodyQ P fn R) (argE (#[.slice a0a a0l a0c, .int .u8 a1] : Array Value).toList) m := by kernel_rfl
theorem ok (a0a : Option Addr) (a0l : Nat) (a0c : Nat) (a1 : Int) (R : Ending → Mem → Prop) (m : Mem) (h : e0 a0a a0l a0c a1 R m) : HC P id #[.slice a0a a0l a0c, .int .u8 a1] m R := by
  refine HC_of (fn := fn) (c := body) (od := od) (tb := tb) Go.Proofs.Try.func7 (by kernel_rfl) (by kernel_rfl) follows (by kernel_rfl) (of_decide_eq_true (by kernel_rfl)) ?_
  have he : (e0A R).erase = body := by kernel_rfl
  rw [← he]
  refine acpt_sound (P := P) (e0A R) _ _ _ ⟨⟨⟨⟨⟨(fun ρ m h => k2_ok  R ρ m h), ⟨(fun ρ m h => l1_ok  R ρ m h), True.intro⟩⟩, True.intro⟩, True.intro⟩, True.intro⟩, True.intro⟩ ?_
  exact Eq.mp (e0_eq a0a a0l a0c a1 R m) h
end eyotlaw4_CacheDrops

/-! ### eyot/eyotlaw4.begun -/
namespace eyotlaw4_begun
noncomputable def fn : Func := Go.Proofs.Try.f8
noncomputable def body : Code := fn.body.getD .skip
def od : Nat → Ord := fun _ => .done
def tb : Nat → Tab := fun _ => (0, [], [])
def e0  (R : Ending → Mem → Prop) (m : Mem) : Prop :=
  HC P lru_New_int.id #[.int .i64 1] m (Cont (fun v m1 =>
      UnP v fun x6 =>
      HC P lru_Cache_int_Put.id #[.pointer x6, .int .i64 1, .int .i64 5] m1 (Cont (fun v m2 =>
          UnTup v fun us0 =>
          UnCons us0 fun w us1 =>
          UnI w .i64 fun x8_0 =>
          UnCons us1 fun w us2 =>
          UnB w fun x8_1 =>
          UnNil us2 (
            HC P lru_Cache_int_Put.id #[.pointer x6, .int .i64 2, .int .i64 6] m2 (Cont (fun v m3 =>
                UnTup v fun us0 =>
                UnCons us0 fun w us1 =>
                UnI w .i64 fun x11_0 =>
                UnCons us1 fun w us2 =>
                UnB w fun x11_1 =>
                UnNil us2 (
                  HC P lru_Cache_int_Get.id #[.pointer x6, .int .i64 2] m3 (Cont (fun v m4 =>
                      UnTup v fun us0 =>
                      UnCons us0 fun w us1 =>
                      UnI w .i64 fun x16_0 =>
                      UnCons us1 fun w us2 =>
                      UnB w fun x16_1 =>
                      UnNil us2 (
                        Br x11_1 (
                        Br (x11_0 == 1) (
                        Br x16_1 (
                        Br (x16_0 == 6) (
                        HC P lru_Cache_int_Keys.id #[.pointer x6] m4 (Cont (fun v m5 =>
                        UnS v fun x33a x33l x33c =>
                        R (.returned (.bool (((x33l : Nat) : Int) == 1))) m5) (panicR R))) (
                        R (.returned (.bool false)) m4)) (
                        R (.returned (.bool false)) m4)) (
                        R (.returned (.bool false)) m4)) (
                        R (.returned (.bool false)) m4))) (panicR R)))) (panicR R)))) (panicR R))) (panicR R))
noncomputable def e0A (R : Ending → Mem → Prop) : ACode := (.code (body))
theorem e0_eq  (R : Ending → Mem → Prop) (m : Mem) : e0  R m = acpt P od (panicR R) (e0A R) (bodyQ P fn R) (argE (#[] : Array Value).toList) m := by kernel_rfl
theorem ok  (R : Ending → Mem → Prop) (m : Mem) (h : e0  R m) : HC P id #[] m R := by
  refine HC_of (fn := fn) (c := body) (od := od) (tb := tb) Go.Proofs.Try.func8 (by kernel_rfl) (by kernel_rfl) follows (by kernel_rfl) (of_decide_eq_true (by kernel_rfl)) ?_
  have he : (e0A R).erase = body := by kernel_rfl
  rw [← he]
  refine acpt_sound (P := P) (e0A R) _ _ _ True.intro ?_
  exact Eq.mp (e0_eq  R m) h
end eyotlaw4_begun

/-! ### eyot/lru.New[int] -/
namespace lru_New_int
noncomputable def fn : Func := Go.Proofs.Try.f9
noncomputable def body : Code := fn.body.getD .skip
def od : Nat → Ord := fun _ => .done
def tb : Nat → Tab := fun _ => (0, [], [])
def e0 (most_0 : Int) (R : Ending → Mem → Prop) (m : Mem) : Prop :=
  NewC m #[.int .i64 most_0, .slice none 0 0] T_lru_Cache_int fun b5 m1 =>
  R (.returned (.pointer (some ⟨b5, 0, none⟩))) m1
noncomputable def e0A (R : Ending → Mem → Prop) : ACode := (.code (body))
theorem e0_eq (most_0 : Int) (R : Ending → Mem → Prop) (m : Mem) : e0 most_0 R m = acpt P od (panicR R) (e0A R) (bodyQ P fn R) (argE (#[.int .i64 most_0] : Array Value).toList) m := by kernel_rfl
theorem ok (most_0 : Int) (R : Ending → Mem → Prop) (m : Mem) (h : e0 most_0 R m) : HC P id #[.int .i64 most_0] m R := by
  refine HC_of (fn := fn) (c := body) (od := od) (tb := tb) Go.Proofs.Try.func9 (by kernel_rfl) (by kernel_rfl) follows (by kernel_rfl) (of_decide_eq_true (by kernel_rfl)) ?_
  have he : (e0A R).erase = body := by kernel_rfl
  rw [← he]
  refine acpt_sound (P := P) (e0A R) _ _ _ True.intro ?_
  exact Eq.mp (e0_eq most_0 R m) h
end lru_New_int

/-! ### (*eyot/lru.Cache[int]).Get -/
namespace lru_Cache_int_Get
noncomputable def fn : Func := Go.Proofs.Try.f10
noncomputable def body : Code := fn.body.getD .skip
def od : Nat → Ord := fun _ => .done
def tb : Nat → Tab := fun _ => (0, [], [])
def e0 (c_0 : Option Addr) (k_1 : Int) (R : Ending → Mem → Prop) (m : Mem) : Prop :=
  HC P lru_Cache_int_at.id #[.pointer c_0, .int .i64 k_1] m (Cont (fun v m1 =>
      UnI v .i64 fun x11 =>
      Br (decide (x11 < 0)) (
        R (.returned (.tuple #[.int .i64 0, .bool false])) m1) (
        NilC c_0 (fun x16b x16o =>
          LdV m1 x16b (x16o + 1) fun v =>
          UnS v fun x18a x18l x18c =>
          IxS x18a x18l x11 2 fun x20b x20o =>
          LdV m1 x20b x20o fun v =>
          UnI v .i64 fun x21_0 =>
          LdV m1 x20b (x20o + 1) fun v =>
          UnI v .i64 fun x21_1 =>
          NewC m1 #[.int .i64 0, .int .i64 0] T_lru_entry_int fun b_e_8 m2 =>
          St1 m2 b_e_8 0 (.int .i64 x21_0) fun m3 =>
          St1 m3 b_e_8 1 (.int .i64 x21_1) fun m4 =>
          NilC c_0 (fun x24b x24o =>
            LdV m4 x24b (x24o + 1) fun v =>
            UnS v fun x26a x26l x26c =>
            HC P slices_Delete_s_lru_entry_int_lru_entry_int.id #[.slice x26a x26l x26c, .int .i64 x11, .int .i64 (IntKind.i64.wrap (x11 + 1))] m4 (Cont (fun v m5 =>
                UnS v fun x30a x30l x30c =>
                NilC c_0 (fun x31b x31o =>
                  St1 m5 x31b (x31o + 1) (.slice x30a x30l x30c) fun m6 =>
                  LdV m6 b_e_8 0 fun v =>
                  UnI v .i64 fun x34_0 =>
                  LdV m6 b_e_8 1 fun v =>
                  UnI v .i64 fun x34_1 =>
                  HC P lru_Cache_int_front.id #[.pointer c_0, .agg #[.int .i64 x34_0, .int .i64 x34_1]] m6 (Cont (fun v m7 =>
                      UnTup v fun us0 =>
                      UnNil us0 (
                        LdV m7 b_e_8 1 fun v =>
                        UnI v .i64 fun x37 =>
                        R (.returned (.tuple #[.int .i64 x37, .bool true])) m7)) (panicR R))) (R (.panicked (nilPanic P)) m5)) (panicR R))) (R (.panicked (nilPanic P)) m4)) (R (.panicked (nilPanic P)) m1))) (panicR R))
noncomputable def e0A (R : Ending → Mem → Prop) : ACode := (.code (body))
theorem e0_eq (c_0 : Option Addr) (k_1 : Int) (R : Ending → Mem → Prop) (m : Mem) : e0 c_0 k_1 R m = acpt P od (panicR R) (e0A R) (bodyQ P fn R) (argE (#[.pointer c_0, .int .i64 k_1] : Array Value).toList) m := by kernel_rfl
theorem ok (c_0 : Option Addr) (k_1 : Int) (R : Ending → Mem → Prop) (m : Mem) (h : e0 c_0 k_1 R m) : HC P id #[.pointer c_0, .int .i64 k_1] m R := by
  refine HC_of (fn := fn) (c := body) (od := od) (tb := tb) Go.Proofs.Try.func10 (by kernel_rfl) (by kernel_rfl) follows (by kernel_rfl) (of_decide_eq_true (by kernel_rfl)) ?_
  have he : (e0A R).erase = body := by kernel_rfl
  rw [← he]
  refine acpt_sound (P := P) (e0A R) _ _ _ True.intro ?_
  exact Eq.mp (e0_eq c_0 k_1 R m) h
end lru_Cache_int_Get

/-! ### (*eyot/lru.Cache[int]).Put -/
namespace lru_Cache_int_Put
noncomputable def fn : Func := Go.Proofs.Try.f11
noncomputable def body : Code := fn.body.getD .skip
def od : Nat → Ord := fun _ => .done
def tb : Nat → Tab := fun _ => (0, [], [])
def e0 (c_0 : Option Addr) (k_1 : Int) (v_2 : Int) (R : Ending → Mem → Prop) (m : Mem) : Prop :=
  Br c_0.isNone (
    R (.returned (.tuple #[.int .i64 0, .bool false])) m) (
    HC P lru_Cache_int_Drop.id #[.pointer c_0, .int .i64 k_1] m (Cont (fun v m1 =>
        UnB v fun x13 =>
        HC P lru_Cache_int_front.id #[.pointer c_0, .agg #[.int .i64 k_1, .int .i64 v_2]] m1 (Cont (fun v m2 =>
            UnTup v fun us0 =>
            UnNil us0 (
              NilC c_0 (fun x20b x20o =>
                LdV m2 x20b (x20o + 1) fun v =>
                UnS v fun x22a x22l x22c =>
                NilC c_0 (fun x27b x27o =>
                  LdV m2 x27b x27o fun v =>
                  UnI v .i64 fun x29 =>
                  Br (decide ((IntKind.i64.wrap (((x22l : Nat) : Int) - 1)) < (if 1 > x29 then 1 else x29))) (
                    R (.returned (.tuple #[.int .i64 0, .bool false])) m2) (
                    NilC c_0 (fun x33b x33o =>
                      LdV m2 x33b (x33o + 1) fun v =>
                      UnS v fun x35a x35l x35c =>
                      IxS x35a x35l (IntKind.i64.wrap (((x22l : Nat) : Int) - 1)) 2 fun x37b x37o =>
                      LdV m2 x37b x37o fun v =>
                      UnI v .i64 fun x39 =>
                      NilC c_0 (fun x42b x42o =>
                        LdV m2 x42b (x42o + 1) fun v =>
                        UnS v fun x44a x44l x44c =>
                        SlS x44a x44c 0 (IntKind.i64.wrap (((x22l : Nat) : Int) - 1)) 2 fun x46a x46l x46c =>
                        NilC c_0 (fun x47b x47o =>
                        St1 m2 x47b (x47o + 1) (.slice x46a x46l x46c) fun m3 =>
                        R (.returned (.tuple #[.int .i64 x39, .bool true])) m3) (R (.panicked (nilPanic P)) m2)) (R (.panicked (nilPanic P)) m2)) (R (.panicked (nilPanic P)) m2))) (R (.panicked (nilPanic P)) m2)) (R (.panicked (nilPanic P)) m2))) (panicR R))) (panicR R)))
noncomputable def e0A (R : Ending → Mem → Prop) : ACode := (.code (body))
theorem e0_eq (c_0 : Option Addr) (k_1 : Int) (v_2 : Int) (R : Ending → Mem → Prop) (m : Mem) : e0 c_0 k_1 v_2 R m = acpt P od (panicR R) (e0A R) (bodyQ P fn R) (argE (#[.pointer c_0, .int .i64 k_1, .int .i64 v_2] : Array Value).toList) m := by kernel_rfl
theorem ok (c_0 : Option Addr) (k_1 : Int) (v_2 : Int) (R : Ending → Mem → Prop) (m : Mem) (h : e0 c_0 k_1 v_2 R m) : HC P id #[.pointer c_0, .int .i64 k_1, .int .i64 v_2] m R := by
  refine HC_of (fn := fn) (c := body) (od := od) (tb := tb) Go.Proofs.Try.func11 (by kernel_rfl) (by kernel_rfl) follows (by kernel_rfl) (of_decide_eq_true (by kernel_rfl)) ?_
  have he : (e0A R).erase = body := by kernel_rfl
  rw [← he]
  refine acpt_sound (P := P) (e0A R) _ _ _ True.intro ?_
  exact Eq.mp (e0_eq c_0 k_1 v_2 R m) h
end lru_Cache_int_Put

/-! ### eyot/eyotref13.SameInts -/
namespace eyotref13_SameInts
noncomputable def fn : Func := Go.Proofs.Try.f12
noncomputable def body : Code := fn.body.getD .skip
def od : Nat → Ord := fun | 6 => ordL [(0, 3), (1, 3), (2, 3), (3, 1), (4, 3), (5, 3), (6, 3), (7, 0), (8, 3)] .done | _ => .done
def tb : Nat → Tab := fun | 6 => (0, [0, 0, 3, 7, 0, 0, 48, 112, 255], [(0, 1, 18), (0, 32, 19), (3, 393216, 20), (4, 524288, 21), (0, 2, 22), (0, 32, 23), (48, 6291456, 24), (64, 8388608, 25), (136, 17825792, 26)]) | _ => (0, [], [])
def l1E (K : Option Addr → Nat → Nat → Option Addr → Nat → Nat → Int → Mem → Prop) : Env → Mem → Prop := fun ρ m => UnS (ρ 0) fun a_0a a_0l a_0c => UnS (ρ 1) fun b_1a b_1l b_1c => UnI (ρ 5) .i64 fun i_5 => K a_0a a_0l a_0c b_1a b_1l b_1c i_5 m
def l1B  (K1 : Option Addr → Nat → Nat → Option Addr → Nat → Nat → Int → Mem → Prop) (a_0a : Option Addr) (a_0l : Nat) (a_0c : Nat) (b_1a : Option Addr) (b_1l : Nat) (b_1c : Nat) (i_5 : Int) (R : Ending → Mem → Prop) (m : Mem) : Prop :=
  Br (decide (i_5 < ((a_0l : Nat) : Int))) (
    Sub m fun r1 =>
    IxS a_0a a_0l i_5 1 fun x19b x19o =>
    LdV r1 x19b x19o fun v =>
    UnI v .i64 fun x20 =>
    IxS b_1a b_1l i_5 1 fun x23b x23o =>
    LdV m x23b x23o fun v =>
    UnI v .i64 fun x24 =>
    Br (x20 != x24) (
      R (.returned (.bool false)) m) (
      K1 a_0a a_0l a_0c b_1a b_1l b_1c (IntKind.i64.wrap (i_5 + 1)) m)) (
    R (.returned (.bool true)) m)
def l1  (a_0a : Option Addr) (a_0l : Nat) (a_0c : Nat) (b_1a : Option Addr) (b_1l : Nat) (b_1c : Nat) (i_5 : Int) (R : Ending → Mem → Prop) (m : Mem) : Prop :=
  ∃ (I : Nat → Option Addr → Nat → Nat → Option Addr → Nat → Nat → Int → Mem → Prop) (N : Nat), I N a_0a a_0l a_0c b_1a b_1l b_1c i_5 m ∧ ∀ N a_0a a_0l a_0c b_1a b_1l b_1c i_5 m, I N a_0a a_0l a_0c b_1a b_1l b_1c i_5 m → l1B  (fun a_0a a_0l a_0c b_1a b_1l b_1c i_5 m => ∃ N1, N1 < N ∧ I N1 a_0a a_0l a_0c b_1a b_1l b_1c i_5 m) a_0a a_0l a_0c b_1a b_1l b_1c i_5 R m
noncomputable def l1A  (K1 : Option Addr → Nat → Nat → Option Addr → Nat → Nat → Int → Mem → Prop) (R : Ending → Mem → Prop) : ACode := (.code (lP (bB (sR (sL (sR (sR (body))))))))
def e0 (a_0a : Option Addr) (a_0l : Nat) (a_0c : Nat) (b_1a : Option Addr) (b_1l : Nat) (b_1c : Nat) (R : Ending → Mem → Prop) (m : Mem) : Prop :=
  Br (((a_0l : Nat) : Int) != ((b_1l : Nat) : Int)) (
    R (.returned (.bool false)) m) (
    l1  a_0a a_0l a_0c b_1a b_1l b_1c 0 R m)
noncomputable def e0A (R : Ending → Mem → Prop) : ACode := (.seq (.code (sL (body))) (.seq (.code (sL (sR (body)))) (.seq (.seq (.code (sL (sL (sR (sR (body)))))) (.block 0 (.cut (l1E fun a_0a a_0l a_0c b_1a b_1l b_1c i_5 m => l1  a_0a a_0l a_0c b_1a b_1l b_1c i_5 R m) (.loop (lP (bB (sR (sL (sR (sR (body))))))))))) (.code (sR (sR (sR (body))))))))
theorem l1_eq  (K1 : Option Addr → Nat → Nat → Option Addr → Nat → Nat → Int → Mem → Prop) (R : Ending → Mem → Prop) (a_0a : Option Addr) (a_0l : Nat) (a_0c : Nat) (b_1a : Option Addr) (b_1l : Nat) (b_1c : Nat) (i_5 : Int) (ρ : Env) (m : Mem) : l1B  K1 a_0a a_0l a_0c b_1a b_1l b_1c i_5 R m = acpt P od (panicR R) (l1A  K1 R) (thenQ (l1E K1) (blockQ 0 (thenQ (acpt P od (panicR R) (.code (sR (sR (sR (body))))) (bodyQ P fn R)) (bodyQ P fn R)))) (upd (upd (upd ρ 5 (.int .i64 i_5)) 1 (.slice b_1a b_1l b_1c)) 0 (.slice a_0a a_0l a_0c)) m := by kernel_rfl
theorem l1_er  (K1 : Option Addr → Nat → Nat → Option Addr → Nat → Nat → Int → Mem → Prop) (R : Ending → Mem → Prop) : (l1A  K1 R).erase = lP (bB (sR (sL (sR (sR (body)))))) := by kernel_rfl
theorem l1_ok  (R : Ending → Mem → Prop) (ρ : Env) (m : Mem) (h : (l1E fun a_0a a_0l a_0c b_1a b_1l b_1c i_5 m => l1  a_0a a_0l a_0c b_1a b_1l b_1c i_5 R m) ρ m) : cpt P od (panicR R) (.loop (lP (bB (sR (sL (sR (sR (body)))))))) (blockQ 0 (thenQ (acpt P od (panicR R) (.code (sR (sR (sR (body))))) (bodyQ P fn R)) (bodyQ P fn R))) ρ m := by
  unfold l1E at h
  obtain ⟨a_0a, a_0l, a_0c, e0, h⟩ := h.ex
  obtain ⟨b_1a, b_1l, b_1c, e1, h⟩ := h.ex
  obtain ⟨i_5, e5, h⟩ := h.ex
  obtain ⟨I, N, h0, hs⟩ := h
  refine ⟨fun N => l1E (I N), N, (by show l1E (I N) ρ m; unfold l1E; rw [e0, e1, e5]; exact h0), ?_⟩
  clear h0 e0 e1 e5
  intro N ρ m h
  unfold l1E at h
  obtain ⟨a_0a, a_0l, a_0c, e0, h⟩ := h.ex
  obtain ⟨b_1a, b_1l, b_1c, e1, h⟩ := h.ex
  obtain ⟨i_5, e5, h⟩ := h.ex
  refine cpt_mono (P := P) (lP (bB (sR (sL (sR (sR (body))))))) (Q := thenQ (l1E fun a_0a a_0l a_0c b_1a b_1l b_1c i_5 m => ∃ N1, N1 < N ∧ I N1 a_0a a_0l a_0c b_1a b_1l b_1c i_5 m) (blockQ 0 (thenQ (acpt P od (panicR R) (.code (sR (sR (sR (body))))) (bodyQ P fn R)) (bodyQ P fn R)))) (fun e ρ m h => ?_) ρ m ?_
  · cases e with
    | normal =>
      have h : l1E (fun a_0a a_0l a_0c b_1a b_1l b_1c i_5 m => ∃ N1, N1 < N ∧ I N1 a_0a a_0l a_0c b_1a b_1l b_1c i_5 m) ρ m := h
      unfold l1E at h
      obtain ⟨a_0a, a_0l, a_0c, e0, h⟩ := h.ex
      obtain ⟨b_1a, b_1l, b_1c, e1, h⟩ := h.ex
      obtain ⟨i_5, e5, h⟩ := h.ex
      obtain ⟨N1, hlt, h⟩ := h
      exact ⟨N1, hlt, (by show l1E (I N1) ρ m; unfold l1E; rw [e0, e1, e5]; exact h)⟩
    | _ => exact h
  have hh := hs N a_0a a_0l a_0c b_1a b_1l b_1c i_5 m h
  generalize (fun a_0a a_0l a_0c b_1a b_1l b_1c i_5 m => ∃ N1, N1 < N ∧ I N1 a_0a a_0l a_0c b_1a b_1l b_1c i_5 m : Option Addr → Nat → Nat → Option Addr → Nat → Nat → Int → Mem → Prop) = K1 at hh ⊢
  rw [← upd_self e0, ← upd_self e1, ← upd_self e5]
  rw [← l1_er  K1 R]
  refine acpt_sound (P := P) (l1A  K1 R) _ _ _ True.intro ?_
  exact Eq.mp (l1_eq  K1 R a_0a a_0l a_0c b_1a b_1l b_1c i_5 ρ m) hh
theorem e0_eq (a_0a : Option Addr) (a_0l : Nat) (a_0c : Nat) (b_1a : Option Addr) (b_1l : Nat) (b_1c : Nat) (R : Ending → Mem → Prop) (m : Mem) : e0 a_0a a_0l a_0c b_1a b_1l b_1c R m = acpt P od (panicR R) (e0A R) (bodyQ P fn R) (argE (#[.slice a_0a a_0l a_0c, .slice b_1a b_1l b_1c] : Array Value).toList) m := by kernel_rfl
theorem ok (a_0a : Option Addr) (a_0l : Nat) (a_0c : Nat) (b_1a : Option Addr) (b_1l : Nat) (b_1c : Nat) (R : Ending → Mem → Prop) (m : Mem) (h : e0 a_0a a_0l a_0c b_1a b_1l b_1c R m) : HC P id #[.slice a_0a a_0l a_0c, .slice b_1a b_1l b_1c] m R := by
  refine HC_of (fn := fn) (c := body) (od := od) (tb := tb) Go.Proofs.Try.func12 (by kernel_rfl) (by kernel_rfl) follows (by kernel_rfl) (of_decide_eq_true (by kernel_rfl)) ?_
  have he : (e0A R).erase = body := by kernel_rfl
  rw [← he]
  refine acpt_sound (P := P) (e0A R) _ _ _ ⟨⟨⟨True.intro, ⟨(fun ρ m h => l1_ok  R ρ m h), True.intro⟩⟩, True.intro⟩, True.intro⟩ ?_
  exact Eq.mp (e0_eq a_0a a_0l a_0c b_1a b_1l b_1c R m) h
end eyotref13_SameInts

/-! ### (*eyot/lru.Cache[int]).Keys -/
namespace lru_Cache_int_Keys
noncomputable def fn : Func := Go.Proofs.Try.f13
noncomputable def body : Code := fn.body.getD .skip
def od : Nat → Ord := fun _ => .done
def tb : Nat → Tab := fun _ => (0, [], [])
def l1E (K : Option Addr → Nat → Nat → Option Addr → Nat → Nat → Int → Int → Mem → Prop) : Env → Mem → Prop := fun ρ m => UnS (ρ 3) fun out_3a out_3l out_3c => UnS (ρ 11) fun x11a x11l x11c => UnI (ρ 12) .i64 fun x12 => UnI (ρ 13) .i64 fun x13 => K out_3a out_3l out_3c x11a x11l x11c x12 x13 m
def l1B  (K1 : Option Addr → Nat → Nat → Option Addr → Nat → Nat → Int → Int → Mem → Prop) (out_3a : Option Addr) (out_3l : Nat) (out_3c : Nat) (x11a : Option Addr) (x11l : Nat) (x11c : Nat) (x12 : Int) (x13 : Int) (R : Ending → Mem → Prop) (m : Mem) : Prop :=
  Br (decide (x13 < x12)) (
    IxS x11a x11l x13 2 fun x15b x15o =>
    LdV m x15b x15o fun v =>
    UnI v .i64 fun x16_0 =>
    LdV m x15b (x15o + 1) fun v =>
    UnI v .i64 fun x16_1 =>
    NewC m #[.int .i64 0, .int .i64 0] T_lru_entry_int fun b_e_5 m1 =>
    St1 m1 b_e_5 0 (.int .i64 x16_0) fun m2 =>
    St1 m2 b_e_5 1 (.int .i64 x16_1) fun m3 =>
    LdV m3 b_e_5 0 fun v =>
    UnI v .i64 fun x19 =>
    NewC m3 #[.int .i64 x19] T_int fun b20 m4 =>
    BiN P .append #[T_sl_int, T_sl_int] T_sl_int #[false, false] #[.slice out_3a out_3l out_3c, .slice (some ⟨b20, 0, none⟩) 1 1] m4 (fun w m5 =>
      UnS w fun x21a x21l x21c =>
      K1 x21a x21l x21c x11a x11l x11c x12 (IntKind.i64.wrap (x13 + 1)) m5) (panicR R)) (
    R (.returned (.slice out_3a out_3l out_3c)) m)
def l1  (out_3a : Option Addr) (out_3l : Nat) (out_3c : Nat) (x11a : Option Addr) (x11l : Nat) (x11c : Nat) (x12 : Int) (x13 : Int) (R : Ending → Mem → Prop) (m : Mem) : Prop :=
  ∃ (I : Nat → Option Addr → Nat → Nat → Option Addr → Nat → Nat → Int → Int → Mem → Prop) (N : Nat), I N out_3a out_3l out_3c x11a x11l x11c x12 x13 m ∧ ∀ N out_3a out_3l out_3c x11a x11l x11c x12 x13 m, I N out_3a out_3l out_3c x11a x11l x11c x12 x13 m → l1B  (fun out_3a out_3l out_3c x11a x11l x11c x12 x13 m => ∃ N1, N1 < N ∧ I N1 out_3a out_3l out_3c x11a x11l x11c x12 x13 m) out_3a out_3l out_3c x11a x11l x11c x12 x13 R m
noncomputable def l1A  (K1 : Option Addr → Nat → Nat → Option Addr → Nat → Nat → Int → Int → Mem → Prop) (R : Ending → Mem → Prop) : ACode := (.code (lP (bB (sR (sL (sR (sR (sR (body)))))))))
def e0 (c_0 : Option Addr) (R : Ending → Mem → Prop) (m : Mem) : Prop :=
  Br c_0.isNone (
    R (.returned (.slice none 0 0)) m) (
    NilC c_0 (fun x9b x9o =>
      LdV m x9b (x9o + 1) fun v =>
      UnS v fun x11a x11l x11c =>
      l1  none 0 0 x11a x11l x11c ((x11l : Nat) : Int) 0 R m) (R (.panicked (nilPanic P)) m))
noncomputable def e0A (R : Ending → Mem → Prop) : ACode := (.seq (.code (sL (body))) (.seq (.code (sL (sR (body)))) (.seq (.code (sL (sR (sR (body))))) (.seq (.seq (.code (sL (sL (sR (sR (sR (body))))))) (.block 0 (.cut (l1E fun out_3a out_3l out_3c x11a x11l x11c x12 x13 m => l1  out_3a out_3l out_3c x11a x11l x11c x12 x13 R m) (.loop (lP (bB (sR (sL (sR (sR (sR (body)))))))))))) (.code (sR (sR (sR (sR (body))))))))))
theorem l1_eq  (K1 : Option Addr → Nat → Nat → Option Addr → Nat → Nat → Int → Int → Mem → Prop) (R : Ending → Mem → Prop) (out_3a : Option Addr) (out_3l : Nat) (out_3c : Nat) (x11a : Option Addr) (x11l : Nat) (x11c : Nat) (x12 : Int) (x13 : Int) (ρ : Env) (m : Mem) : l1B  K1 out_3a out_3l out_3c x11a x11l x11c x12 x13 R m = acpt P od (panicR R) (l1A  K1 R) (thenQ (l1E K1) (blockQ 0 (thenQ (acpt P od (panicR R) (.code (sR (sR (sR (sR (body)))))) (bodyQ P fn R)) (bodyQ P fn R)))) (upd (upd (upd (upd ρ 13 (.int .i64 x13)) 12 (.int .i64 x12)) 11 (.slice x11a x11l x11c)) 3 (.slice out_3a out_3l out_3c)) m := by kernel_rfl
theorem l1_er  (K1 : Option Addr → Nat → Nat → Option Addr → Nat → Nat → Int → Int → Mem → Prop) (R : Ending → Mem → Prop) : (l1A  K1 R).erase = lP (bB (sR (sL (sR (sR (sR (body))))))) := by kernel_rfl
theorem l1_ok  (R : Ending → Mem → Prop) (ρ : Env) (m : Mem) (h : (l1E fun out_3a out_3l out_3c x11a x11l x11c x12 x13 m => l1  out_3a out_3l out_3c x11a x11l x11c x12 x13 R m) ρ m) : cpt P od (panicR R) (.loop (lP (bB (sR (sL (sR (sR (sR (body))))))))) (blockQ 0 (thenQ (acpt P od (panicR R) (.code (sR (sR (sR (sR (body)))))) (bodyQ P fn R)) (bodyQ P fn R))) ρ m := by
  unfold l1E at h
  obtain ⟨out_3a, out_3l, out_3c, e3, h⟩ := h.ex
  obtain ⟨x11a, x11l, x11c, e11, h⟩ := h.ex
  obtain ⟨x12, e12, h⟩ := h.ex
  obtain ⟨x13, e13, h⟩ := h.ex
  obtain ⟨I, N, h0, hs⟩ := h
  refine ⟨fun N => l1E (I N), N, (by show l1E (I N) ρ m; unfold l1E; rw [e3, e11, e12, e13]; exact h0), ?_⟩
  clear h0 e3 e11 e12 e13
  intro N ρ m h
  unfold l1E at h
  obtain ⟨out_3a, out_3l, out_3c, e3, h⟩ := h.ex
  obtain ⟨x11a, x11l, x11c, e11, h⟩ := h.ex
  obtain ⟨x12, e12, h⟩ := h.ex
  obtain ⟨x13, e13, h⟩ := h.ex
  refine cpt_mono (P := P) (lP (bB (sR (sL (sR (sR (sR (body)))))))) (Q := thenQ (l1E fun out_3a out_3l out_3c x11a x11l x11c x12 x13 m => ∃ N1, N1 < N ∧ I N1 out_3a out_3l out_3c x11a x11l x11c x12 x13 m) (blockQ 0 (thenQ (acpt P od (panicR R) (.code (sR (sR (sR (sR (body)))))) (bodyQ P fn R)) (bodyQ P fn R)))) (fun e ρ m h => ?_) ρ m ?_
  · cases e with
    | normal =>
      have h : l1E (fun out_3a out_3l out_3c x11a x11l x11c x12 x13 m => ∃ N1, N1 < N ∧ I N1 out_3a out_3l out_3c x11a x11l x11c x12 x13 m) ρ m := h
      unfold l1E at h
      obtain ⟨out_3a, out_3l, out_3c, e3, h⟩ := h.ex
      obtain ⟨x11a, x11l, x11c, e11, h⟩ := h.ex
      obtain ⟨x12, e12, h⟩ := h.ex
      obtain ⟨x13, e13, h⟩ := h.ex
      obtain ⟨N1, hlt, h⟩ := h
      exact ⟨N1, hlt, (by show l1E (I N1) ρ m; unfold l1E; rw [e3, e11, e12, e13]; exact h)⟩
    | _ => exact h
  have hh := hs N out_3a out_3l out_3c x11a x11l x11c x12 x13 m h
  generalize (fun out_3a out_3l out_3c x11a x11l x11c x12 x13 m => ∃ N1, N1 < N ∧ I N1 out_3a out_3l out_3c x11a x11l x11c x12 x13 m : Option Addr → Nat → Nat → Option Addr → Nat → Nat → Int → Int → Mem → Prop) = K1 at hh ⊢
  rw [← upd_self e3, ← upd_self e11, ← upd_self e12, ← upd_self e13]
  rw [← l1_er  K1 R]
  refine acpt_sound (P := P) (l1A  K1 R) _ _ _ True.intro ?_
  exact Eq.mp (l1_eq  K1 R out_3a out_3l out_3c x11a x11l x11c x12 x13 ρ m) hh
theorem e0_eq (c_0 : Option Addr) (R : Ending → Mem → Prop) (m : Mem) : e0 c_0 R m = acpt P od (panicR R) (e0A R) (bodyQ P fn R) (argE (#[.pointer c_0] : Array Value).toList) m := by kernel_rfl
theorem ok (c_0 : Option Addr) (R : Ending → Mem → Prop) (m : Mem) (h : e0 c_0 R m) : HC P id #[.pointer c_0] m R := by
  refine HC_of (fn := fn) (c := body) (od := od) (tb := tb) Go.Proofs.Try.func13 (by kernel_rfl) (by kernel_rfl) follows (by kernel_rfl) (of_decide_eq_true (by kernel_rfl)) ?_
  have he : (e0A R).erase = body := by kernel_rfl
  rw [← he]
  refine acpt_sound (P := P) (e0A R) _ _ _ ⟨⟨⟨⟨True.intro, ⟨(fun ρ m h => l1_ok  R ρ m h), True.intro⟩⟩, True.intro⟩, True.intro⟩, True.intro⟩ ?_
  exact Eq.mp (e0_eq c_0 R m) h
end lru_Cache_int_Keys

/-! ### eyot/lru.New[[2]int] -/
namespace lru_New_2_int
noncomputable def fn : Func := Go.Proofs.Try.f14
noncomputable def body : Code := fn.body.getD .skip
def od : Nat → Ord := fun _ => .done
def tb : Nat → Tab := fun _ => (0, [], [])
def e0 (most_0 : Int) (R : Ending → Mem → Prop) (m : Mem) : Prop :=
  NewC m #[.int .i64 most_0, .slice none 0 0] T_lru_Cache_2_int fun b5 m1 =>
  R (.returned (.pointer (some ⟨b5, 0, none⟩))) m1
noncomputable def e0A (R : Ending → Mem → Prop) : ACode := (.code (body))
theorem e0_eq (most_0 : Int) (R : Ending → Mem → Prop) (m : Mem) : e0 most_0 R m = acpt P od (panicR R) (e0A R) (bodyQ P fn R) (argE (#[.int .i64 most_0] : Array Value).toList) m := by kernel_rfl
theorem ok (most_0 : Int) (R : Ending → Mem → Prop) (m : Mem) (h : e0 most_0 R m) : HC P id #[.int .i64 most_0] m R := by
  refine HC_of (fn := fn) (c := body) (od := od) (tb := tb) Go.Proofs.Try.func14 (by kernel_rfl) (by kernel_rfl) follows (by kernel_rfl) (of_decide_eq_true (by kernel_rfl)) ?_
  have he : (e0A R).erase = body := by kernel_rfl
  rw [← he]
  refine acpt_sound (P := P) (e0A R) _ _ _ True.intro ?_
  exact Eq.mp (e0_eq most_0 R m) h
end lru_New_2_int

/-! ### (*eyot/lru.Cache[[2]int]).Put -/
namespace lru_Cache_2_int_Put
noncomputable def fn : Func := Go.Proofs.Try.f15
noncomputable def body : Code := fn.body.getD .skip
def od : Nat → Ord := fun _ => .done
def tb : Nat → Tab := fun _ => (0, [], [])
def e0 (c_0 : Option Addr) (k_1 : Int) (v_2_0 : Int) (v_2_1 : Int) (R : Ending → Mem → Prop) (m : Mem) : Prop :=
  NewC m #[.int .i64 v_2_0, .int .i64 v_2_1] T_arr2_int fun b_v_5 m1 =>
  Br c_0.isNone (
    R (.returned (.tuple #[.int .i64 0, .bool false])) m1) (
    HC P lru_Cache_2_int_Drop.id #[.pointer c_0, .int .i64 k_1] m1 (Cont (fun v m2 =>
        UnB v fun x13 =>
        LdV m2 b_v_5 0 fun v =>
        UnI v .i64 fun x16_0 =>
        LdV m2 b_v_5 1 fun v =>
        UnI v .i64 fun x16_1 =>
        HC P lru_Cache_2_int_front.id #[.pointer c_0, .agg #[.int .i64 k_1, .int .i64 x16_0, .int .i64 x16_1]] m2 (Cont (fun v m3 =>
            UnTup v fun us0 =>
            UnNil us0 (
              NilC c_0 (fun x20b x20o =>
                LdV m3 x20b (x20o + 1) fun v =>
                UnS v fun x22a x22l x22c =>
                NilC c_0 (fun x27b x27o =>
                  LdV m3 x27b x27o fun v =>
                  UnI v .i64 fun x29 =>
                  Br (decide ((IntKind.i64.wrap (((x22l : Nat) : Int) - 1)) < (if 1 > x29 then 1 else x29))) (
                    R (.returned (.tuple #[.int .i64 0, .bool false])) m3) (
                    NilC c_0 (fun x33b x33o =>
                      LdV m3 x33b (x33o + 1) fun v =>
                      UnS v fun x35a x35l x35c =>
                      IxS x35a x35l (IntKind.i64.wrap (((x22l : Nat) : Int) - 1)) 3 fun x37b x37o =>
                      LdV m3 x37b x37o fun v =>
                      UnI v .i64 fun x39 =>
                      NilC c_0 (fun x42b x42o =>
                        LdV m3 x42b (x42o + 1) fun v =>
                        UnS v fun x44a x44l x44c =>
                        SlS x44a x44c 0 (IntKind.i64.wrap (((x22l : Nat) : Int) - 1)) 3 fun x46a x46l x46c =>
                        NilC c_0 (fun x47b x47o =>
                        St1 m3 x47b (x47o + 1) (.slice x46a x46l x46c) fun m4 =>
                        R (.returned (.tuple #[.int .i64 x39, .bool true])) m4) (R (.panicked (nilPanic P)) m3)) (R (.panicked (nilPanic P)) m3)) (R (.panicked (nilPanic P)) m3))) (R (.panicked (nilPanic P)) m3)) (R (.panicked (nilPanic P)) m3))) (panicR R))) (panicR R)))
noncomputable def e0A (R : Ending → Mem → Prop) : ACode := (.code (body))
theorem e0_eq (c_0 : Option Addr) (k_1 : Int) (v_2_0 : Int) (v_2_1 : Int) (R : Ending → Mem → Prop) (m : Mem) : e0 c_0 k_1 v_2_0 v_2_1 R m = acpt P od (panicR R) (e0A R) (bodyQ P fn R) (argE (#[.pointer c_0, .int .i64 k_1, .agg #[.int .i64 v_2_0, .int .i64 v_2_1]] : Array Value).toList) m := by kernel_rfl
theorem ok (c_0 : Option Addr) (k_1 : Int) (v_2_0 : Int) (v_2_1 : Int) (R : Ending → Mem → Prop) (m : Mem) (h : e0 c_0 k_1 v_2_0 v_2_1 R m) : HC P id #[.pointer c_0, .int .i64 k_1, .agg #[.int .i64 v_2_0, .int .i64 v_2_1]] m R := by
  refine HC_of (fn := fn) (c := body) (od := od) (tb := tb) Go.Proofs.Try.func15 (by kernel_rfl) (by kernel_rfl) follows (by kernel_rfl) (of_decide_eq_true (by kernel_rfl)) ?_
  have he : (e0A R).erase = body := by kernel_rfl
  rw [← he]
  refine acpt_sound (P := P) (e0A R) _ _ _ True.intro ?_
  exact Eq.mp (e0_eq c_0 k_1 v_2_0 v_2_1 R m) h
end lru_Cache_2_int_Put

/-! ### (*eyot/lru.Cache[[2]int]).Get -/
namespace lru_Cache_2_int_Get
noncomputable def fn : Func := Go.Proofs.Try.f16
noncomputable def body : Code := fn.body.getD .skip
def od : Nat → Ord := fun _ => .done
def tb : Nat → Tab := fun _ => (0, [], [])
def e0 (c_0 : Option Addr) (k_1 : Int) (R : Ending → Mem → Prop) (m : Mem) : Prop :=
  NewC m #[.int .i64 0, .int .i64 0] T_arr2_int fun b4 m1 =>
  HC P lru_Cache_2_int_at.id #[.pointer c_0, .int .i64 k_1] m1 (Cont (fun v m2 =>
      UnI v .i64 fun x11 =>
      Br (decide (x11 < 0)) (
        NewC m2 #[.int .i64 0, .int .i64 0] T_arr2_int fun b_none_7 m3 =>
        LdV m3 b_none_7 0 fun v =>
        UnI v .i64 fun x14_0 =>
        LdV m3 b_none_7 1 fun v =>
        UnI v .i64 fun x14_1 =>
        St1 m3 b4 0 (.int .i64 x14_0) fun m4 =>
        St1 m4 b4 1 (.int .i64 x14_1) fun m5 =>
        LdV m5 b4 0 fun v =>
        UnI v .i64 fun res0_0 =>
        LdV m5 b4 1 fun v =>
        UnI v .i64 fun res0_1 =>
        R (.returned (.tuple #[.agg #[.int .i64 res0_0, .int .i64 res0_1], .bool false])) m5) (
        NilC c_0 (fun x16b x16o =>
          LdV m2 x16b (x16o + 1) fun v =>
          UnS v fun x18a x18l x18c =>
          IxS x18a x18l x11 3 fun x20b x20o =>
          LdV m2 x20b x20o fun v =>
          UnI v .i64 fun x21_0 =>
          LdV m2 x20b (x20o + 1) fun v =>
          UnI v .i64 fun x21_1 =>
          LdV m2 x20b (x20o + 2) fun v =>
          UnI v .i64 fun x21_2 =>
          NewC m2 #[.int .i64 0, .int .i64 0, .int .i64 0] T_lru_entry_2_int fun b_e_8 m3 =>
          St1 m3 b_e_8 0 (.int .i64 x21_0) fun m4 =>
          St1 m4 b_e_8 1 (.int .i64 x21_1) fun m5 =>
          St1 m5 b_e_8 2 (.int .i64 x21_2) fun m6 =>
          NilC c_0 (fun x24b x24o =>
            LdV m6 x24b (x24o + 1) fun v =>
            UnS v fun x26a x26l x26c =>
            HC P slices_Delete_s_lru_entry_2_int_lru_entry_2_int.id #[.slice x26a x26l x26c, .int .i64 x11, .int .i64 (IntKind.i64.wrap (x11 + 1))] m6 (Cont (fun v m7 =>
                UnS v fun x30a x30l x30c =>
                NilC c_0 (fun x31b x31o =>
                  St1 m7 x31b (x31o + 1) (.slice x30a x30l x30c) fun m8 =>
                  LdV m8 b_e_8 0 fun v =>
                  UnI v .i64 fun x34_0 =>
                  LdV m8 b_e_8 1 fun v =>
                  UnI v .i64 fun x34_1 =>
                  LdV m8 b_e_8 2 fun v =>
                  UnI v .i64 fun x34_2 =>
                  HC P lru_Cache_2_int_front.id #[.pointer c_0, .agg #[.int .i64 x34_0, .int .i64 x34_1, .int .i64 x34_2]] m8 (Cont (fun v m9 =>
                      UnTup v fun us0 =>
                      UnNil us0 (
                        LdV m9 b_e_8 1 fun v =>
                        UnI v .i64 fun x37_0 =>
                        LdV m9 b_e_8 2 fun v =>
                        UnI v .i64 fun x37_1 =>
                        St1 m9 b4 0 (.int .i64 x37_0) fun m10 =>
                        St1 m10 b4 1 (.int .i64 x37_1) fun m11 =>
                        LdV m11 b4 0 fun v =>
                        UnI v .i64 fun res0_0 =>
                        LdV m11 b4 1 fun v =>
                        UnI v .i64 fun res0_1 =>
                        R (.returned (.tuple #[.agg #[.int .i64 res0_0, .int .i64 res0_1], .bool true])) m11)) (panicR R))) (R (.panicked (nilPanic P)) m7)) (panicR R))) (R (.panicked (nilPanic P)) m6)) (R (.panicked (nilPanic P)) m2))) (panicR R))
noncomputable def e0A (R : Ending → Mem → Prop) : ACode := (.code (body))
theorem e0_eq (c_0 : Option Addr) (k_1 : Int) (R : Ending → Mem → Prop) (m : Mem) : e0 c_0 k_1 R m = acpt P od (panicR R) (e0A R) (bodyQ P fn R) (argE (#[.pointer c_0, .int .i64 k_1] : Array Value).toList) m := by kernel_rfl
theorem ok (c_0 : Option Addr) (k_1 : Int) (R : Ending → Mem → Prop) (m : Mem) (h : e0 c_0 k_1 R m) : HC P id #[.pointer c_0, .int .i64 k_1] m R := by
  refine HC_of (fn := fn) (c := body) (od := od) (tb := tb) Go.Proofs.Try.func16 (by kernel_rfl) (by kernel_rfl) follows (by kernel_rfl) (of_decide_eq_true (by kernel_rfl)) ?_
  have he : (e0A R).erase = body := by kernel_rfl
  rw [← he]
  refine acpt_sound (P := P) (e0A R) _ _ _ True.intro ?_
  exact Eq.mp (e0_eq c_0 k_1 R m) h
end lru_Cache_2_int_Get

/-! ### eyot/lru.New[string] -/
namespace lru_New_string
noncomputable def fn : Func := Go.Proofs.Try.f17
noncomputable def body : Code := fn.body.getD .skip
def od : Nat → Ord := fun _ => .done
def tb : Nat → Tab := fun _ => (0, [], [])
def e0 (most_0 : Int) (R : Ending → Mem → Prop) (m : Mem) : Prop :=
  NewC m #[.int .i64 most_0, .slice none 0 0] T_lru_Cache_string fun b5 m1 =>
  R (.returned (.pointer (some ⟨b5, 0, none⟩))) m1
noncomputable def e0A (R : Ending → Mem → Prop) : ACode := (.code (body))
theorem e0_eq (most_0 : Int) (R : Ending → Mem → Prop) (m : Mem) : e0 most_0 R m = acpt P od (panicR R) (e0A R) (bodyQ P fn R) (argE (#[.int .i64 most_0] : Array Value).toList) m := by kernel_rfl
theorem ok (most_0 : Int) (R : Ending → Mem → Prop) (m : Mem) (h : e0 most_0 R m) : HC P id #[.int .i64 most_0] m R := by
  refine HC_of (fn := fn) (c := body) (od := od) (tb := tb) Go.Proofs.Try.func17 (by kernel_rfl) (by kernel_rfl) follows (by kernel_rfl) (of_decide_eq_true (by kernel_rfl)) ?_
  have he : (e0A R).erase = body := by kernel_rfl
  rw [← he]
  refine acpt_sound (P := P) (e0A R) _ _ _ True.intro ?_
  exact Eq.mp (e0_eq most_0 R m) h
end lru_New_string

/-! ### (*eyot/lru.Cache[string]).Keys -/
namespace lru_Cache_string_Keys
noncomputable def fn : Func := Go.Proofs.Try.f18
noncomputable def body : Code := fn.body.getD .skip
def od : Nat → Ord := fun _ => .done
def tb : Nat → Tab := fun _ => (0, [], [])
def l1E (K : Option Addr → Nat → Nat → Option Addr → Nat → Nat → Int → Int → Mem → Prop) : Env → Mem → Prop := fun ρ m => UnS (ρ 3) fun out_3a out_3l out_3c => UnS (ρ 11) fun x11a x11l x11c => UnI (ρ 12) .i64 fun x12 => UnI (ρ 13) .i64 fun x13 => K out_3a out_3l out_3c x11a x11l x11c x12 x13 m
def l1B  (K1 : Option Addr → Nat → Nat → Option Addr → Nat → Nat → Int → Int → Mem → Prop) (out_3a : Option Addr) (out_3l : Nat) (out_3c : Nat) (x11a : Option Addr) (x11l : Nat) (x11c : Nat) (x12 : Int) (x13 : Int) (R : Ending → Mem → Prop) (m : Mem) : Prop :=
  Br (decide (x13 < x12)) (
    IxS x11a x11l x13 2 fun x15b x15o =>
    LdV m x15b x15o fun v =>
    UnI v .i64 fun x16_0 =>
    LdV m x15b (x15o + 1) fun v =>
    UnStr v fun x16_1 =>
    NewC m #[.int .i64 0, .string .empty] T_lru_entry_string fun b_e_5 m1 =>
    St1 m1 b_e_5 0 (.int .i64 x16_0) fun m2 =>
    St1 m2 b_e_5 1 (.string x16_1) fun m3 =>
    LdV m3 b_e_5 0 fun v =>
    UnI v .i64 fun x19 =>
    NewC m3 #[.int .i64 x19] T_int fun b20 m4 =>
    BiN P .append #[T_sl_int, T_sl_int] T_sl_int #[false, false] #[.slice out_3a out_3l out_3c, .slice (some ⟨b20, 0, none⟩) 1 1] m4 (fun w m5 =>
      UnS w fun x21a x21l x21c =>
      K1 x21a x21l x21c x11a x11l x11c x12 (IntKind.i64.wrap (x13 + 1)) m5) (panicR R)) (
    R (.returned (.slice out_3a out_3l out_3c)) m)
def l1  (out_3a : Option Addr) (out_3l : Nat) (out_3c : Nat) (x11a : Option Addr) (x11l : Nat) (x11c : Nat) (x12 : Int) (x13 : Int) (R : Ending → Mem → Prop) (m : Mem) : Prop :=
  ∃ (I : Nat → Option Addr → Nat → Nat → Option Addr → Nat → Nat → Int → Int → Mem → Prop) (N : Nat), I N out_3a out_3l out_3c x11a x11l x11c x12 x13 m ∧ ∀ N out_3a out_3l out_3c x11a x11l x11c x12 x13 m, I N out_3a out_3l out_3c x11a x11l x11c x12 x13 m → l1B  (fun out_3a out_3l out_3c x11a x11l x11c x12 x13 m => ∃ N1, N1 < N ∧ I N1 out_3a out_3l out_3c x11a x11l x11c x12 x13 m) out_3a out_3l out_3c x11a x11l x11c x12 x13 R m
noncomputable def l1A  (K1 : Option Addr → Nat → Nat → Option Addr → Nat → Nat → Int → Int → Mem → Prop) (R : Ending → Mem → Prop) : ACode := (.code (lP (bB (sR (sL (sR (sR (sR (body)))))))))
def e0 (c_0 : Option Addr) (R : Ending → Mem → Prop) (m : Mem) : Prop :=
  Br c_0.isNone (
    R (.returned (.slice none 0 0)) m) (
    NilC c_0 (fun x9b x9o =>
      LdV m x9b (x9o + 1) fun v =>
      UnS v fun x11a x11l x11c =>
      l1  none 0 0 x11a x11l x11c ((x11l : Nat) : Int) 0 R m) (R (.panicked (nilPanic P)) m))
noncomputable def e0A (R : Ending → Mem → Prop) : ACode := (.seq (.code (sL (body))) (.seq (.code (sL (sR (body)))) (.seq (.code (sL (sR (sR (body))))) (.seq (.seq (.code (sL (sL (sR (sR (sR (body))))))) (.block 0 (.cut (l1E fun out_3a out_3l out_3c x11a x11l x11c x12 x13 m => l1  out_3a out_3l out_3c x11a x11l x11c x12 x13 R m) (.loop (lP (bB (sR (sL (sR (sR (sR (body)))))))))))) (.code (sR (sR (sR (sR (body))))))))))
theorem l1_eq  (K1 : Option Addr → Nat → Nat → Option Addr → Nat → Nat → Int → Int → Mem → Prop) (R : Ending → Mem → Prop) (out_3a : Option Addr) (out_3l : Nat) (out_3c : Nat) (x11a : Option Addr) (x11l : Nat) (x11c : Nat) (x12 : Int) (x13 : Int) (ρ : Env) (m : Mem) : l1B  K1 out_3a out_3l out_3c x11a x11l x11c x12 x13 R m = acpt P od (panicR R) (l1A  K1 R) (thenQ (l1E K1) (blockQ 0 (thenQ (acpt P od (panicR R) (.code (sR (sR (sR (sR (body)))))) (bodyQ P fn R)) (bodyQ P fn R)))) (upd (upd (upd (upd ρ 13 (.int .i64 x13)) 12 (.int .i64 x12)) 11 (.slice x11a x11l x11c)) 3 (.slice out_3a out_3l out_3c)) m := by kernel_rfl
theorem l1_er  (K1 : Option Addr → Nat → Nat → Option Addr → Nat → Nat → Int → Int → Mem → Prop) (R : Ending → Mem → Prop) : (l1A  K1 R).erase = lP (bB (sR (sL (sR (sR (sR (body))))))) := by kernel_rfl
theorem l1_ok  (R : Ending → Mem → Prop) (ρ : Env) (m : Mem) (h : (l1E fun out_3a out_3l out_3c x11a x11l x11c x12 x13 m => l1  out_3a out_3l out_3c x11a x11l x11c x12 x13 R m) ρ m) : cpt P od (panicR R) (.loop (lP (bB (sR (sL (sR (sR (sR (body))))))))) (blockQ 0 (thenQ (acpt P od (panicR R) (.code (sR (sR (sR (sR (body)))))) (bodyQ P fn R)) (bodyQ P fn R))) ρ m := by
  unfold l1E at h
  obtain ⟨out_3a, out_3l, out_3c, e3, h⟩ := h.ex
  obtain ⟨x11a, x11l, x11c, e11, h⟩ := h.ex
  obtain ⟨x12, e12, h⟩ := h.ex
  obtain ⟨x13, e13, h⟩ := h.ex
  obtain ⟨I, N, h0, hs⟩ := h
  refine ⟨fun N => l1E (I N), N, (by show l1E (I N) ρ m; unfold l1E; rw [e3, e11, e12, e13]; exact h0), ?_⟩
  clear h0 e3 e11 e12 e13
  intro N ρ m h
  unfold l1E at h
  obtain ⟨out_3a, out_3l, out_3c, e3, h⟩ := h.ex
  obtain ⟨x11a, x11l, x11c, e11, h⟩ := h.ex
  obtain ⟨x12, e12, h⟩ := h.ex
  obtain ⟨x13, e13, h⟩ := h.ex
  refine cpt_mono (P := P) (lP (bB (sR (sL (sR (sR (sR (body)))))))) (Q := thenQ (l1E fun out_3a out_3l out_3c x11a x11l x11c x12 x13 m => ∃ N1, N1 < N ∧ I N1 out_3a out_3l out_3c x11a x11l x11c x12 x13 m) (blockQ 0 (thenQ (acpt P od (panicR R) (.code (sR (sR (sR (sR (body)))))) (bodyQ P fn R)) (bodyQ P fn R)))) (fun e ρ m h => ?_) ρ m ?_
  · cases e with
    | normal =>
      have h : l1E (fun out_3a out_3l out_3c x11a x11l x11c x12 x13 m => ∃ N1, N1 < N ∧ I N1 out_3a out_3l out_3c x11a x11l x11c x12 x13 m) ρ m := h
      unfold l1E at h
      obtain ⟨out_3a, out_3l, out_3c, e3, h⟩ := h.ex
      obtain ⟨x11a, x11l, x11c, e11, h⟩ := h.ex
      obtain ⟨x12, e12, h⟩ := h.ex
      obtain ⟨x13, e13, h⟩ := h.ex
      obtain ⟨N1, hlt, h⟩ := h
      exact ⟨N1, hlt, (by show l1E (I N1) ρ m; unfold l1E; rw [e3, e11, e12, e13]; exact h)⟩
    | _ => exact h
  have hh := hs N out_3a out_3l out_3c x11a x11l x11c x12 x13 m h
  generalize (fun out_3a out_3l out_3c x11a x11l x11c x12 x13 m => ∃ N1, N1 < N ∧ I N1 out_3a out_3l out_3c x11a x11l x11c x12 x13 m : Option Addr → Nat → Nat → Option Addr → Nat → Nat → Int → Int → Mem → Prop) = K1 at hh ⊢
  rw [← upd_self e3, ← upd_self e11, ← upd_self e12, ← upd_self e13]
  rw [← l1_er  K1 R]
  refine acpt_sound (P := P) (l1A  K1 R) _ _ _ True.intro ?_
  exact Eq.mp (l1_eq  K1 R out_3a out_3l out_3c x11a x11l x11c x12 x13 ρ m) hh
theorem e0_eq (c_0 : Option Addr) (R : Ending → Mem → Prop) (m : Mem) : e0 c_0 R m = acpt P od (panicR R) (e0A R) (bodyQ P fn R) (argE (#[.pointer c_0] : Array Value).toList) m := by kernel_rfl
theorem ok (c_0 : Option Addr) (R : Ending → Mem → Prop) (m : Mem) (h : e0 c_0 R m) : HC P id #[.pointer c_0] m R := by
  refine HC_of (fn := fn) (c := body) (od := od) (tb := tb) Go.Proofs.Try.func18 (by kernel_rfl) (by kernel_rfl) follows (by kernel_rfl) (of_decide_eq_true (by kernel_rfl)) ?_
  have he : (e0A R).erase = body := by kernel_rfl
  rw [← he]
  refine acpt_sound (P := P) (e0A R) _ _ _ ⟨⟨⟨⟨True.intro, ⟨(fun ρ m h => l1_ok  R ρ m h), True.intro⟩⟩, True.intro⟩, True.intro⟩, True.intro⟩ ?_
  exact Eq.mp (e0_eq c_0 R m) h
end lru_Cache_string_Keys

/-! ### (*eyot/lru.Cache[string]).Get -/
namespace lru_Cache_string_Get
noncomputable def fn : Func := Go.Proofs.Try.f19
noncomputable def body : Code := fn.body.getD .skip
def od : Nat → Ord := fun _ => .done
def tb : Nat → Tab := fun _ => (0, [], [])
def e0 (c_0 : Option Addr) (k_1 : Int) (R : Ending → Mem → Prop) (m : Mem) : Prop :=
  HC P lru_Cache_string_at.id #[.pointer c_0, .int .i64 k_1] m (Cont (fun v m1 =>
      UnI v .i64 fun x11 =>
      Br (decide (x11 < 0)) (
        R (.returned (.tuple #[.string (ByteArray.mk #[]), .bool false])) m1) (
        NilC c_0 (fun x16b x16o =>
          LdV m1 x16b (x16o + 1) fun v =>
          UnS v fun x18a x18l x18c =>
          IxS x18a x18l x11 2 fun x20b x20o =>
          LdV m1 x20b x20o fun v =>
          UnI v .i64 fun x21_0 =>
          LdV m1 x20b (x20o + 1) fun v =>
          UnStr v fun x21_1 =>
          NewC m1 #[.int .i64 0, .string .empty] T_lru_entry_string fun b_e_8 m2 =>
          St1 m2 b_e_8 0 (.int .i64 x21_0) fun m3 =>
          St1 m3 b_e_8 1 (.string x21_1) fun m4 =>
          NilC c_0 (fun x24b x24o =>
            LdV m4 x24b (x24o + 1) fun v =>
            UnS v fun x26a x26l x26c =>
            HC P slices_Delete_s_lru_entry_string_lru_entry_string.id #[.slice x26a x26l x26c, .int .i64 x11, .int .i64 (IntKind.i64.wrap (x11 + 1))] m4 (Cont (fun v m5 =>
                UnS v fun x30a x30l x30c =>
                NilC c_0 (fun x31b x31o =>
                  St1 m5 x31b (x31o + 1) (.slice x30a x30l x30c) fun m6 =>
                  LdV m6 b_e_8 0 fun v =>
                  UnI v .i64 fun x34_0 =>
                  LdV m6 b_e_8 1 fun v =>
                  UnStr v fun x34_1 =>
                  HC P lru_Cache_string_front.id #[.pointer c_0, .agg #[.int .i64 x34_0, .string x34_1]] m6 (Cont (fun v m7 =>
                      UnTup v fun us0 =>
                      UnNil us0 (
                        LdV m7 b_e_8 1 fun v =>
                        UnStr v fun x37 =>
                        R (.returned (.tuple #[.string x37, .bool true])) m7)) (panicR R))) (R (.panicked (nilPanic P)) m5)) (panicR R))) (R (.panicked (nilPanic P)) m4)) (R (.panicked (nilPanic P)) m1))) (panicR R))
noncomputable def e0A (R : Ending → Mem → Prop) : ACode := (.code (body))
theorem e0_eq (c_0 : Option Addr) (k_1 : Int) (R : Ending → Mem → Prop) (m : Mem) : e0 c_0 k_1 R m = acpt P od (panicR R) (e0A R) (bodyQ P fn R) (argE (#[.pointer c_0, .int .i64 k_1] : Array Value).toList) m := by kernel_rfl
theorem ok (c_0 : Option Addr) (k_1 : Int) (R : Ending → Mem → Prop) (m : Mem) (h : e0 c_0 k_1 R m) : HC P id #[.pointer c_0, .int .i64 k_1] m R := by
  refine HC_of (fn := fn) (c := body) (od := od) (tb := tb) Go.Proofs.Try.func19 (by kernel_rfl) (by kernel_rfl) follows (by kernel_rfl) (of_decide_eq_true (by kernel_rfl)) ?_
  have he : (e0A R).erase = body := by kernel_rfl
  rw [← he]
  refine acpt_sound (P := P) (e0A R) _ _ _ True.intro ?_
  exact Eq.mp (e0_eq c_0 k_1 R m) h
end lru_Cache_string_Get

/-! ### (*eyot/lru.Cache[string]).Put -/
namespace lru_Cache_string_Put
noncomputable def fn : Func := Go.Proofs.Try.f20
noncomputable def body : Code := fn.body.getD .skip
def od : Nat → Ord := fun _ => .done
def tb : Nat → Tab := fun _ => (0, [], [])
def e0 (c_0 : Option Addr) (k_1 : Int) (v_2 : ByteArray) (R : Ending → Mem → Prop) (m : Mem) : Prop :=
  Br c_0.isNone (
    R (.returned (.tuple #[.int .i64 0, .bool false])) m) (
    HC P lru_Cache_string_Drop.id #[.pointer c_0, .int .i64 k_1] m (Cont (fun v m1 =>
        UnB v fun x13 =>
        HC P lru_Cache_string_front.id #[.pointer c_0, .agg #[.int .i64 k_1, .string v_2]] m1 (Cont (fun v m2 =>
            UnTup v fun us0 =>
            UnNil us0 (
              NilC c_0 (fun x20b x20o =>
                LdV m2 x20b (x20o + 1) fun v =>
                UnS v fun x22a x22l x22c =>
                NilC c_0 (fun x27b x27o =>
                  LdV m2 x27b x27o fun v =>
                  UnI v .i64 fun x29 =>
                  Br (decide ((IntKind.i64.wrap (((x22l : Nat) : Int) - 1)) < (if 1 > x29 then 1 else x29))) (
                    R (.returned (.tuple #[.int .i64 0, .bool false])) m2) (
                    NilC c_0 (fun x33b x33o =>
                      LdV m2 x33b (x33o + 1) fun v =>
                      UnS v fun x35a x35l x35c =>
                      IxS x35a x35l (IntKind.i64.wrap (((x22l : Nat) : Int) - 1)) 2 fun x37b x37o =>
                      LdV m2 x37b x37o fun v =>
                      UnI v .i64 fun x39 =>
                      NilC c_0 (fun x42b x42o =>
                        LdV m2 x42b (x42o + 1) fun v =>
                        UnS v fun x44a x44l x44c =>
                        SlS x44a x44c 0 (IntKind.i64.wrap (((x22l : Nat) : Int) - 1)) 2 fun x46a x46l x46c =>
                        NilC c_0 (fun x47b x47o =>
                        St1 m2 x47b (x47o + 1) (.slice x46a x46l x46c) fun m3 =>
                        R (.returned (.tuple #[.int .i64 x39, .bool true])) m3) (R (.panicked (nilPanic P)) m2)) (R (.panicked (nilPanic P)) m2)) (R (.panicked (nilPanic P)) m2))) (R (.panicked (nilPanic P)) m2)) (R (.panicked (nilPanic P)) m2))) (panicR R))) (panicR R)))
noncomputable def e0A (R : Ending → Mem → Prop) : ACode := (.code (body))
theorem e0_eq (c_0 : Option Addr) (k_1 : Int) (v_2 : ByteArray) (R : Ending → Mem → Prop) (m : Mem) : e0 c_0 k_1 v_2 R m = acpt P od (panicR R) (e0A R) (bodyQ P fn R) (argE (#[.pointer c_0, .int .i64 k_1, .string v_2] : Array Value).toList) m := by kernel_rfl
theorem ok (c_0 : Option Addr) (k_1 : Int) (v_2 : ByteArray) (R : Ending → Mem → Prop) (m : Mem) (h : e0 c_0 k_1 v_2 R m) : HC P id #[.pointer c_0, .int .i64 k_1, .string v_2] m R := by
  refine HC_of (fn := fn) (c := body) (od := od) (tb := tb) Go.Proofs.Try.func20 (by kernel_rfl) (by kernel_rfl) follows (by kernel_rfl) (of_decide_eq_true (by kernel_rfl)) ?_
  have he : (e0A R).erase = body := by kernel_rfl
  rw [← he]
  refine acpt_sound (P := P) (e0A R) _ _ _ True.intro ?_
  exact Eq.mp (e0_eq c_0 k_1 v_2 R m) h
end lru_Cache_string_Put

/-! ### (*eyot/lru.Cache[string]).Drop -/
namespace lru_Cache_string_Drop
noncomputable def fn : Func := Go.Proofs.Try.f21
noncomputable def body : Code := fn.body.getD .skip
def od : Nat → Ord := fun _ => .done
def tb : Nat → Tab := fun _ => (0, [], [])
def e0 (c_0 : Option Addr) (k_1 : Int) (R : Ending → Mem → Prop) (m : Mem) : Prop :=
  HC P lru_Cache_string_at.id #[.pointer c_0, .int .i64 k_1] m (Cont (fun v m1 =>
      UnI v .i64 fun x8 =>
      Br (decide (x8 < 0)) (
        R (.returned (.bool false)) m1) (
        NilC c_0 (fun x13b x13o =>
          LdV m1 x13b (x13o + 1) fun v =>
          UnS v fun x15a x15l x15c =>
          HC P slices_Delete_s_lru_entry_string_lru_entry_string.id #[.slice x15a x15l x15c, .int .i64 x8, .int .i64 (IntKind.i64.wrap (x8 + 1))] m1 (Cont (fun v m2 =>
              UnS v fun x19a x19l x19c =>
              NilC c_0 (fun x20b x20o =>
                St1 m2 x20b (x20o + 1) (.slice x19a x19l x19c) fun m3 =>
                R (.returned (.bool true)) m3) (R (.panicked (nilPanic P)) m2)) (panicR R))) (R (.panicked (nilPanic P)) m1))) (panicR R))
noncomputable def e0A (R : Ending → Mem → Prop) : ACode := (.code (body))
theorem e0_eq (c_0 : Option Addr) (k_1 : Int) (R : Ending → Mem → Prop) (m : Mem) : e0 c_0 k_1 R m = acpt P od (panicR R) (e0A R) (bodyQ P fn R) (argE (#[.pointer c_0, .int .i64 k_1] : Array Value).toList) m := by kernel_rfl
theorem ok (c_0 : Option Addr) (k_1 : Int) (R : Ending → Mem → Prop) (m : Mem) (h : e0 c_0 k_1 R m) : HC P id #[.pointer c_0, .int .i64 k_1] m R := by
  refine HC_of (fn := fn) (c := body) (od := od) (tb := tb) Go.Proofs.Try.func21 (by kernel_rfl) (by kernel_rfl) follows (by kernel_rfl) (of_decide_eq_true (by kernel_rfl)) ?_
  have he : (e0A R).erase = body := by kernel_rfl
  rw [← he]
  refine acpt_sound (P := P) (e0A R) _ _ _ True.intro ?_
  exact Eq.mp (e0_eq c_0 k_1 R m) h
end lru_Cache_string_Drop

/-! ### (*eyot/eyotref3.Cache).Put -/
namespace eyotref3_Cache_Put
noncomputable def fn : Func := Go.Proofs.Try.f22
noncomputable def body : Code := fn.body.getD .skip
def od : Nat → Ord := fun | 2 => ordL [(0, 3), (1, 3), (2, 3), (4, 3), (5, 3), (6, 3), (7, 1), (9, 3), (11, 3), (12, 3), (13, 3), (14, 1)] (.alt 3 0 (ordL [] (.alt 8 0 (ordL [(10, 0), (15, 2), (16, 3), (17, 3), (18, 2), (19, 3), (20, 3), (21, 2)] .done) 10 0 (ordL [(8, 0), (15, 2), (16, 3), (17, 3), (18, 2), (19, 3), (20, 3), (21, 2)] .done))) 10 0 (ordL [(3, 0), (8, 0), (15, 2), (16, 3), (17, 3), (18, 2), (19, 3), (20, 3), (21, 2)] .done)) | 3 => ordL [(0, 3), (1, 3), (2, 3), (3, 1), (4, 3), (5, 3), (6, 3), (7, 3), (8, 0), (9, 3), (10, 3)] .done | 5 => ordL [(0, 3), (1, 3), (2, 3), (3, 1), (4, 3), (5, 3), (6, 3), (7, 0), (8, 3), (9, 3), (10, 3), (11, 2), (12, 3)] .done | 6 => ordL [(0, 3), (1, 3), (2, 3), (3, 3), (4, 3), (5, 1), (6, 3), (7, 3), (8, 3), (9, 1), (10, 3), (11, 3), (12, 3), (13, 3), (14, 3), (15, 3), (16, 1), (17, 3), (18, 3), (19, 3), (20, 0), (21, 3), (22, 3), (23, 3), (24, 3), (25, 3), (26, 2), (27, 3), (28, 3), (29, 2)] .done | _ => .done
def tb : Nat → Tab := fun | 2 => (2392064, [0, 0, 0, 4, 0, 16, 48, 112, 252, 0, 512, 0, 2048, 6144, 14336, 32764, 65533, 131069, 262141, 524287, 1048575, 2097151], [(0, 1, 13), (0, 1, 14), (0, 2, 15), (4, 16384, 16), (0, 1, 17), (16, 65536, 18), (32, 131072, 19), (64, 262144, 20), (136, 557056, 21), (0, 4, 22), (512, 2097152, 23), (0, 1, 24), (2048, 8388608, 25), (4096, 16777216, 26), (8192, 33554432, 27), (17664, 71303168, 28), (49661, 4096, 29), (115197, 268435456, 30), (180733, 537919488, 0), (524287, 8192, 31), (1048575, 1073741824, 32), (1572863, 2281701376, 0)]) | 3 => (0, [0, 1, 3, 7, 15, 0, 32, 96, 224, 480, 1023], [(0, 1, 33), (1, 4294967296, 34), (2, 8589934592, 35), (4, 17179869184, 36), (8, 34359738368, 37), (0, 1, 38), (32, 137438953472, 39), (64, 274877906944, 40), (128, 549755813888, 41), (256, 1099511627776, 42), (528, 2267742732288, 43)]) | 5 => (2048, [0, 1, 3, 7, 0, 16, 48, 112, 240, 496, 1023, 2047, 4095], [(0, 1, 44), (1, 8796093022208, 45), (2, 17592186044416, 46), (4, 35184372088832, 47), (0, 1, 48), (16, 140737488355328, 49), (32, 281474976710656, 50), (64, 562949953421312, 51), (128, 1125899906842624, 52), (256, 2251799813685248, 53), (520, 4573968371548160, 54), (1024, 9007199254740992, 55), (4095, 18014398509481984, 9)]) | 6 => (603979776, [0, 0, 0, 4, 12, 28, 0, 64, 192, 448, 960, 1984, 4092, 0, 8192, 24576, 57344, 0, 131072, 393216, 917504, 1966080, 4063232, 8380416, 2097149, 18874365, 52428797, 134217727, 268435455, 536870911], [(0, 1, 56), (0, 1, 57), (0, 1, 58), (4, 144115188075855872, 59), (8, 288230376151711744, 60), (16, 576460752303423488, 61), (0, 1, 62), (64, 2305843009213693952, 63), (128, 4611686018427387904, 64), (256, 9223372036854775808, 65), (512, 18446744073709551616, 66), (1024, 36893488147419103232, 67), (2080, 74939897799445053440, 68), (0, 1, 69), (8192, 295147905179352825856, 70), (16384, 590295810358705651712, 71), (32768, 1180591620717411303424, 72), (0, 1, 73), (131072, 4722366482869645213696, 74), (262144, 9444732965739290427392, 75), (524288, 18889465931478580854784, 76), (1048576, 37778931862957161709568, 77), (2097152, 75557863725914323419136, 78), (4259840, 153476910693263469445120, 79), (1122301, 36028797018963968, 80), (17899517, 604462909807314587353088, 81), (34676733, 1209073393567218851119104, 0), (134217727, 72057594037927936, 82), (268435455, 2417851639229258349412352, 83), (402653183, 5137934733362173992501248, 0)]) | _ => (0, [], [])
def k1E (K : Option Addr → Mem → Prop) : Env → Mem → Prop := fun ρ m => UnP (ρ 0) fun x0 => K x0 m
def k1  (x0 : Option Addr) (R : Ending → Mem → Prop) (m : Mem) : Prop :=
  Sub m fun r1 =>
  NilC x0 (fun x33b x33o =>
    LdV r1 x33b (x33o + 1) fun v =>
    UnS v fun x35a x35l x35c =>
    NilC x0 (fun x38b x38o =>
      LdV m x38b x38o fun v =>
      UnI v .i64 fun x40 =>
      Br (decide (((x35l : Nat) : Int) ≤ (if 1 > x40 then 1 else x40))) (
        R (.returned (.tuple #[.int .i64 0, .bool false])) m) (
        Sub m fun r2 =>
        NilC x0 (fun x44b x44o =>
          LdV r2 x44b (x44o + 1) fun v =>
          UnS v fun x46a x46l x46c =>
          NilC x0 (fun x48b x48o =>
            LdV m x48b (x48o + 1) fun v =>
            UnS v fun x50a x50l x50c =>
            IxS x46a x46l (IntKind.i64.wrap (((x50l : Nat) : Int) - 1)) 1 fun x53b x53o =>
            LdV m x53b x53o fun v =>
            UnI v .i64 fun x54 =>
            Sub m fun r3 =>
            NilC x0 (fun x58b x58o =>
              LdV r3 x58b (x58o + 1) fun v =>
              UnS v fun x60a x60l x60c =>
              NilC x0 (fun x62b x62o =>
                LdV r3 x62b (x62o + 1) fun v =>
                UnS v fun x64a x64l x64c =>
                SlS x60a x60c 0 (IntKind.i64.wrap (((x64l : Nat) : Int) - 1)) 1 fun x67a x67l x67c =>
                NilC x0 (fun x69b x69o =>
                  LdV r3 x69b (x69o + 2) fun v =>
                  UnS v fun x71a x71l x71c =>
                  NilC x0 (fun x73b x73o =>
                    LdV m x73b (x73o + 2) fun v =>
                    UnS v fun x75a x75l x75c =>
                    SlS x71a x71c 0 (IntKind.i64.wrap (((x75l : Nat) : Int) - 1)) 1 fun x78a x78l x78c =>
                    NilC x0 (fun x79b x79o =>
                      St1 m x79b (x79o + 1) (.slice x67a x67l x67c) fun m4 =>
                      NilC x0 (fun x81b x81o =>
                        St1 m4 x81b (x81o + 2) (.slice x78a x78l x78c) fun m5 =>
                        R (.returned (.tuple #[.int .i64 x54, .bool true])) m5) (False)) (False)) (False)) (False)) (False)) (False)) (False)) (False))) (False)) (False)
noncomputable def k1A  (R : Ending → Mem → Prop) : ACode := (.code (sR (sR (sR (body)))))
def e0 (a0 : Option Addr) (a1 : Int) (a2 : Int) (R : Ending → Mem → Prop) (m : Mem) : Prop :=
  HC P eyotref3_Cache_Drop.id #[.pointer a0, .int .i64 a1] m (Cont (fun v m1 =>
      UnB v fun x11 =>
      Sub m1 fun r2 =>
      NilC a0 (fun x17b x17o =>
        LdV r2 x17b (x17o + 1) fun v =>
        UnS v fun x19a x19l x19c =>
        NilC a0 (fun x24b x24o =>
          LdV r2 x24b (x24o + 2) fun v =>
          UnS v fun x26a x26l x26c =>
          (
            NewC m1 #[.int .i64 a1] T_int fun b15 m3 =>
            Lk r2 m3 fun r4 =>
            (
              BiN P .append #[T_sl_int, T_sl_int] T_sl_int #[false, false] #[.slice (some ⟨b15, 0, none⟩) 1 1, .slice x19a x19l x19c] m3 (fun w m5 =>
                UnS w fun x20a x20l x20c =>
                Lk r4 m5 fun r6 =>
                NewC m5 #[.int .i64 a2] T_int fun b22 m7 =>
                Lk r6 m7 fun r8 =>
                BiN P .append #[T_sl_int, T_sl_int] T_sl_int #[false, false] #[.slice (some ⟨b22, 0, none⟩) 1 1, .slice x26a x26l x26c] m7 (fun w m9 =>
                  UnS w fun x27a x27l x27c =>
                  NilC a0 (fun x28b x28o =>
                    St1 m9 x28b (x28o + 1) (.slice x20a x20l x20c) fun m10 =>
                    NilC a0 (fun x30b x30o =>
                      St1 m10 x30b (x30o + 2) (.slice x27a x27l x27c) fun m11 =>
                      k1  a0 R m11) (False)) (False)) (panicR R)) (panicR R)) ∧ (
              NewC m3 #[.int .i64 a2] T_int fun b22 m5 =>
              Lk r4 m5 fun r6 =>
              BiN P .append #[T_sl_int, T_sl_int] T_sl_int #[false, false] #[.slice (some ⟨b15, 0, none⟩) 1 1, .slice x19a x19l x19c] m5 (fun w m7 =>
                UnS w fun x20a x20l x20c =>
                Lk r6 m7 fun r8 =>
                BiN P .append #[T_sl_int, T_sl_int] T_sl_int #[false, false] #[.slice (some ⟨b22, 0, none⟩) 1 1, .slice x26a x26l x26c] m7 (fun w m9 =>
                  UnS w fun x27a x27l x27c =>
                  NilC a0 (fun x28b x28o =>
                    St1 m9 x28b (x28o + 1) (.slice x20a x20l x20c) fun m10 =>
                    NilC a0 (fun x30b x30o =>
                      St1 m10 x30b (x30o + 2) (.slice x27a x27l x27c) fun m11 =>
                      k1  a0 R m11) (False)) (False)) (panicR R)) (panicR R))) ∧ (
            NewC m1 #[.int .i64 a2] T_int fun b22 m3 =>
            Lk r2 m3 fun r4 =>
            NewC m3 #[.int .i64 a1] T_int fun b15 m5 =>
            Lk r4 m5 fun r6 =>
            BiN P .append #[T_sl_int, T_sl_int] T_sl_int #[false, false] #[.slice (some ⟨b15, 0, none⟩) 1 1, .slice x19a x19l x19c] m5 (fun w m7 =>
              UnS w fun x20a x20l x20c =>
              Lk r6 m7 fun r8 =>
              BiN P .append #[T_sl_int, T_sl_int] T_sl_int #[false, false] #[.slice (some ⟨b22, 0, none⟩) 1 1, .slice x26a x26l x26c] m7 (fun w m9 =>
                UnS w fun x27a x27l x27c =>
                NilC a0 (fun x28b x28o =>
                  St1 m9 x28b (x28o + 1) (.slice x20a x20l x20c) fun m10 =>
                  NilC a0 (fun x30b x30o =>
                    St1 m10 x30b (x30o + 2) (.slice x27a x27l x27c) fun m11 =>
                    k1  a0 R m11) (False)) (False)) (panicR R)) (panicR R))) (False)) (False)) (panicR R))
noncomputable def e0A (R : Ending → Mem → Prop) : ACode := (.seq (.code (sL (body))) (.seq (.code (sL (sR (body)))) (.seq (.code (sL (sR (sR (body))))) (.cut (k1E fun x0 m => k1  x0 R m) (sR (sR (sR (body))))))))
theorem k1_eq  (R : Ending → Mem → Prop) (x0 : Option Addr) (ρ : Env) (m : Mem) : k1  x0 R m = acpt P od (panicR R) (k1A  R) (bodyQ P fn R) (upd ρ 0 (.pointer x0)) m := by kernel_rfl
theorem k1_er  (R : Ending → Mem → Prop) : (k1A  R).erase = sR (sR (sR (body))) := by kernel_rfl
theorem k1_ok  (R : Ending → Mem → Prop) (ρ : Env) (m : Mem) (h : (k1E fun x0 m => k1  x0 R m) ρ m) : cpt P od (panicR R) (sR (sR (sR (body)))) (bodyQ P fn R) ρ m := by
  unfold k1E at h
  obtain ⟨x0, e0, h⟩ := h.ex
  rw [← upd_self e0]
  rw [← k1_er  R]
  refine acpt_sound (P := P) (k1A  R) _ _ _ True.intro ?_
  exact Eq.mp (k1_eq  R x0 ρ m) h
theorem e0_eq (a0 : Option Addr) (a1 : Int) (a2 : Int) (R : Ending → Mem → Prop) (m : Mem) : e0 a0 a1 a2 R m = acpt P od (panicR R) (e0A R) (bodyQ P fn R) (argE (#[.pointer a0, .int .i64 a1, .int .i64 a2] : Array Value).toList) m := by kernel_rfl
theorem ok (a0 : Option Addr) (a1 : Int) (a2 : Int) (R : Ending → Mem → Prop) (m : Mem) (h : e0 a0 a1 a2 R m) : HC P id #[.pointer a0, .int .i64 a1, .int .i64 a2] m R := by
  refine HC_of (fn := fn) (c := body) (od := od) (tb := tb) Go.Proofs.Try.func22 (by kernel_rfl) (by kernel_rfl) follows (by kernel_rfl) (of_decide_eq_true (by kernel_rfl)) ?_
  have he : (e0A R).erase = body := by kernel_rfl
  rw [← he]
  refine acpt_sound (P := P) (e0A R) _ _ _ ⟨⟨⟨(fun ρ m h => k1_ok  R ρ m h), True.intro⟩, True.intro⟩, True.intro⟩ ?_
  exact Eq.mp (e0_eq a0 a1 a2 R m) h
end eyotref3_Cache_Put

/-! ### (*eyot/eyotref3.Cache).Get -/
namespace eyotref3_Cache_Get
noncomputable def fn : Func := Go.Proofs.Try.f23
noncomputable def body : Code := fn.body.getD .skip
def od : Nat → Ord := fun _ => .done
def tb : Nat → Tab := fun _ => (0, [], [])
def e0 (c_0 : Option Addr) (k_1 : Int) (R : Ending → Mem → Prop) (m : Mem) : Prop :=
  HC P eyotref3_Cache_at.id #[.pointer c_0, .int .i64 k_1] m (Cont (fun v m1 =>
      UnI v .i64 fun x10 =>
      Br (decide (x10 < 0)) (
        R (.returned (.tuple #[.int .i64 0, .bool false])) m1) (
        NilC c_0 (fun x14b x14o =>
          LdV m1 x14b (x14o + 2) fun v =>
          UnS v fun x16a x16l x16c =>
          IxS x16a x16l x10 1 fun x18b x18o =>
          LdV m1 x18b x18o fun v =>
          UnI v .i64 fun x19 =>
          HC P eyotref3_Cache_Put.id #[.pointer c_0, .int .i64 k_1, .int .i64 x19] m1 (Cont (fun v m2 =>
              UnTup v fun us0 =>
              UnCons us0 fun w us1 =>
              UnI w .i64 fun x23_0 =>
              UnCons us1 fun w us2 =>
              UnB w fun x23_1 =>
              UnNil us2 (
                R (.returned (.tuple #[.int .i64 x19, .bool true])) m2)) (panicR R))) (R (.panicked (nilPanic P)) m1))) (panicR R))
noncomputable def e0A (R : Ending → Mem → Prop) : ACode := (.code (body))
theorem e0_eq (c_0 : Option Addr) (k_1 : Int) (R : Ending → Mem → Prop) (m : Mem) : e0 c_0 k_1 R m = acpt P od (panicR R) (e0A R) (bodyQ P fn R) (argE (#[.pointer c_0, .int .i64 k_1] : Array Value).toList) m := by kernel_rfl
theorem ok (c_0 : Option Addr) (k_1 : Int) (R : Ending → Mem → Prop) (m : Mem) (h : e0 c_0 k_1 R m) : HC P id #[.pointer c_0, .int .i64 k_1] m R := by
  refine HC_of (fn := fn) (c := body) (od := od) (tb := tb) Go.Proofs.Try.func23 (by kernel_rfl) (by kernel_rfl) follows (by kernel_rfl) (of_decide_eq_true (by kernel_rfl)) ?_
  have he : (e0A R).erase = body := by kernel_rfl
  rw [← he]
  refine acpt_sound (P := P) (e0A R) _ _ _ True.intro ?_
  exact Eq.mp (e0_eq c_0 k_1 R m) h
end eyotref3_Cache_Get

/-! ### (*eyot/lru.Cache[int]).Drop -/
namespace lru_Cache_int_Drop
noncomputable def fn : Func := Go.Proofs.Try.f24
noncomputable def body : Code := fn.body.getD .skip
def od : Nat → Ord := fun _ => .done
def tb : Nat → Tab := fun _ => (0, [], [])
def e0 (c_0 : Option Addr) (k_1 : Int) (R : Ending → Mem → Prop) (m : Mem) : Prop :=
  HC P lru_Cache_int_at.id #[.pointer c_0, .int .i64 k_1] m (Cont (fun v m1 =>
      UnI v .i64 fun x8 =>
      Br (decide (x8 < 0)) (
        R (.returned (.bool false)) m1) (
        NilC c_0 (fun x13b x13o =>
          LdV m1 x13b (x13o + 1) fun v =>
          UnS v fun x15a x15l x15c =>
          HC P slices_Delete_s_lru_entry_int_lru_entry_int.id #[.slice x15a x15l x15c, .int .i64 x8, .int .i64 (IntKind.i64.wrap (x8 + 1))] m1 (Cont (fun v m2 =>
              UnS v fun x19a x19l x19c =>
              NilC c_0 (fun x20b x20o =>
                St1 m2 x20b (x20o + 1) (.slice x19a x19l x19c) fun m3 =>
                R (.returned (.bool true)) m3) (R (.panicked (nilPanic P)) m2)) (panicR R))) (R (.panicked (nilPanic P)) m1))) (panicR R))
noncomputable def e0A (R : Ending → Mem → Prop) : ACode := (.code (body))
theorem e0_eq (c_0 : Option Addr) (k_1 : Int) (R : Ending → Mem → Prop) (m : Mem) : e0 c_0 k_1 R m = acpt P od (panicR R) (e0A R) (bodyQ P fn R) (argE (#[.pointer c_0, .int .i64 k_1] : Array Value).toList) m := by kernel_rfl
theorem ok (c_0 : Option Addr) (k_1 : Int) (R : Ending → Mem → Prop) (m : Mem) (h : e0 c_0 k_1 R m) : HC P id #[.pointer c_0, .int .i64 k_1] m R := by
  refine HC_of (fn := fn) (c := body) (od := od) (tb := tb) Go.Proofs.Try.func24 (by kernel_rfl) (by kernel_rfl) follows (by kernel_rfl) (of_decide_eq_true (by kernel_rfl)) ?_
  have he : (e0A R).erase = body := by kernel_rfl
  rw [← he]
  refine acpt_sound (P := P) (e0A R) _ _ _ True.intro ?_
  exact Eq.mp (e0_eq c_0 k_1 R m) h
end lru_Cache_int_Drop

/-! ### (*eyot/eyotref3.Cache).Drop -/
namespace eyotref3_Cache_Drop
noncomputable def fn : Func := Go.Proofs.Try.f25
noncomputable def body : Code := fn.body.getD .skip
def od : Nat → Ord := fun | 4 => ordL [(0, 3), (2, 3), (3, 3), (4, 3), (5, 1), (6, 3), (7, 3), (9, 3), (10, 3), (11, 3), (12, 1), (13, 3), (14, 3), (15, 3), (1, 0), (8, 0), (16, 2), (17, 3), (18, 3), (19, 2)] .done | 5 => ordL [(0, 3), (2, 3), (3, 3), (4, 3), (5, 1), (6, 3), (7, 3), (9, 3), (10, 3), (11, 3), (12, 1), (13, 3), (14, 3), (15, 3), (1, 0), (8, 0), (16, 2), (17, 3), (18, 3), (19, 2)] .done | _ => .done
def tb : Nat → Tab := fun | 4 => (589824, [0, 0, 0, 4, 12, 28, 0, 124, 254, 0, 512, 1536, 3584, 0, 8192, 32256, 65534, 131071, 262143, 524287], [(0, 1, 12), (0, 0, 13), (0, 1, 14), (4, 8192, 15), (8, 16384, 16), (16, 32768, 17), (0, 32, 18), (96, 196608, 19), (130, 266240, 20), (0, 1, 21), (512, 1048576, 22), (1024, 2097152, 23), (2048, 4194304, 24), (0, 32, 25), (8192, 16777216, 26), (20480, 41943040, 27), (33024, 67633152, 28), (131071, 2048, 29), (262143, 268435456, 30), (393215, 671088640, 0)]) | 5 => (589824, [0, 0, 0, 4, 12, 28, 0, 124, 254, 0, 512, 1536, 3584, 0, 8192, 32256, 65534, 131071, 262143, 524287], [(0, 1, 31), (0, 0, 32), (0, 1, 33), (4, 4294967296, 34), (8, 8589934592, 35), (16, 17179869184, 36), (0, 32, 37), (96, 103079215104, 38), (130, 139586437120, 39), (0, 1, 40), (512, 549755813888, 41), (1024, 1099511627776, 42), (2048, 2199023255552, 43), (0, 32, 44), (8192, 8796093022208, 45), (20480, 21990232555520, 46), (33024, 35459249995776, 47), (131071, 1073741824, 48), (262143, 140737488355328, 49), (393215, 351843720888320, 0)]) | _ => (0, [], [])
def e0 (c_0 : Option Addr) (k_1 : Int) (R : Ending → Mem → Prop) (m : Mem) : Prop :=
  HC P eyotref3_Cache_at.id #[.pointer c_0, .int .i64 k_1] m (Cont (fun v m1 =>
      UnI v .i64 fun x8 =>
      Br (decide (x8 < 0)) (
        R (.returned (.bool false)) m1) (
        Sub m1 fun r2 =>
        NilC c_0 (fun x14b x14o =>
          LdV r2 x14b (x14o + 1) fun v =>
          UnS v fun x16a x16l x16c =>
          SlS x16a x16c 0 x8 1 fun x18a x18l x18c =>
          NilC c_0 (fun x21b x21o =>
            LdV r2 x21b (x21o + 1) fun v =>
            UnS v fun x23a x23l x23c =>
            SlS x23a x23c (IntKind.i64.wrap (x8 + 1)) x23l 1 fun x26a x26l x26c =>
            NewC m1 #[] T_int fun b12 m3 =>
            Lk r2 m3 fun r4 =>
            BiN P .append #[T_sl_int, T_sl_int] T_sl_int #[false, false] #[.slice (some ⟨b12, 0, none⟩) 0 0, .slice x18a x18l x18c] m3 (fun w m5 =>
              UnS w fun x19a x19l x19c =>
              Lk r4 m5 fun r6 =>
              BiN P .append #[T_sl_int, T_sl_int] T_sl_int #[false, false] #[.slice x19a x19l x19c, .slice x26a x26l x26c] m5 (fun w m7 =>
                UnS w fun x27a x27l x27c =>
                NilC c_0 (fun x28b x28o =>
                  St1 m7 x28b (x28o + 1) (.slice x27a x27l x27c) fun m8 =>
                  Sub m8 fun r9 =>
                  NilC c_0 (fun x33b x33o =>
                    LdV r9 x33b (x33o + 2) fun v =>
                    UnS v fun x35a x35l x35c =>
                    SlS x35a x35c 0 x8 1 fun x37a x37l x37c =>
                    NilC c_0 (fun x40b x40o =>
                      LdV r9 x40b (x40o + 2) fun v =>
                      UnS v fun x42a x42l x42c =>
                      SlS x42a x42c (IntKind.i64.wrap (x8 + 1)) x42l 1 fun x45a x45l x45c =>
                      NewC m8 #[] T_int fun b31 m10 =>
                      Lk r9 m10 fun r11 =>
                      BiN P .append #[T_sl_int, T_sl_int] T_sl_int #[false, false] #[.slice (some ⟨b31, 0, none⟩) 0 0, .slice x37a x37l x37c] m10 (fun w m12 =>
                        UnS w fun x38a x38l x38c =>
                        Lk r11 m12 fun r13 =>
                        BiN P .append #[T_sl_int, T_sl_int] T_sl_int #[false, false] #[.slice x38a x38l x38c, .slice x45a x45l x45c] m12 (fun w m14 =>
                        UnS w fun x46a x46l x46c =>
                        NilC c_0 (fun x47b x47o =>
                        St1 m14 x47b (x47o + 2) (.slice x46a x46l x46c) fun m15 =>
                        R (.returned (.bool true)) m15) (False)) (panicR R)) (panicR R)) (False)) (False)) (False)) (panicR R)) (panicR R)) (False)) (False))) (panicR R))
noncomputable def e0A (R : Ending → Mem → Prop) : ACode := (.code (body))
theorem e0_eq (c_0 : Option Addr) (k_1 : Int) (R : Ending → Mem → Prop) (m : Mem) : e0 c_0 k_1 R m = acpt P od (panicR R) (e0A R) (bodyQ P fn R) (argE (#[.pointer c_0, .int .i64 k_1] : Array Value).toList) m := by kernel_rfl
theorem ok (c_0 : Option Addr) (k_1 : Int) (R : Ending → Mem → Prop) (m : Mem) (h : e0 c_0 k_1 R m) : HC P id #[.pointer c_0, .int .i64 k_1] m R := by
  refine HC_of (fn := fn) (c := body) (od := od) (tb := tb) Go.Proofs.Try.func25 (by kernel_rfl) (by kernel_rfl) follows (by kernel_rfl) (of_decide_eq_true (by kernel_rfl)) ?_
  have he : (e0A R).erase = body := by kernel_rfl
  rw [← he]
  refine acpt_sound (P := P) (e0A R) _ _ _ True.intro ?_
  exact Eq.mp (e0_eq c_0 k_1 R m) h
end eyotref3_Cache_Drop

/-! ### (*eyot/lru.Cache[int]).Clear -/
namespace lru_Cache_int_Clear
noncomputable def fn : Func := Go.Proofs.Try.f26
noncomputable def body : Code := fn.body.getD .skip
def od : Nat → Ord := fun _ => .done
def tb : Nat → Tab := fun _ => (0, [], [])
def e0 (c_0 : Option Addr) (R : Ending → Mem → Prop) (m : Mem) : Prop :=
  Br (!c_0.isNone) (
    NilC c_0 (fun x5b x5o =>
      St1 m x5b (x5o + 1) (.slice none 0 0) fun m1 =>
      R (.returned (.tuple #[])) m1) (R (.panicked (nilPanic P)) m)) (
    R (.returned (.tuple #[])) m)
noncomputable def e0A (R : Ending → Mem → Prop) : ACode := (.code (body))
theorem e0_eq (c_0 : Option Addr) (R : Ending → Mem → Prop) (m : Mem) : e0 c_0 R m = acpt P od (panicR R) (e0A R) (bodyQ P fn R) (argE (#[.pointer c_0] : Array Value).toList) m := by kernel_rfl
theorem ok (c_0 : Option Addr) (R : Ending → Mem → Prop) (m : Mem) (h : e0 c_0 R m) : HC P id #[.pointer c_0] m R := by
  refine HC_of (fn := fn) (c := body) (od := od) (tb := tb) Go.Proofs.Try.func26 (by kernel_rfl) (by kernel_rfl) follows (by kernel_rfl) (of_decide_eq_true (by kernel_rfl)) ?_
  have he : (e0A R).erase = body := by kernel_rfl
  rw [← he]
  refine acpt_sound (P := P) (e0A R) _ _ _ True.intro ?_
  exact Eq.mp (e0_eq c_0 R m) h
end lru_Cache_int_Clear

/-! ### (*eyot/lru.Cache[string]).Clear -/
namespace lru_Cache_string_Clear
noncomputable def fn : Func := Go.Proofs.Try.f27
noncomputable def body : Code := fn.body.getD .skip
def od : Nat → Ord := fun _ => .done
def tb : Nat → Tab := fun _ => (0, [], [])
def e0 (c_0 : Option Addr) (R : Ending → Mem → Prop) (m : Mem) : Prop :=
  Br (!c_0.isNone) (
    NilC c_0 (fun x5b x5o =>
      St1 m x5b (x5o + 1) (.slice none 0 0) fun m1 =>
      R (.returned (.tuple #[])) m1) (R (.panicked (nilPanic P)) m)) (
    R (.returned (.tuple #[])) m)
noncomputable def e0A (R : Ending → Mem → Prop) : ACode := (.code (body))
theorem e0_eq (c_0 : Option Addr) (R : Ending → Mem → Prop) (m : Mem) : e0 c_0 R m = acpt P od (panicR R) (e0A R) (bodyQ P fn R) (argE (#[.pointer c_0] : Array Value).toList) m := by kernel_rfl
theorem ok (c_0 : Option Addr) (R : Ending → Mem → Prop) (m : Mem) (h : e0 c_0 R m) : HC P id #[.pointer c_0] m R := by
  refine HC_of (fn := fn) (c := body) (od := od) (tb := tb) Go.Proofs.Try.func27 (by kernel_rfl) (by kernel_rfl) follows (by kernel_rfl) (of_decide_eq_true (by kernel_rfl)) ?_
  have he : (e0A R).erase = body := by kernel_rfl
  rw [← he]
  refine acpt_sound (P := P) (e0A R) _ _ _ True.intro ?_
  exact Eq.mp (e0_eq c_0 R m) h
end lru_Cache_string_Clear

/-! ### (*eyot/lru.Cache[int]).at -/
namespace lru_Cache_int_at
noncomputable def fn : Func := Go.Proofs.Try.f28
noncomputable def body : Code := fn.body.getD .skip
def od : Nat → Ord := fun _ => .done
def tb : Nat → Tab := fun _ => (0, [], [])
def e0 (c_0 : Option Addr) (k_1 : Int) (R : Ending → Mem → Prop) (m : Mem) : Prop :=
  NewC m #[.int .i64 k_1] T_int fun b_k_3 m1 =>
  Br c_0.isNone (
    R (.returned (.int .i64 (-1))) m1) (
    NilC c_0 (fun x8b x8o =>
      LdV m1 x8b (x8o + 1) fun v =>
      UnS v fun x10a x10l x10c =>
      HC P slices_IndexFunc_s_lru_entry_int_lru_entry_int.id #[.slice x10a x10l x10c, .func (.func lru_Cache_int_at_1.id) #[] #[.pointer (some ⟨b_k_3, 0, none⟩)]] m1 (Cont (fun v m2 =>
          UnI v .i64 fun x12 =>
          R (.returned (.int .i64 x12)) m2) (panicR R))) (R (.panicked (nilPanic P)) m1))
noncomputable def e0A (R : Ending → Mem → Prop) : ACode := (.code (body))
theorem e0_eq (c_0 : Option Addr) (k_1 : Int) (R : Ending → Mem → Prop) (m : Mem) : e0 c_0 k_1 R m = acpt P od (panicR R) (e0A R) (bodyQ P fn R) (argE (#[.pointer c_0, .int .i64 k_1] : Array Value).toList) m := by kernel_rfl
theorem ok (c_0 : Option Addr) (k_1 : Int) (R : Ending → Mem → Prop) (m : Mem) (h : e0 c_0 k_1 R m) : HC P id #[.pointer c_0, .int .i64 k_1] m R := by
  refine HC_of (fn := fn) (c := body) (od := od) (tb := tb) Go.Proofs.Try.func28 (by kernel_rfl) (by kernel_rfl) follows (by kernel_rfl) (of_decide_eq_true (by kernel_rfl)) ?_
  have he : (e0A R).erase = body := by kernel_rfl
  rw [← he]
  refine acpt_sound (P := P) (e0A R) _ _ _ True.intro ?_
  exact Eq.mp (e0_eq c_0 k_1 R m) h
end lru_Cache_int_at

/-! ### slices.Delete[[]eyot/lru.entry[int],eyot/lru.entry[int]] -/
namespace slices_Delete_s_lru_entry_int_lru_entry_int
noncomputable def fn : Func := Go.Proofs.Try.f29
noncomputable def body : Code := fn.body.getD .skip
def od : Nat → Ord := fun | 5 => ordL [(0, 3), (1, 3), (2, 3), (3, 3), (4, 3), (5, 3), (6, 2), (7, 3)] .done | _ => .done
def tb : Nat → Tab := fun | 5 => (64, [0, 0, 3, 0, 0, 24, 63, 127], [(0, 1, 21), (0, 2, 22), (3, 3145728, 23), (0, 1, 24), (0, 4, 25), (24, 25165824, 26), (36, 37748736, 27), (127, 67108864, 1)]) | _ => (0, [], [])
def e0 (s_0a : Option Addr) (s_0l : Nat) (s_0c : Nat) (i_1 : Int) (j_2 : Int) (R : Ending → Mem → Prop) (m : Mem) : Prop :=
  Sl3N P m T_sl_lru_entry_int (.slice s_0a s_0l s_0c) (.int .i64 i_1) (.int .i64 j_2) (.int .i64 ((s_0l : Nat) : Int)) fun v =>
  Br (i_1 == j_2) (
    R (.returned (.slice s_0a s_0l s_0c)) m) (
    Sub m fun r1 =>
    SlS s_0a s_0c 0 i_1 2 fun x22a x22l x22c =>
    SlS s_0a s_0c j_2 s_0l 2 fun x25a x25l x25c =>
    BiN P .append #[T_sl_lru_entry_int, T_sl_lru_entry_int] T_sl_lru_entry_int #[false, false] #[.slice x22a x22l x22c, .slice x25a x25l x25c] m (fun w m2 =>
      UnS w fun x26a x26l x26c =>
      SlS x26a x26c ((x26l : Nat) : Int) ((s_0l : Nat) : Int) 2 fun x31a x31l x31c =>
      BiN P .clear #[T_sl_lru_entry_int] T_ #[false] #[.slice x31a x31l x31c] m2 (fun w m3 =>
        UnTup w fun us0 =>
        UnNil us0 (
          R (.returned (.slice x26a x26l x26c)) m3)) (panicR R)) (panicR R))
noncomputable def e0A (R : Ending → Mem → Prop) : ACode := (.code (body))
theorem e0_eq (s_0a : Option Addr) (s_0l : Nat) (s_0c : Nat) (i_1 : Int) (j_2 : Int) (R : Ending → Mem → Prop) (m : Mem) : e0 s_0a s_0l s_0c i_1 j_2 R m = acpt P od (panicR R) (e0A R) (bodyQ P fn R) (argE (#[.slice s_0a s_0l s_0c, .int .i64 i_1, .int .i64 j_2] : Array Value).toList) m := by kernel_rfl
theorem ok (s_0a : Option Addr) (s_0l : Nat) (s_0c : Nat) (i_1 : Int) (j_2 : Int) (R : Ending → Mem → Prop) (m : Mem) (h : e0 s_0a s_0l s_0c i_1 j_2 R m) : HC P id #[.slice s_0a s_0l s_0c, .int .i64 i_1, .int .i64 j_2] m R := by
  refine HC_of (fn := fn) (c := body) (od := od) (tb := tb) Go.Proofs.Try.func29 (by kernel_rfl) (by kernel_rfl) follows (by kernel_rfl) (of_decide_eq_true (by kernel_rfl)) ?_
  have he : (e0A R).erase = body := by kernel_rfl
  rw [← he]
  refine acpt_sound (P := P) (e0A R) _ _ _ True.intro ?_
  exact Eq.mp (e0_eq s_0a s_0l s_0c i_1 j_2 R m) h
end slices_Delete_s_lru_entry_int_lru_entry_int

/-! ### (*eyot/lru.Cache[int]).front -/
namespace lru_Cache_int_front
noncomputable def fn : Func := Go.Proofs.Try.f30
noncomputable def body : Code := fn.body.getD .skip
def od : Nat → Ord := fun | 1 => ordL [(0, 3), (1, 3), (2, 3), (3, 3), (4, 1), (5, 0), (6, 0), (7, 2), (8, 3), (9, 3), (10, 2)] .done | _ => .done
def tb : Nat → Tab := fun | 1 => (1152, [0, 0, 2, 6, 14, 0, 32, 126, 255, 511, 1023], [(0, 1, 5), (0, 1, 6), (2, 32, 7), (4, 64, 8), (8, 128, 9), (0, 8, 10), (32, 512, 11), (80, 1280, 12), (255, 16, 13), (511, 4096, 14), (767, 10240, 0)]) | _ => (0, [], [])
def e0 (c_0 : Option Addr) (e_1_0 : Int) (e_1_1 : Int) (R : Ending → Mem → Prop) (m : Mem) : Prop :=
  NewC m #[.int .i64 e_1_0, .int .i64 e_1_1] T_lru_entry_int fun b_e_3 m1 =>
  Sub m1 fun r2 =>
  NilC c_0 (fun x6b x6o =>
    LdV r2 x6b (x6o + 1) fun v =>
    UnS v fun x8a x8l x8c =>
    LdV m1 b_e_3 0 fun v =>
    UnI v .i64 fun x9_0 =>
    LdV m1 b_e_3 1 fun v =>
    UnI v .i64 fun x9_1 =>
    NewC m1 #[.int .i64 x9_0, .int .i64 x9_1] T_lru_entry_int fun b10 m3 =>
    Lk r2 m3 fun r4 =>
    HC P slices_Insert_s_lru_entry_int_lru_entry_int.id #[.slice x8a x8l x8c, .int .i64 0, .slice (some ⟨b10, 0, none⟩) 1 1] m3 (Cont (fun v m5 =>
        UnS v fun x11a x11l x11c =>
        NilC c_0 (fun x12b x12o =>
          St1 m5 x12b (x12o + 1) (.slice x11a x11l x11c) fun m6 =>
          R (.returned (.tuple #[])) m6) (False)) (panicR R))) (False)
noncomputable def e0A (R : Ending → Mem → Prop) : ACode := (.code (body))
theorem e0_eq (c_0 : Option Addr) (e_1_0 : Int) (e_1_1 : Int) (R : Ending → Mem → Prop) (m : Mem) : e0 c_0 e_1_0 e_1_1 R m = acpt P od (panicR R) (e0A R) (bodyQ P fn R) (argE (#[.pointer c_0, .agg #[.int .i64 e_1_0, .int .i64 e_1_1]] : Array Value).toList) m := by kernel_rfl
theorem ok (c_0 : Option Addr) (e_1_0 : Int) (e_1_1 : Int) (R : Ending → Mem → Prop) (m : Mem) (h : e0 c_0 e_1_0 e_1_1 R m) : HC P id #[.pointer c_0, .agg #[.int .i64 e_1_0, .int .i64 e_1_1]] m R := by
  refine HC_of (fn := fn) (c := body) (od := od) (tb := tb) Go.Proofs.Try.func30 (by kernel_rfl) (by kernel_rfl) follows (by kernel_rfl) (of_decide_eq_true (by kernel_rfl)) ?_
  have he : (e0A R).erase = body := by kernel_rfl
  rw [← he]
  refine acpt_sound (P := P) (e0A R) _ _ _ True.intro ?_
  exact Eq.mp (e0_eq c_0 e_1_0 e_1_1 R m) h
end lru_Cache_int_front

/-! ### (*eyot/lru.Cache[[2]int]).Drop -/
namespace lru_Cache_2_int_Drop
noncomputable def fn : Func := Go.Proofs.Try.f31
noncomputable def body : Code := fn.body.getD .skip
def od : Nat → Ord := fun _ => .done
def tb : Nat → Tab := fun _ => (0, [], [])
def e0 (c_0 : Option Addr) (k_1 : Int) (R : Ending → Mem → Prop) (m : Mem) : Prop :=
  HC P lru_Cache_2_int_at.id #[.pointer c_0, .int .i64 k_1] m (Cont (fun v m1 =>
      UnI v .i64 fun x8 =>
      Br (decide (x8 < 0)) (
        R (.returned (.bool false)) m1) (
        NilC c_0 (fun x13b x13o =>
          LdV m1 x13b (x13o + 1) fun v =>
          UnS v fun x15a x15l x15c =>
          HC P slices_Delete_s_lru_entry_2_int_lru_entry_2_int.id #[.slice x15a x15l x15c, .int .i64 x8, .int .i64 (IntKind.i64.wrap (x8 + 1))] m1 (Cont (fun v m2 =>
              UnS v fun x19a x19l x19c =>
              NilC c_0 (fun x20b x20o =>
                St1 m2 x20b (x20o + 1) (.slice x19a x19l x19c) fun m3 =>
                R (.returned (.bool true)) m3) (R (.panicked (nilPanic P)) m2)) (panicR R))) (R (.panicked (nilPanic P)) m1))) (panicR R))
noncomputable def e0A (R : Ending → Mem → Prop) : ACode := (.code (body))
theorem e0_eq (c_0 : Option Addr) (k_1 : Int) (R : Ending → Mem → Prop) (m : Mem) : e0 c_0 k_1 R m = acpt P od (panicR R) (e0A R) (bodyQ P fn R) (argE (#[.pointer c_0, .int .i64 k_1] : Array Value).toList) m := by kernel_rfl
theorem ok (c_0 : Option Addr) (k_1 : Int) (R : Ending → Mem → Prop) (m : Mem) (h : e0 c_0 k_1 R m) : HC P id #[.pointer c_0, .int .i64 k_1] m R := by
  refine HC_of (fn := fn) (c := body) (od := od) (tb := tb) Go.Proofs.Try.func31 (by kernel_rfl) (by kernel_rfl) follows (by kernel_rfl) (of_decide_eq_true (by kernel_rfl)) ?_
  have he : (e0A R).erase = body := by kernel_rfl
  rw [← he]
  refine acpt_sound (P := P) (e0A R) _ _ _ True.intro ?_
  exact Eq.mp (e0_eq c_0 k_1 R m) h
end lru_Cache_2_int_Drop

/-! ### (*eyot/lru.Cache[[2]int]).front -/
namespace lru_Cache_2_int_front
noncomputable def fn : Func := Go.Proofs.Try.f32
noncomputable def body : Code := fn.body.getD .skip
def od : Nat → Ord := fun | 1 => ordL [(0, 3), (1, 3), (2, 3), (3, 3), (4, 1), (5, 0), (6, 0), (7, 2), (8, 3), (9, 3), (10, 2)] .done | _ => .done
def tb : Nat → Tab := fun | 1 => (1152, [0, 0, 2, 6, 14, 0, 32, 126, 255, 511, 1023], [(0, 1, 5), (0, 1, 6), (2, 32, 7), (4, 64, 8), (8, 128, 9), (0, 8, 10), (32, 512, 11), (80, 1280, 12), (255, 16, 13), (511, 4096, 14), (767, 10240, 0)]) | _ => (0, [], [])
def e0 (c_0 : Option Addr) (e_1_0 : Int) (e_1_1 : Int) (e_1_2 : Int) (R : Ending → Mem → Prop) (m : Mem) : Prop :=
  NewC m #[.int .i64 e_1_0, .int .i64 e_1_1, .int .i64 e_1_2] T_lru_entry_2_int fun b_e_3 m1 =>
  Sub m1 fun r2 =>
  NilC c_0 (fun x6b x6o =>
    LdV r2 x6b (x6o + 1) fun v =>
    UnS v fun x8a x8l x8c =>
    LdV m1 b_e_3 0 fun v =>
    UnI v .i64 fun x9_0 =>
    LdV m1 b_e_3 1 fun v =>
    UnI v .i64 fun x9_1 =>
    LdV m1 b_e_3 2 fun v =>
    UnI v .i64 fun x9_2 =>
    NewC m1 #[.int .i64 x9_0, .int .i64 x9_1, .int .i64 x9_2] T_lru_entry_2_int fun b10 m3 =>
    Lk r2 m3 fun r4 =>
    HC P slices_Insert_s_lru_entry_2_int_lru_entry_2_int.id #[.slice x8a x8l x8c, .int .i64 0, .slice (some ⟨b10, 0, none⟩) 1 1] m3 (Cont (fun v m5 =>
        UnS v fun x11a x11l x11c =>
        NilC c_0 (fun x12b x12o =>
          St1 m5 x12b (x12o + 1) (.slice x11a x11l x11c) fun m6 =>
          R (.returned (.tuple #[])) m6) (False)) (panicR R))) (False)
noncomputable def e0A (R : Ending → Mem → Prop) : ACode := (.code (body))
theorem e0_eq (c_0 : Option Addr) (e_1_0 : Int) (e_1_1 : Int) (e_1_2 : Int) (R : Ending → Mem → Prop) (m : Mem) : e0 c_0 e_1_0 e_1_1 e_1_2 R m = acpt P od (panicR R) (e0A R) (bodyQ P fn R) (argE (#[.pointer c_0, .agg #[.int .i64 e_1_0, .int .i64 e_1_1, .int .i64 e_1_2]] : Array Value).toList) m := by kernel_rfl
theorem ok (c_0 : Option Addr) (e_1_0 : Int) (e_1_1 : Int) (e_1_2 : Int) (R : Ending → Mem → Prop) (m : Mem) (h : e0 c_0 e_1_0 e_1_1 e_1_2 R m) : HC P id #[.pointer c_0, .agg #[.int .i64 e_1_0, .int .i64 e_1_1, .int .i64 e_1_2]] m R := by
  refine HC_of (fn := fn) (c := body) (od := od) (tb := tb) Go.Proofs.Try.func32 (by kernel_rfl) (by kernel_rfl) follows (by kernel_rfl) (of_decide_eq_true (by kernel_rfl)) ?_
  have he : (e0A R).erase = body := by kernel_rfl
  rw [← he]
  refine acpt_sound (P := P) (e0A R) _ _ _ True.intro ?_
  exact Eq.mp (e0_eq c_0 e_1_0 e_1_1 e_1_2 R m) h
end lru_Cache_2_int_front

/-! ### (*eyot/lru.Cache[[2]int]).at -/
namespace lru_Cache_2_int_at
noncomputable def fn : Func := Go.Proofs.Try.f33
noncomputable def body : Code := fn.body.getD .skip
def od : Nat → Ord := fun _ => .done
def tb : Nat → Tab := fun _ => (0, [], [])
def e0 (c_0 : Option Addr) (k_1 : Int) (R : Ending → Mem → Prop) (m : Mem) : Prop :=
  NewC m #[.int .i64 k_1] T_int fun b_k_3 m1 =>
  Br c_0.isNone (
    R (.returned (.int .i64 (-1))) m1) (
    NilC c_0 (fun x8b x8o =>
      LdV m1 x8b (x8o + 1) fun v =>
      UnS v fun x10a x10l x10c =>
      HC P slices_IndexFunc_s_lru_entry_2_int_lru_entry_2_int.id #[.slice x10a x10l x10c, .func (.func lru_Cache_2_int_at_1.id) #[] #[.pointer (some ⟨b_k_3, 0, none⟩)]] m1 (Cont (fun v m2 =>
          UnI v .i64 fun x12 =>
          R (.returned (.int .i64 x12)) m2) (panicR R))) (R (.panicked (nilPanic P)) m1))
noncomputable def e0A (R : Ending → Mem → Prop) : ACode := (.code (body))
theorem e0_eq (c_0 : Option Addr) (k_1 : Int) (R : Ending → Mem → Prop) (m : Mem) : e0 c_0 k_1 R m = acpt P od (panicR R) (e0A R) (bodyQ P fn R) (argE (#[.pointer c_0, .int .i64 k_1] : Array Value).toList) m := by kernel_rfl
theorem ok (c_0 : Option Addr) (k_1 : Int) (R : Ending → Mem → Prop) (m : Mem) (h : e0 c_0 k_1 R m) : HC P id #[.pointer c_0, .int .i64 k_1] m R := by
  refine HC_of (fn := fn) (c := body) (od := od) (tb := tb) Go.Proofs.Try.func33 (by kernel_rfl) (by kernel_rfl) follows (by kernel_rfl) (of_decide_eq_true (by kernel_rfl)) ?_
  have he : (e0A R).erase = body := by kernel_rfl
  rw [← he]
  refine acpt_sound (P := P) (e0A R) _ _ _ True.intro ?_
  exact Eq.mp (e0_eq c_0 k_1 R m) h
end lru_Cache_2_int_at

/-! ### slices.Delete[[]eyot/lru.entry[[2]int],eyot/lru.entry[[2]int]] -/
namespace slices_Delete_s_lru_entry_2_int_lru_entry_2_int
noncomputable def fn : Func := Go.Proofs.Try.f34
noncomputable def body : Code := fn.body.getD .skip
def od : Nat → Ord := fun | 5 => ordL [(0, 3), (1, 3), (2, 3), (3, 3), (4, 3), (5, 3), (6, 2), (7, 3)] .done | _ => .done
def tb : Nat → Tab := fun | 5 => (64, [0, 0, 3, 0, 0, 24, 63, 127], [(0, 1, 21), (0, 2, 22), (3, 3145728, 23), (0, 1, 24), (0, 4, 25), (24, 25165824, 26), (36, 37748736, 27), (127, 67108864, 1)]) | _ => (0, [], [])
def e0 (s_0a : Option Addr) (s_0l : Nat) (s_0c : Nat) (i_1 : Int) (j_2 : Int) (R : Ending → Mem → Prop) (m : Mem) : Prop :=
  Sl3N P m T_sl_lru_entry_2_int (.slice s_0a s_0l s_0c) (.int .i64 i_1) (.int .i64 j_2) (.int .i64 ((s_0l : Nat) : Int)) fun v =>
  Br (i_1 == j_2) (
    R (.returned (.slice s_0a s_0l s_0c)) m) (
    Sub m fun r1 =>
    SlS s_0a s_0c 0 i_1 3 fun x22a x22l x22c =>
    SlS s_0a s_0c j_2 s_0l 3 fun x25a x25l x25c =>
    BiN P .append #[T_sl_lru_entry_2_int, T_sl_lru_entry_2_int] T_sl_lru_entry_2_int #[false, false] #[.slice x22a x22l x22c, .slice x25a x25l x25c] m (fun w m2 =>
      UnS w fun x26a x26l x26c =>
      SlS x26a x26c ((x26l : Nat) : Int) ((s_0l : Nat) : Int) 3 fun x31a x31l x31c =>
      BiN P .clear #[T_sl_lru_entry_2_int] T_ #[false] #[.slice x31a x31l x31c] m2 (fun w m3 =>
        UnTup w fun us0 =>
        UnNil us0 (
          R (.returned (.slice x26a x26l x26c)) m3)) (panicR R)) (panicR R))
noncomputable def e0A (R : Ending → Mem → Prop) : ACode := (.code (body))
theorem e0_eq (s_0a : Option Addr) (s_0l : Nat) (s_0c : Nat) (i_1 : Int) (j_2 : Int) (R : Ending → Mem → Prop) (m : Mem) : e0 s_0a s_0l s_0c i_1 j_2 R m = acpt P od (panicR R) (e0A R) (bodyQ P fn R) (argE (#[.slice s_0a s_0l s_0c, .int .i64 i_1, .int .i64 j_2] : Array Value).toList) m := by kernel_rfl
theorem ok (s_0a : Option Addr) (s_0l : Nat) (s_0c : Nat) (i_1 : Int) (j_2 : Int) (R : Ending → Mem → Prop) (m : Mem) (h : e0 s_0a s_0l s_0c i_1 j_2 R m) : HC P id #[.slice s_0a s_0l s_0c, .int .i64 i_1, .int .i64 j_2] m R := by
  refine HC_of (fn := fn) (c := body) (od := od) (tb := tb) Go.Proofs.Try.func34 (by kernel_rfl) (by kernel_rfl) follows (by kernel_rfl) (of_decide_eq_true (by kernel_rfl)) ?_
  have he : (e0A R).erase = body := by kernel_rfl
  rw [← he]
  refine acpt_sound (P := P) (e0A R) _ _ _ True.intro ?_
  exact Eq.mp (e0_eq s_0a s_0l s_0c i_1 j_2 R m) h
end slices_Delete_s_lru_entry_2_int_lru_entry_2_int

/-! ### (*eyot/lru.Cache[string]).at -/
namespace lru_Cache_string_at
noncomputable def fn : Func := Go.Proofs.Try.f35
noncomputable def body : Code := fn.body.getD .skip
def od : Nat → Ord := fun _ => .done
def tb : Nat → Tab := fun _ => (0, [], [])
def e0 (c_0 : Option Addr) (k_1 : Int) (R : Ending → Mem → Prop) (m : Mem) : Prop :=
  NewC m #[.int .i64 k_1] T_int fun b_k_3 m1 =>
  Br c_0.isNone (
    R (.returned (.int .i64 (-1))) m1) (
    NilC c_0 (fun x8b x8o =>
      LdV m1 x8b (x8o + 1) fun v =>
      UnS v fun x10a x10l x10c =>
      HC P slices_IndexFunc_s_lru_entry_string_lru_entry_string.id #[.slice x10a x10l x10c, .func (.func lru_Cache_string_at_1.id) #[] #[.pointer (some ⟨b_k_3, 0, none⟩)]] m1 (Cont (fun v m2 =>
          UnI v .i64 fun x12 =>
          R (.returned (.int .i64 x12)) m2) (panicR R))) (R (.panicked (nilPanic P)) m1))
noncomputable def e0A (R : Ending → Mem → Prop) : ACode := (.code (body))
theorem e0_eq (c_0 : Option Addr) (k_1 : Int) (R : Ending → Mem → Prop) (m : Mem) : e0 c_0 k_1 R m = acpt P od (panicR R) (e0A R) (bodyQ P fn R) (argE (#[.pointer c_0, .int .i64 k_1] : Array Value).toList) m := by kernel_rfl
theorem ok (c_0 : Option Addr) (k_1 : Int) (R : Ending → Mem → Prop) (m : Mem) (h : e0 c_0 k_1 R m) : HC P id #[.pointer c_0, .int .i64 k_1] m R := by
  refine HC_of (fn := fn) (c := body) (od := od) (tb := tb) Go.Proofs.Try.func35 (by kernel_rfl) (by kernel_rfl) follows (by kernel_rfl) (of_decide_eq_true (by kernel_rfl)) ?_
  have he : (e0A R).erase = body := by kernel_rfl
  rw [← he]
  refine acpt_sound (P := P) (e0A R) _ _ _ True.intro ?_
  exact Eq.mp (e0_eq c_0 k_1 R m) h
end lru_Cache_string_at

/-! ### slices.Delete[[]eyot/lru.entry[string],eyot/lru.entry[string]] -/
namespace slices_Delete_s_lru_entry_string_lru_entry_string
noncomputable def fn : Func := Go.Proofs.Try.f36
noncomputable def body : Code := fn.body.getD .skip
def od : Nat → Ord := fun | 5 => ordL [(0, 3), (1, 3), (2, 3), (3, 3), (4, 3), (5, 3), (6, 2), (7, 3)] .done | _ => .done
def tb : Nat → Tab := fun | 5 => (64, [0, 0, 3, 0, 0, 24, 63, 127], [(0, 1, 21), (0, 2, 22), (3, 3145728, 23), (0, 1, 24), (0, 4, 25), (24, 25165824, 26), (36, 37748736, 27), (127, 67108864, 1)]) | _ => (0, [], [])
def e0 (s_0a : Option Addr) (s_0l : Nat) (s_0c : Nat) (i_1 : Int) (j_2 : Int) (R : Ending → Mem → Prop) (m : Mem) : Prop :=
  Sl3N P m T_sl_lru_entry_string (.slice s_0a s_0l s_0c) (.int .i64 i_1) (.int .i64 j_2) (.int .i64 ((s_0l : Nat) : Int)) fun v =>
  Br (i_1 == j_2) (
    R (.returned (.slice s_0a s_0l s_0c)) m) (
    Sub m fun r1 =>
    SlS s_0a s_0c 0 i_1 2 fun x22a x22l x22c =>
    SlS s_0a s_0c j_2 s_0l 2 fun x25a x25l x25c =>
    BiN P .append #[T_sl_lru_entry_string, T_sl_lru_entry_string] T_sl_lru_entry_string #[false, false] #[.slice x22a x22l x22c, .slice x25a x25l x25c] m (fun w m2 =>
      UnS w fun x26a x26l x26c =>
      SlS x26a x26c ((x26l : Nat) : Int) ((s_0l : Nat) : Int) 2 fun x31a x31l x31c =>
      BiN P .clear #[T_sl_lru_entry_string] T_ #[false] #[.slice x31a x31l x31c] m2 (fun w m3 =>
        UnTup w fun us0 =>
        UnNil us0 (
          R (.returned (.slice x26a x26l x26c)) m3)) (panicR R)) (panicR R))
noncomputable def e0A (R : Ending → Mem → Prop) : ACode := (.code (body))
theorem e0_eq (s_0a : Option Addr) (s_0l : Nat) (s_0c : Nat) (i_1 : Int) (j_2 : Int) (R : Ending → Mem → Prop) (m : Mem) : e0 s_0a s_0l s_0c i_1 j_2 R m = acpt P od (panicR R) (e0A R) (bodyQ P fn R) (argE (#[.slice s_0a s_0l s_0c, .int .i64 i_1, .int .i64 j_2] : Array Value).toList) m := by kernel_rfl
theorem ok (s_0a : Option Addr) (s_0l : Nat) (s_0c : Nat) (i_1 : Int) (j_2 : Int) (R : Ending → Mem → Prop) (m : Mem) (h : e0 s_0a s_0l s_0c i_1 j_2 R m) : HC P id #[.slice s_0a s_0l s_0c, .int .i64 i_1, .int .i64 j_2] m R := by
  refine HC_of (fn := fn) (c := body) (od := od) (tb := tb) Go.Proofs.Try.func36 (by kernel_rfl) (by kernel_rfl) follows (by kernel_rfl) (of_decide_eq_true (by kernel_rfl)) ?_
  have he : (e0A R).erase = body := by kernel_rfl
  rw [← he]
  refine acpt_sound (P := P) (e0A R) _ _ _ True.intro ?_
  exact Eq.mp (e0_eq s_0a s_0l s_0c i_1 j_2 R m) h
end slices_Delete_s_lru_entry_string_lru_entry_string

/-! ### (*eyot/lru.Cache[string]).front -/
namespace lru_Cache_string_front
noncomputable def fn : Func := Go.Proofs.Try.f37
noncomputable def body : Code := fn.body.getD .skip
def od : Nat → Ord := fun | 1 => ordL [(0, 3), (1, 3), (2, 3), (3, 3), (4, 1), (5, 0), (6, 0), (7, 2), (8, 3), (9, 3), (10, 2)] .done | _ => .done
def tb : Nat → Tab := fun | 1 => (1152, [0, 0, 2, 6, 14, 0, 32, 126, 255, 511, 1023], [(0, 1, 5), (0, 1, 6), (2, 32, 7), (4, 64, 8), (8, 128, 9), (0, 8, 10), (32, 512, 11), (80, 1280, 12), (255, 16, 13), (511, 4096, 14), (767, 10240, 0)]) | _ => (0, [], [])
def e0 (c_0 : Option Addr) (e_1_0 : Int) (e_1_1 : ByteArray) (R : Ending → Mem → Prop) (m : Mem) : Prop :=
  NewC m #[.int .i64 e_1_0, .string e_1_1] T_lru_entry_string fun b_e_3 m1 =>
  Sub m1 fun r2 =>
  NilC c_0 (fun x6b x6o =>
    LdV r2 x6b (x6o + 1) fun v =>
    UnS v fun x8a x8l x8c =>
    LdV m1 b_e_3 0 fun v =>
    UnI v .i64 fun x9_0 =>
    LdV m1 b_e_3 1 fun v =>
    UnStr v fun x9_1 =>
    NewC m1 #[.int .i64 x9_0, .string x9_1] T_lru_entry_string fun b10 m3 =>
    Lk r2 m3 fun r4 =>
    HC P slices_Insert_s_lru_entry_string_lru_entry_string.id #[.slice x8a x8l x8c, .int .i64 0, .slice (some ⟨b10, 0, none⟩) 1 1] m3 (Cont (fun v m5 =>
        UnS v fun x11a x11l x11c =>
        NilC c_0 (fun x12b x12o =>
          St1 m5 x12b (x12o + 1) (.slice x11a x11l x11c) fun m6 =>
          R (.returned (.tuple #[])) m6) (False)) (panicR R))) (False)
noncomputable def e0A (R : Ending → Mem → Prop) : ACode := (.code (body))
theorem e0_eq (c_0 : Option Addr) (e_1_0 : Int) (e_1_1 : ByteArray) (R : Ending → Mem → Prop) (m : Mem) : e0 c_0 e_1_0 e_1_1 R m = acpt P od (panicR R) (e0A R) (bodyQ P fn R) (argE (#[.pointer c_0, .agg #[.int .i64 e_1_0, .string e_1_1]] : Array Value).toList) m := by kernel_rfl
theorem ok (c_0 : Option Addr) (e_1_0 : Int) (e_1_1 : ByteArray) (R : Ending → Mem → Prop) (m : Mem) (h : e0 c_0 e_1_0 e_1_1 R m) : HC P id #[.pointer c_0, .agg #[.int .i64 e_1_0, .string e_1_1]] m R := by
  refine HC_of (fn := fn) (c := body) (od := od) (tb := tb) Go.Proofs.Try.func37 (by kernel_rfl) (by kernel_rfl) follows (by kernel_rfl) (of_decide_eq_true (by kernel_rfl)) ?_
  have he : (e0A R).erase = body := by kernel_rfl
  rw [← he]
  refine acpt_sound (P := P) (e0A R) _ _ _ True.intro ?_
  exact Eq.mp (e0_eq c_0 e_1_0 e_1_1 R m) h
end lru_Cache_string_front

/-! ### (*eyot/eyotref3.Cache).at -/
namespace eyotref3_Cache_at
noncomputable def fn : Func := Go.Proofs.Try.f38
noncomputable def body : Code := fn.body.getD .skip
def od : Nat → Ord := fun _ => .done
def tb : Nat → Tab := fun _ => (0, [], [])
def l1E (K : Option Addr → Int → Int → Mem → Prop) : Env → Mem → Prop := fun ρ m => UnP (ρ 0) fun c_0 => UnI (ρ 1) .i64 fun k_1 => UnI (ρ 5) .i64 fun i_5 => K c_0 k_1 i_5 m
def l1B  (K1 : Option Addr → Int → Int → Mem → Prop) (c_0 : Option Addr) (k_1 : Int) (i_5 : Int) (R : Ending → Mem → Prop) (m : Mem) : Prop :=
  NilC c_0 (fun x8b x8o =>
    LdV m x8b (x8o + 1) fun v =>
    UnS v fun x10a x10l x10c =>
    Br (decide (i_5 < ((x10l : Nat) : Int))) (
      NilC c_0 (fun x16b x16o =>
        LdV m x16b (x16o + 1) fun v =>
        UnS v fun x18a x18l x18c =>
        IxS x18a x18l i_5 1 fun x20b x20o =>
        LdV m x20b x20o fun v =>
        UnI v .i64 fun x21 =>
        Br (x21 == k_1) (
          R (.returned (.int .i64 i_5)) m) (
          K1 c_0 k_1 (IntKind.i64.wrap (i_5 + 1)) m)) (R (.panicked (nilPanic P)) m)) (
      R (.returned (.int .i64 (-1))) m)) (R (.panicked (nilPanic P)) m)
def l1  (c_0 : Option Addr) (k_1 : Int) (i_5 : Int) (R : Ending → Mem → Prop) (m : Mem) : Prop :=
  ∃ (I : Nat → Option Addr → Int → Int → Mem → Prop) (N : Nat), I N c_0 k_1 i_5 m ∧ ∀ N c_0 k_1 i_5 m, I N c_0 k_1 i_5 m → l1B  (fun c_0 k_1 i_5 m => ∃ N1, N1 < N ∧ I N1 c_0 k_1 i_5 m) c_0 k_1 i_5 R m
noncomputable def l1A  (K1 : Option Addr → Int → Int → Mem → Prop) (R : Ending → Mem → Prop) : ACode := (.code (lP (bB (sR (sL (sR (body)))))))
def e0 (c_0 : Option Addr) (k_1 : Int) (R : Ending → Mem → Prop) (m : Mem) : Prop :=
  l1  c_0 k_1 0 R m
noncomputable def e0A (R : Ending → Mem → Prop) : ACode := (.seq (.code (sL (body))) (.seq (.seq (.code (sL (sL (sR (body))))) (.block 0 (.cut (l1E fun c_0 k_1 i_5 m => l1  c_0 k_1 i_5 R m) (.loop (lP (bB (sR (sL (sR (body)))))))))) (.code (sR (sR (body))))))
theorem l1_eq  (K1 : Option Addr → Int → Int → Mem → Prop) (R : Ending → Mem → Prop) (c_0 : Option Addr) (k_1 : Int) (i_5 : Int) (ρ : Env) (m : Mem) : l1B  K1 c_0 k_1 i_5 R m = acpt P od (panicR R) (l1A  K1 R) (thenQ (l1E K1) (blockQ 0 (thenQ (acpt P od (panicR R) (.code (sR (sR (body)))) (bodyQ P fn R)) (bodyQ P fn R)))) (upd (upd (upd ρ 5 (.int .i64 i_5)) 1 (.int .i64 k_1)) 0 (.pointer c_0)) m := by kernel_rfl
theorem l1_er  (K1 : Option Addr → Int → Int → Mem → Prop) (R : Ending → Mem → Prop) : (l1A  K1 R).erase = lP (bB (sR (sL (sR (body))))) := by kernel_rfl
theorem l1_ok  (R : Ending → Mem → Prop) (ρ : Env) (m : Mem) (h : (l1E fun c_0 k_1 i_5 m => l1  c_0 k_1 i_5 R m) ρ m) : cpt P od (panicR R) (.loop (lP (bB (sR (sL (sR (body))))))) (blockQ 0 (thenQ (acpt P od (panicR R) (.code (sR (sR (body)))) (bodyQ P fn R)) (bodyQ P fn R))) ρ m := by
  unfold l1E at h
  obtain ⟨c_0, e0, h⟩ := h.ex
  obtain ⟨k_1, e1, h⟩ := h.ex
  obtain ⟨i_5, e5, h⟩ := h.ex
  obtain ⟨I, N, h0, hs⟩ := h
  refine ⟨fun N => l1E (I N), N, (by show l1E (I N) ρ m; unfold l1E; rw [e0, e1, e5]; exact h0), ?_⟩
  clear h0 e0 e1 e5
  intro N ρ m h
  unfold l1E at h
  obtain ⟨c_0, e0, h⟩ := h.ex
  obtain ⟨k_1, e1, h⟩ := h.ex
  obtain ⟨i_5, e5, h⟩ := h.ex
  refine cpt_mono (P := P) (lP (bB (sR (sL (sR (body)))))) (Q := thenQ (l1E fun c_0 k_1 i_5 m => ∃ N1, N1 < N ∧ I N1 c_0 k_1 i_5 m) (blockQ 0 (thenQ (acpt P od (panicR R) (.code (sR (sR (body)))) (bodyQ P fn R)) (bodyQ P fn R)))) (fun e ρ m h => ?_) ρ m ?_
  · cases e with
    | normal =>
      have h : l1E (fun c_0 k_1 i_5 m => ∃ N1, N1 < N ∧ I N1 c_0 k_1 i_5 m) ρ m := h
      unfold l1E at h
      obtain ⟨c_0, e0, h⟩ := h.ex
      obtain ⟨k_1, e1, h⟩ := h.ex
      obtain ⟨i_5, e5, h⟩ := h.ex
      obtain ⟨N1, hlt, h⟩ := h
      exact ⟨N1, hlt, (by show l1E (I N1) ρ m; unfold l1E; rw [e0, e1, e5]; exact h)⟩
    | _ => exact h
  have hh := hs N c_0 k_1 i_5 m h
  generalize (fun c_0 k_1 i_5 m => ∃ N1, N1 < N ∧ I N1 c_0 k_1 i_5 m : Option Addr → Int → Int → Mem → Prop) = K1 at hh ⊢
  rw [← upd_self e0, ← upd_self e1, ← upd_self e5]
  rw [← l1_er  K1 R]
  refine acpt_sound (P := P) (l1A  K1 R) _ _ _ True.intro ?_
  exact Eq.mp (l1_eq  K1 R c_0 k_1 i_5 ρ m) hh
theorem e0_eq (c_0 : Option Addr) (k_1 : Int) (R : Ending → Mem → Prop) (m : Mem) : e0 c_0 k_1 R m = acpt P od (panicR R) (e0A R) (bodyQ P fn R) (argE (#[.pointer c_0, .int .i64 k_1] : Array Value).toList) m := by kernel_rfl
theorem ok (c_0 : Option Addr) (k_1 : Int) (R : Ending → Mem → Prop) (m : Mem) (h : e0 c_0 k_1 R m) : HC P id #[.pointer c_0, .int .i64 k_1] m R := by
  refine HC_of (fn := fn) (c := body) (od := od) (tb := tb) Go.Proofs.Try.func38 (by kernel_rfl) (by kernel_rfl) follows (by kernel_rfl) (of_decide_eq_true (by kernel_rfl)) ?_
  have he : (e0A R).erase = body := by kernel_rfl
  rw [← he]
  refine acpt_sound (P := P) (e0A R) _ _ _ ⟨⟨True.intro, ⟨(fun ρ m h => l1_ok  R ρ m h), True.intro⟩⟩, True.intro⟩ ?_
  exact Eq.mp (e0_eq c_0 k_1 R m) h
end eyotref3_Cache_at

/-! ### slices.IndexFunc[[]eyot/lru.entry[int],eyot/lru.entry[int]] -/
namespace slices_IndexFunc_s_lru_entry_int_lru_entry_int
noncomputable def fn : Func := Go.Proofs.Try.f39
noncomputable def body : Code := fn.body.getD .skip
def od : Nat → Ord := fun _ => .done
def tb : Nat → Tab := fun _ => (0, [], [])
def l1E (K : Option Addr → Nat → Nat → Value → Int → Int → Mem → Prop) : Env → Mem → Prop := fun ρ m => UnS (ρ 0) fun s_0a s_0l s_0c => (fun f_1 => UnI (ρ 7) .i64 fun x7 => UnI (ρ 8) .i64 fun x8 => K s_0a s_0l s_0c f_1 x7 x8 m) (ρ 1)
def l1B  (K1 : Option Addr → Nat → Nat → Value → Int → Int → Mem → Prop) (s_0a : Option Addr) (s_0l : Nat) (s_0c : Nat) (f_1 : Value) (x7 : Int) (x8 : Int) (R : Ending → Mem → Prop) (m : Mem) : Prop :=
  Br (decide (x8 < x7)) (
    IxS s_0a s_0l x8 2 fun x14b x14o =>
    LdV m x14b x14o fun v =>
    UnI v .i64 fun x15_0 =>
    LdV m x14b (x14o + 1) fun v =>
    UnI v .i64 fun x15_1 =>
    CallV P f_1 #[.agg #[.int .i64 x15_0, .int .i64 x15_1]] m (Cont (fun v m1 =>
        UnB v fun x16 =>
        Br x16 (
          R (.returned (.int .i64 x8)) m1) (
          K1 s_0a s_0l s_0c f_1 x7 (IntKind.i64.wrap (x8 + 1)) m1)) (panicR R))) (
    R (.returned (.int .i64 (-1))) m)
def l1  (s_0a : Option Addr) (s_0l : Nat) (s_0c : Nat) (f_1 : Value) (x7 : Int) (x8 : Int) (R : Ending → Mem → Prop) (m : Mem) : Prop :=
  ∃ (I : Nat → Option Addr → Nat → Nat → Value → Int → Int → Mem → Prop) (N : Nat), I N s_0a s_0l s_0c f_1 x7 x8 m ∧ ∀ N s_0a s_0l s_0c f_1 x7 x8 m, I N s_0a s_0l s_0c f_1 x7 x8 m → l1B  (fun s_0a s_0l s_0c f_1 x7 x8 m => ∃ N1, N1 < N ∧ I N1 s_0a s_0l s_0c f_1 x7 x8 m) s_0a s_0l s_0c f_1 x7 x8 R m
noncomputable def l1A  (K1 : Option Addr → Nat → Nat → Value → Int → Int → Mem → Prop) (R : Ending → Mem → Prop) : ACode := (.code (lP (bB (sR (sL (sR (body)))))))
def e0 (s_0a : Option Addr) (s_0l : Nat) (s_0c : Nat) (f_1 : Value) (R : Ending → Mem → Prop) (m : Mem) : Prop :=
  l1  s_0a s_0l s_0c f_1 ((s_0l : Nat) : Int) 0 R m
noncomputable def e0A (R : Ending → Mem → Prop) : ACode := (.seq (.code (sL (body))) (.seq (.seq (.code (sL (sL (sR (body))))) (.block 0 (.cut (l1E fun s_0a s_0l s_0c f_1 x7 x8 m => l1  s_0a s_0l s_0c f_1 x7 x8 R m) (.loop (lP (bB (sR (sL (sR (body)))))))))) (.code (sR (sR (body))))))
theorem l1_eq  (K1 : Option Addr → Nat → Nat → Value → Int → Int → Mem → Prop) (R : Ending → Mem → Prop) (s_0a : Option Addr) (s_0l : Nat) (s_0c : Nat) (f_1 : Value) (x7 : Int) (x8 : Int) (ρ : Env) (m : Mem) : l1B  K1 s_0a s_0l s_0c f_1 x7 x8 R m = acpt P od (panicR R) (l1A  K1 R) (thenQ (l1E K1) (blockQ 0 (thenQ (acpt P od (panicR R) (.code (sR (sR (body)))) (bodyQ P fn R)) (bodyQ P fn R)))) (upd (upd (upd (upd ρ 8 (.int .i64 x8)) 7 (.int .i64 x7)) 1 (f_1)) 0 (.slice s_0a s_0l s_0c)) m := by kernel_rfl
theorem l1_er  (K1 : Option Addr → Nat → Nat → Value → Int → Int → Mem → Prop) (R : Ending → Mem → Prop) : (l1A  K1 R).erase = lP (bB (sR (sL (sR (body))))) := by kernel_rfl
theorem l1_ok  (R : Ending → Mem → Prop) (ρ : Env) (m : Mem) (h : (l1E fun s_0a s_0l s_0c f_1 x7 x8 m => l1  s_0a s_0l s_0c f_1 x7 x8 R m) ρ m) : cpt P od (panicR R) (.loop (lP (bB (sR (sL (sR (body))))))) (blockQ 0 (thenQ (acpt P od (panicR R) (.code (sR (sR (body)))) (bodyQ P fn R)) (bodyQ P fn R))) ρ m := by
  unfold l1E at h
  obtain ⟨s_0a, s_0l, s_0c, e0, h⟩ := h.ex
  generalize e1 : ρ 1 = f_1 at h
  try dsimp only at h
  obtain ⟨x7, e7, h⟩ := h.ex
  obtain ⟨x8, e8, h⟩ := h.ex
  obtain ⟨I, N, h0, hs⟩ := h
  refine ⟨fun N => l1E (I N), N, (by show l1E (I N) ρ m; unfold l1E; rw [e0, e1, e7, e8]; exact h0), ?_⟩
  clear h0 e0 e1 e7 e8
  intro N ρ m h
  unfold l1E at h
  obtain ⟨s_0a, s_0l, s_0c, e0, h⟩ := h.ex
  generalize e1 : ρ 1 = f_1 at h
  try dsimp only at h
  obtain ⟨x7, e7, h⟩ := h.ex
  obtain ⟨x8, e8, h⟩ := h.ex
  refine cpt_mono (P := P) (lP (bB (sR (sL (sR (body)))))) (Q := thenQ (l1E fun s_0a s_0l s_0c f_1 x7 x8 m => ∃ N1, N1 < N ∧ I N1 s_0a s_0l s_0c f_1 x7 x8 m) (blockQ 0 (thenQ (acpt P od (panicR R) (.code (sR (sR (body)))) (bodyQ P fn R)) (bodyQ P fn R)))) (fun e ρ m h => ?_) ρ m ?_
  · cases e with
    | normal =>
      have h : l1E (fun s_0a s_0l s_0c f_1 x7 x8 m => ∃ N1, N1 < N ∧ I N1 s_0a s_0l s_0c f_1 x7 x8 m) ρ m := h
      unfold l1E at h
      obtain ⟨s_0a, s_0l, s_0c, e0, h⟩ := h.ex
      generalize e1 : ρ 1 = f_1 at h
      try dsimp only at h
      obtain ⟨x7, e7, h⟩ := h.ex
      obtain ⟨x8, e8, h⟩ := h.ex
      obtain ⟨N1, hlt, h⟩ := h
      exact ⟨N1, hlt, (by show l1E (I N1) ρ m; unfold l1E; rw [e0, e1, e7, e8]; exact h)⟩
    | _ => exact h
  have hh := hs N s_0a s_0l s_0c f_1 x7 x8 m h
  generalize (fun s_0a s_0l s_0c f_1 x7 x8 m => ∃ N1, N1 < N ∧ I N1 s_0a s_0l s_0c f_1 x7 x8 m : Option Addr → Nat → Nat → Value → Int → Int → Mem → Prop) = K1 at hh ⊢
  rw [← upd_self e0, ← upd_self e1, ← upd_self e7, ← upd_self e8]
  rw [← l1_er  K1 R]
  refine acpt_sound (P := P) (l1A  K1 R) _ _ _ True.intro ?_
  exact Eq.mp (l1_eq  K1 R s_0a s_0l s_0c f_1 x7 x8 ρ m) hh
theorem e0_eq (s_0a : Option Addr) (s_0l : Nat) (s_0c : Nat) (f_1 : Value) (R : Ending → Mem → Prop) (m : Mem) : e0 s_0a s_0l s_0c f_1 R m = acpt P od (panicR R) (e0A R) (bodyQ P fn R) (argE (#[.slice s_0a s_0l s_0c, f_1] : Array Value).toList) m := by kernel_rfl
theorem ok (s_0a : Option Addr) (s_0l : Nat) (s_0c : Nat) (f_1 : Value) (R : Ending → Mem → Prop) (m : Mem) (h : e0 s_0a s_0l s_0c f_1 R m) : HC P id #[.slice s_0a s_0l s_0c, f_1] m R := by
  refine HC_of (fn := fn) (c := body) (od := od) (tb := tb) Go.Proofs.Try.func39 (by kernel_rfl) (by kernel_rfl) follows (by kernel_rfl) (of_decide_eq_true (by kernel_rfl)) ?_
  have he : (e0A R).erase = body := by kernel_rfl
  rw [← he]
  refine acpt_sound (P := P) (e0A R) _ _ _ ⟨⟨True.intro, ⟨(fun ρ m h => l1_ok  R ρ m h), True.intro⟩⟩, True.intro⟩ ?_
  exact Eq.mp (e0_eq s_0a s_0l s_0c f_1 R m) h
end slices_IndexFunc_s_lru_entry_int_lru_entry_int

/-! ### (*eyot/lru.Cache[int]).at$1 -/
namespace lru_Cache_int_at_1
noncomputable def fn : Func := Go.Proofs.Try.f40
noncomputable def body : Code := fn.body.getD .skip
def od : Nat → Ord := fun _ => .done
def tb : Nat → Tab := fun _ => (0, [], [])
def e0 (e_0_0 : Int) (e_0_1 : Int) (c0b : Nat) (c0o : Nat) (R : Ending → Mem → Prop) (m : Mem) : Prop :=
  NewC m #[.int .i64 e_0_0, .int .i64 e_0_1] T_lru_entry_int fun b_e_2 m1 =>
  LdV m1 b_e_2 0 fun v =>
  UnI v .i64 fun x5 =>
  LdV m1 c0b c0o fun v =>
  UnI v .i64 fun x6 =>
  R (.returned (.bool (x5 == x6))) m1
noncomputable def e0A (R : Ending → Mem → Prop) : ACode := (.code (body))
theorem e0_eq (e_0_0 : Int) (e_0_1 : Int) (c0b : Nat) (c0o : Nat) (R : Ending → Mem → Prop) (m : Mem) : e0 e_0_0 e_0_1 c0b c0o R m = acpt P od (panicR R) (e0A R) (bodyQ P fn R) (argE (#[.agg #[.int .i64 e_0_0, .int .i64 e_0_1], .pointer (some ⟨c0b, c0o, none⟩)] : Array Value).toList) m := by kernel_rfl
theorem ok (e_0_0 : Int) (e_0_1 : Int) (c0b : Nat) (c0o : Nat) (R : Ending → Mem → Prop) (m : Mem) (h : e0 e_0_0 e_0_1 c0b c0o R m) : HC P id #[.agg #[.int .i64 e_0_0, .int .i64 e_0_1], .pointer (some ⟨c0b, c0o, none⟩)] m R := by
  refine HC_of (fn := fn) (c := body) (od := od) (tb := tb) Go.Proofs.Try.func40 (by kernel_rfl) (by kernel_rfl) follows (by kernel_rfl) (of_decide_eq_true (by kernel_rfl)) ?_
  have he : (e0A R).erase = body := by kernel_rfl
  rw [← he]
  refine acpt_sound (P := P) (e0A R) _ _ _ True.intro ?_
  exact Eq.mp (e0_eq e_0_0 e_0_1 c0b c0o R m) h
end lru_Cache_int_at_1

end
end Go.E
