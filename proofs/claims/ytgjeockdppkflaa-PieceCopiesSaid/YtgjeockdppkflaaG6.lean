/- Printed by this project's own gen.py: the shallow forms of Go functions over the logic H, and that the machine meets them. -/
import Derived.Test.YtgjeockdppkflaaH7
import Derived.Test.YtgjeockdppkflaaProg
set_option linter.unusedVariables false
set_option maxRecDepth 100000
namespace Go.E
open Go.H
noncomputable section
noncomputable abbrev P : Program := Go.Proofs.Try.prog
theorem follows : P.follows .mixedOrders = true := by kernel_rfl
abbrev T_ : TypeId := 0
abbrev T_api_Errno : TypeId := 30
abbrev T_api_Piece : TypeId := 36
abbrev T_arr0_ptr_runtime_PanicNilError : TypeId := 67
abbrev T_bool : TypeId := 4
abbrev T_eyotlaw6_Op : TypeId := 28
abbrev T_eyotref3_Byte : TypeId := 63
abbrev T_eyotref3_Text : TypeId := 54
abbrev T_int : TypeId := 3
abbrev T_int32 : TypeId := 21
abbrev T_int64 : TypeId := 2
abbrev T_int_int_api_Errno : TypeId := 41
abbrev T_internal_abi_BoundsErrorCode : TypeId := 6
abbrev T_internal_abi_Kind : TypeId := 72
abbrev T_internal_abi_NameOff : TypeId := 75
abbrev T_internal_abi_TFlag : TypeId := 71
abbrev T_internal_abi_Type : TypeId := 78
abbrev T_internal_abi_TypeOff : TypeId := 76
abbrev T_internal_runtime_maps_unhashableTypeError : TypeId := 19
abbrev T_piece_Text : TypeId := 58
abbrev T_ptr_eyotref3_Text : TypeId := 45
abbrev T_ptr_internal_abi_Type : TypeId := 17
abbrev T_ptr_piece_Text : TypeId := 25
abbrev T_ptr_runtime_PanicNilError : TypeId := 16
abbrev T_ptr_runtime_TypeAssertionError : TypeId := 15
abbrev T_ptr_uint8 : TypeId := 74
abbrev T_runtime_PanicNilError : TypeId := 69
abbrev T_runtime_TypeAssertionError : TypeId := 66
abbrev T_runtime_boundsError : TypeId := 8
abbrev T_runtime_errorAddressString : TypeId := 14
abbrev T_runtime_errorString : TypeId := 10
abbrev T_runtime_plainError : TypeId := 11
abbrev T_sl_api_Piece : TypeId := 32
abbrev T_sl_eyotlaw6_Op : TypeId := 23
abbrev T_sl_eyotref3_Byte : TypeId := 52
abbrev T_sl_uint8 : TypeId := 22
abbrev T_string : TypeId := 9
abbrev T_struct13 : TypeId := 13
abbrev T_struct18 : TypeId := 18
abbrev T_struct27 : TypeId := 27
abbrev T_struct35 : TypeId := 35
abbrev T_struct53 : TypeId := 53
abbrev T_struct57 : TypeId := 57
abbrev T_struct62 : TypeId := 62
abbrev T_struct65 : TypeId := 65
abbrev T_struct68 : TypeId := 68
abbrev T_struct7 : TypeId := 7
abbrev T_struct77 : TypeId := 77
abbrev T_t1 : TypeId := 1
abbrev T_t20 : TypeId := 20
abbrev T_t24 : TypeId := 24
abbrev T_t26 : TypeId := 26
abbrev T_t29 : TypeId := 29
abbrev T_t31 : TypeId := 31
abbrev T_t33 : TypeId := 33
abbrev T_t34 : TypeId := 34
abbrev T_t37 : TypeId := 37
abbrev T_t38 : TypeId := 38
abbrev T_t39 : TypeId := 39
abbrev T_t40 : TypeId := 40
abbrev T_t42 : TypeId := 42
abbrev T_t43 : TypeId := 43
abbrev T_t44 : TypeId := 44
abbrev T_t46 : TypeId := 46
abbrev T_t47 : TypeId := 47
abbrev T_t48 : TypeId := 48
abbrev T_t49 : TypeId := 49
abbrev T_t50 : TypeId := 50
abbrev T_t51 : TypeId := 51
abbrev T_t55 : TypeId := 55
abbrev T_t56 : TypeId := 56
abbrev T_t59 : TypeId := 59
abbrev T_t60 : TypeId := 60
abbrev T_t61 : TypeId := 61
abbrev T_t64 : TypeId := 64
abbrev T_t73 : TypeId := 73
abbrev T_uint32 : TypeId := 70
abbrev T_uint8 : TypeId := 5
abbrev T_uintptr : TypeId := 12
abbrev T_unsafe_Pointer : TypeId := 79
def eyotlaw6_PieceSpells.id : FuncId := 3
def eyotlaw6_PieceApart.id : FuncId := 4
def eyotlaw6_PieceFinds.id : FuncId := 5
def eyotlaw6_PieceTypes.id : FuncId := 6
def eyotlaw6_PieceAll.id : FuncId := 7
def eyotlaw6_PieceCopies.id : FuncId := 8
def eyotlaw6_begun.id : FuncId := 9
def piece_New.id : FuncId := 10
def eyotlaw0_Place.id : FuncId := 11
def piece_Text_Edit.id : FuncId := 12
def piece_Text_Pieces.id : FuncId := 13
def piece_Text_Added.id : FuncId := 14
def piece_Text_Len.id : FuncId := 15
def eyotlaw6_spell.id : FuncId := 16
def piece_Text_Find.id : FuncId := 17
def eyotref3_NewText.id : FuncId := 18
def eyotlaw0_Twin.id : FuncId := 19
def eyotref3_Text_Edit.id : FuncId := 20
def eyotlaw0_Kept.id : FuncId := 21
def eyotlaw0_Spoil.id : FuncId := 22
def piece_Text_Copy.id : FuncId := 23
def eyotref3_Text_Find.id : FuncId := 24
def eyotref3_SamePieces.id : FuncId := 25
def eyotref3_Text_Pieces.id : FuncId := 26
def piece_cut.id : FuncId := 27
def piece_joined.id : FuncId := 28
def slices_Clone_s_api_Piece_api_Piece.id : FuncId := 29
def slices_Clone_s_byte_byte.id : FuncId := 30
def piece_size.id : FuncId := 31
/-! ### eyot/eyotlaw6.PieceSpells -/
namespace eyotlaw6_PieceSpells
noncomputable def fn : Func := Go.Proofs.Try.f3
noncomputable def body : Code := fn.body.getD .skip
def od : Nat → Ord := fun | 16 => ordL [(1, 3), (2, 3), (3, 3), (5, 3), (6, 3), (7, 3), (8, 3), (9, 1), (11, 3), (12, 3), (13, 3), (0, 0), (4, 0), (10, 2), (14, 2), (15, 3)] .done | 25 => ordL [(0, 3), (1, 3), (2, 3), (3, 3), (4, 0), (5, 3), (6, 3), (7, 3), (8, 3), (9, 3), (10, 3), (11, 1), (12, 3), (13, 3), (14, 3), (15, 3), (16, 0), (17, 3), (18, 3), (19, 3), (20, 3), (21, 3), (22, 3), (23, 3), (24, 1), (25, 3), (26, 3), (27, 3), (28, 3)] .done | 27 => ordL [(0, 3), (1, 3), (2, 3), (3, 3), (4, 3), (5, 3), (6, 1), (7, 3), (8, 3), (9, 3), (10, 3), (11, 0), (12, 3), (13, 2), (14, 3)] .done | _ => .done
def tb : Nat → Tab := fun | 16 => (17408, [0, 0, 0, 6, 15, 0, 0, 96, 224, 480, 1023, 0, 0, 6144, 16383, 32767], [(0, 0, 77), (0, 64, 78), (0, 256, 79), (6, 453347182355485940514816, 80), (9, 680020773533228910772224, 81), (0, 2, 82), (0, 128, 83), (96, 7253554917687775048237056, 84), (128, 9671406556917033397649408, 85), (256, 19342813113834066795298816, 86), (528, 39894552047282762765303808, 87), (0, 64, 88), (0, 512, 89), (6144, 464227514732017603087171584, 90), (9216, 696341272098026404630757376, 91), (32767, 1237940039285380274899124224, 7)]) | 25 => (0, [0, 0, 3, 7, 15, 31, 63, 127, 127, 511, 1023, 2047, 127, 127, 12415, 28799, 61567, 131071, 262143, 524287, 1048575, 1048575, 4194303, 8388607, 16777215, 1048575, 34603007, 134217727, 268435455], [(0, 2048, 109), (0, 8192, 110), (3, 973555660975280180349468061728768, 111), (4, 1298074214633706907132624082305024, 112), (8, 2596148429267413814265248164610048, 113), (16, 5192296858534827628530496329220096, 114), (32, 10384593717069655257060992658440192, 115), (64, 20769187434139310514121985316882432, 116), (64, 20769187434139310514121985316888576, 117), (448, 145384312038975173598853897218162688, 118), (576, 186922686907253794627097867851923456, 119), (1088, 353076186380368278740073750386966528, 120), (64, 20769187434139310514121985316882432, 121), (64, 20769187434139310514121985316888576, 122), (12352, 4008453174788886929225543166157914112, 123), (16448, 5337681170573802802129350226438258688, 124), (32832, 10654593153713466293744578467559636992, 125), (67648, 21953031117885251213426938479942565888, 126), (131136, 42556065052551447243435947914287906816, 127), (262208, 85070591730234615865843651857942052864, 128), (524288, 170141183460469231731687303715884107776, 129), (524288, 170141183460469231731687303715884113920, 130), (3670016, 1190988284223284622121811126011188740096, 131), (4718592, 1531270651144223085585185733442956951552, 132), (8912896, 2892400118827976939438684163170029797376, 133), (524288, 170141183460469231731687303715884122112, 134), (34078720, 11059176924930500062559674741532466872320, 135), (84410368, 27392730537135546308801655898257341022208, 136), (134742016, 43726284149340592555043637054982215172096, 137)]) | 27 => (8192, [0, 0, 0, 0, 12, 28, 60, 0, 0, 384, 896, 1920, 4094, 8191, 16383], [(0, 1024, 138), (0, 16384, 139), (0, 2048, 140), (0, 8192, 141), (12, 2090694862362245919518973588060783891185664, 142), (16, 2787593149816327892691964784081045188247552, 143), (32, 5575186299632655785383929568162090376495104, 144), (0, 2048, 145), (0, 8192, 146), (384, 66902235595591869424607154817945084517941248, 147), (512, 89202980794122492566142873090593446023921664, 148), (1024, 178405961588244985132285746181186892047843328, 149), (2114, 368310744919482322821925847096708095497207808, 150), (4097, 713798070924843461022436232523752633515638784, 151), (16383, 1427247692705959881058285969449495136382746624, 11)]) | _ => (0, [], [])
def k3E (K : Option Addr → Nat → Nat → Option Addr → Nat → Nat → Option Addr → Option Addr → Nat → Nat → Int → Option Addr → Nat → Nat → Option Addr → Nat → Nat → Option Addr → Nat → Nat → Int → Option Addr → Nat → Nat → Mem → Prop) : Env → Mem → Prop := fun ρ m => UnS (ρ 0) fun x0a x0l x0c => UnS (ρ 1) fun x1a x1l x1c => UnP (ρ 5) fun x5 => UnS (ρ 6) fun x6a x6l x6c => UnI (ρ 7) .i64 fun x7 => UnS (ρ 10) fun x10a x10l x10c => UnS (ρ 11) fun x11a x11l x11c => UnS (ρ 12) fun x12a x12l x12c => UnI (ρ 13) .i64 fun x13 => UnS (ρ 14) fun x14a x14l x14c => K x0a x0l x0c x1a x1l x1c x5 x6a x6l x6c x7 x10a x10l x10c x11a x11l x11c x12a x12l x12c x13 x14a x14l x14c m
def k3 (K1 : Option Addr → Nat → Nat → Option Addr → Nat → Nat → Option Addr → Option Addr → Nat → Nat → Int → Mem → Prop) (K2 : Option Addr → Nat → Nat → Option Addr → Nat → Nat → Option Addr → Option Addr → Nat → Nat → Int → Option Addr → Nat → Nat → Option Addr → Nat → Nat → Option Addr → Nat → Nat → Int → Mem → Prop) (x0a : Option Addr) (x0l : Nat) (x0c : Nat) (x1a : Option Addr) (x1l : Nat) (x1c : Nat) (x5 : Option Addr) (x6a : Option Addr) (x6l : Nat) (x6c : Nat) (x7 : Int) (x10a : Option Addr) (x10l : Nat) (x10c : Nat) (x11a : Option Addr) (x11l : Nat) (x11c : Nat) (x12a : Option Addr) (x12l : Nat) (x12c : Nat) (x13 : Int) (x14a : Option Addr) (x14l : Nat) (x14c : Nat) (R : Ending → Mem → Prop) (m : Mem) : Prop :=
  Sub m fun r1 =>
  IxS x11a x11l x13 3 fun x110b x110o =>
  LdV m x110b (x110o + 1) fun v =>
  UnI v .i64 fun x112 =>
  Br (decide (x112 < 0)) (
    R (.returned (.bool false)) m) (
    IxS x11a x11l x13 3 fun x117b x117o =>
    LdV r1 x117b (x117o + 1) fun v =>
    UnI v .i64 fun x119 =>
    IxS x11a x11l x13 3 fun x122b x122o =>
    LdV m x122b (x122o + 2) fun v =>
    UnI v .i64 fun x124 =>
    Br (decide (x119 ≥ x124)) (
      R (.returned (.bool false)) m) (
      IxS x11a x11l x13 3 fun x130b x130o =>
      LdV r1 x130b (x130o + 2) fun v =>
      UnI v .i64 fun x132 =>
      Br (decide (x132 > ((x14l : Nat) : Int))) (
        R (.returned (.bool false)) m) (
        Sub m fun r2 =>
        IxS x11a x11l x13 3 fun x141b x141o =>
        LdV r2 x141b (x141o + 1) fun v =>
        UnI v .i64 fun x143 =>
        IxS x11a x11l x13 3 fun x146b x146o =>
        LdV m x146b (x146o + 2) fun v =>
        UnI v .i64 fun x148 =>
        SlS x14a x14c x143 x148 1 fun x149a x149l x149c =>
        BiN P .append #[T_sl_uint8, T_sl_uint8] T_sl_uint8 #[false, false] #[.slice x10a x10l x10c, .slice x149a x149l x149c] m (fun w m3 =>
          UnS w fun x150a x150l x150c =>
          K2 x0a x0l x0c x1a x1l x1c x5 x6a x6l x6c x7 x150a x150l x150c x11a x11l x11c x12a x12l x12c (IntKind.i64.wrap (x13 + 1)) m3) (panicR R))))
noncomputable def k3A (K1 : Option Addr → Nat → Nat → Option Addr → Nat → Nat → Option Addr → Option Addr → Nat → Nat → Int → Mem → Prop) (K2 : Option Addr → Nat → Nat → Option Addr → Nat → Nat → Option Addr → Option Addr → Nat → Nat → Int → Option Addr → Nat → Nat → Option Addr → Nat → Nat → Option Addr → Nat → Nat → Int → Mem → Prop) (R : Ending → Mem → Prop) : ACode := (.code (sR (sR (bB (sL (sR (lP (bB (sR (sL (sR (sR (sR (sR (sR (sR (sR (bB (sL (sR (lP (bB (sR (sL (sR (sR (sR (sR (sR (body))))))))))))))))))))))))))))))
def k4E (K : Option Addr → Nat → Nat → Option Addr → Nat → Nat → Option Addr → Option Addr → Nat → Nat → Int → Option Addr → Nat → Nat → Mem → Prop) : Env → Mem → Prop := fun ρ m => UnS (ρ 0) fun x0a x0l x0c => UnS (ρ 1) fun x1a x1l x1c => UnP (ρ 5) fun x5 => UnS (ρ 6) fun x6a x6l x6c => UnI (ρ 7) .i64 fun x7 => UnS (ρ 10) fun x10a x10l x10c => K x0a x0l x0c x1a x1l x1c x5 x6a x6l x6c x7 x10a x10l x10c m
def k4 (K1 : Option Addr → Nat → Nat → Option Addr → Nat → Nat → Option Addr → Option Addr → Nat → Nat → Int → Mem → Prop) (x0a : Option Addr) (x0l : Nat) (x0c : Nat) (x1a : Option Addr) (x1l : Nat) (x1c : Nat) (x5 : Option Addr) (x6a : Option Addr) (x6l : Nat) (x6c : Nat) (x7 : Int) (x10a : Option Addr) (x10l : Nat) (x10c : Nat) (R : Ending → Mem → Prop) (m : Mem) : Prop :=
  B2S m x10a x10l fun s152 =>
  B2S m x6a x6l fun s154 =>
  Br (!(s152.toList == s154.toList)) (
    R (.returned (.bool false)) m) (
    HC P piece_Text_Len.id #[.pointer x5] m (Cont (fun v m1 =>
        UnI v .i64 fun x158 =>
        Br (x158 != ((x6l : Nat) : Int)) (
          R (.returned (.bool false)) m1) (
          K1 x0a x0l x0c x1a x1l x1c x5 x6a x6l x6c (IntKind.i64.wrap (x7 + 1)) m1)) (panicR R)))
noncomputable def k4A (K1 : Option Addr → Nat → Nat → Option Addr → Nat → Nat → Option Addr → Option Addr → Nat → Nat → Int → Mem → Prop) (R : Ending → Mem → Prop) : ACode := (.code (sR (sR (sR (sR (sR (sR (sR (sR (bB (sL (sR (lP (bB (sR (sL (sR (sR (sR (sR (sR (body))))))))))))))))))))))
def l2E (K : Option Addr → Nat → Nat → Option Addr → Nat → Nat → Option Addr → Option Addr → Nat → Nat → Int → Option Addr → Nat → Nat → Option Addr → Nat → Nat → Option Addr → Nat → Nat → Int → Mem → Prop) : Env → Mem → Prop := fun ρ m => UnS (ρ 0) fun x0a x0l x0c => UnS (ρ 1) fun x1a x1l x1c => UnP (ρ 5) fun x5 => UnS (ρ 6) fun x6a x6l x6c => UnI (ρ 7) .i64 fun x7 => UnS (ρ 10) fun x10a x10l x10c => UnS (ρ 11) fun x11a x11l x11c => UnS (ρ 12) fun x12a x12l x12c => UnI (ρ 13) .i64 fun x13 => K x0a x0l x0c x1a x1l x1c x5 x6a x6l x6c x7 x10a x10l x10c x11a x11l x11c x12a x12l x12c x13 m
def l2B (K1 : Option Addr → Nat → Nat → Option Addr → Nat → Nat → Option Addr → Option Addr → Nat → Nat → Int → Mem → Prop) (K2 : Option Addr → Nat → Nat → Option Addr → Nat → Nat → Option Addr → Option Addr → Nat → Nat → Int → Option Addr → Nat → Nat → Option Addr → Nat → Nat → Option Addr → Nat → Nat → Int → Mem → Prop) (x0a : Option Addr) (x0l : Nat) (x0c : Nat) (x1a : Option Addr) (x1l : Nat) (x1c : Nat) (x5 : Option Addr) (x6a : Option Addr) (x6l : Nat) (x6c : Nat) (x7 : Int) (x10a : Option Addr) (x10l : Nat) (x10c : Nat) (x11a : Option Addr) (x11l : Nat) (x11c : Nat) (x12a : Option Addr) (x12l : Nat) (x12c : Nat) (x13 : Int) (R : Ending → Mem → Prop) (m : Mem) : Prop :=
  Br (decide (x13 < ((x11l : Nat) : Int))) (
    IxS x11a x11l x13 3 fun x104b x104o =>
    LdV m x104b x104o fun v =>
    UnB v fun x106 =>
    Br x106 (
      k3 K1 K2 x0a x0l x0c x1a x1l x1c x5 x6a x6l x6c x7 x10a x10l x10c x11a x11l x11c x12a x12l x12c x13 x12a x12l x12c R m) (
      k3 K1 K2 x0a x0l x0c x1a x1l x1c x5 x6a x6l x6c x7 x10a x10l x10c x11a x11l x11c x12a x12l x12c x13 x0a x0l x0c R m)) (
    k4 K1 x0a x0l x0c x1a x1l x1c x5 x6a x6l x6c x7 x10a x10l x10c R m)
def l2 (K1 : Option Addr → Nat → Nat → Option Addr → Nat → Nat → Option Addr → Option Addr → Nat → Nat → Int → Mem → Prop) (x0a : Option Addr) (x0l : Nat) (x0c : Nat) (x1a : Option Addr) (x1l : Nat) (x1c : Nat) (x5 : Option Addr) (x6a : Option Addr) (x6l : Nat) (x6c : Nat) (x7 : Int) (x10a : Option Addr) (x10l : Nat) (x10c : Nat) (x11a : Option Addr) (x11l : Nat) (x11c : Nat) (x12a : Option Addr) (x12l : Nat) (x12c : Nat) (x13 : Int) (R : Ending → Mem → Prop) (m : Mem) : Prop :=
  ∃ (I : Nat → Option Addr → Nat → Nat → Option Addr → Nat → Nat → Option Addr → Option Addr → Nat → Nat → Int → Option Addr → Nat → Nat → Option Addr → Nat → Nat → Option Addr → Nat → Nat → Int → Mem → Prop) (N : Nat), I N x0a x0l x0c x1a x1l x1c x5 x6a x6l x6c x7 x10a x10l x10c x11a x11l x11c x12a x12l x12c x13 m ∧ ∀ N x0a x0l x0c x1a x1l x1c x5 x6a x6l x6c x7 x10a x10l x10c x11a x11l x11c x12a x12l x12c x13 m, I N x0a x0l x0c x1a x1l x1c x5 x6a x6l x6c x7 x10a x10l x10c x11a x11l x11c x12a x12l x12c x13 m → l2B K1 (fun x0a x0l x0c x1a x1l x1c x5 x6a x6l x6c x7 x10a x10l x10c x11a x11l x11c x12a x12l x12c x13 m => ∃ N1, N1 < N ∧ I N1 x0a x0l x0c x1a x1l x1c x5 x6a x6l x6c x7 x10a x10l x10c x11a x11l x11c x12a x12l x12c x13 m) x0a x0l x0c x1a x1l x1c x5 x6a x6l x6c x7 x10a x10l x10c x11a x11l x11c x12a x12l x12c x13 R m
noncomputable def l2A (K1 : Option Addr → Nat → Nat → Option Addr → Nat → Nat → Option Addr → Option Addr → Nat → Nat → Int → Mem → Prop) (K2 : Option Addr → Nat → Nat → Option Addr → Nat → Nat → Option Addr → Option Addr → Nat → Nat → Int → Option Addr → Nat → Nat → Option Addr → Nat → Nat → Option Addr → Nat → Nat → Int → Mem → Prop) (R : Ending → Mem → Prop) : ACode := (.seq (.code (sL (lP (bB (sR (sL (sR (sR (sR (sR (sR (sR (sR (bB (sL (sR (lP (bB (sR (sL (sR (sR (sR (sR (sR (body)))))))))))))))))))))))))) (.seq (.block 3 (.seq (.code (sL (bB (sL (sR (lP (bB (sR (sL (sR (sR (sR (sR (sR (sR (sR (bB (sL (sR (lP (bB (sR (sL (sR (sR (sR (sR (sR (body))))))))))))))))))))))))))))) (.seq (.code (sL (sR (bB (sL (sR (lP (bB (sR (sL (sR (sR (sR (sR (sR (sR (sR (bB (sL (sR (lP (bB (sR (sL (sR (sR (sR (sR (sR (body)))))))))))))))))))))))))))))) (.cut (k3E fun x0a x0l x0c x1a x1l x1c x5 x6a x6l x6c x7 x10a x10l x10c x11a x11l x11c x12a x12l x12c x13 x14a x14l x14c m => k3 K1 K2 x0a x0l x0c x1a x1l x1c x5 x6a x6l x6c x7 x10a x10l x10c x11a x11l x11c x12a x12l x12c x13 x14a x14l x14c R m) (sR (sR (bB (sL (sR (lP (bB (sR (sL (sR (sR (sR (sR (sR (sR (sR (bB (sL (sR (lP (bB (sR (sL (sR (sR (sR (sR (sR (body))))))))))))))))))))))))))))))))) (.code (sR (sR (lP (bB (sR (sL (sR (sR (sR (sR (sR (sR (sR (bB (sL (sR (lP (bB (sR (sL (sR (sR (sR (sR (sR (body)))))))))))))))))))))))))))))
def l1E (K : Option Addr → Nat → Nat → Option Addr → Nat → Nat → Option Addr → Option Addr → Nat → Nat → Int → Mem → Prop) : Env → Mem → Prop := fun ρ m => UnS (ρ 0) fun x0a x0l x0c => UnS (ρ 1) fun x1a x1l x1c => UnP (ρ 5) fun x5 => UnS (ρ 6) fun x6a x6l x6c => UnI (ρ 7) .i64 fun x7 => K x0a x0l x0c x1a x1l x1c x5 x6a x6l x6c x7 m
def l1B  (K1 : Option Addr → Nat → Nat → Option Addr → Nat → Nat → Option Addr → Option Addr → Nat → Nat → Int → Mem → Prop) (x0a : Option Addr) (x0l : Nat) (x0c : Nat) (x1a : Option Addr) (x1l : Nat) (x1c : Nat) (x5 : Option Addr) (x6a : Option Addr) (x6l : Nat) (x6c : Nat) (x7 : Int) (R : Ending → Mem → Prop) (m : Mem) : Prop :=
  Br (decide (x7 < ((x1l : Nat) : Int))) (
    IxS x1a x1l x7 4 fun x39b x39o =>
    LdV m x39b (x39o + 2) fun v =>
    UnS v fun x41a x41l x41c =>
    Br (decide (((x41l : Nat) : Int) > 100)) (
      R (.returned (.bool true)) m) (
      IxS x1a x1l x7 4 fun x46b x46o =>
      LdV m x46b x46o fun v =>
      UnI v .i64 fun x48 =>
      HC P eyotlaw0_Place.id #[.int .i64 x48, .int .i64 (IntKind.i64.wrap (((x6l : Nat) : Int) + 1))] m (Cont (fun v m1 =>
          UnI v .i64 fun x52 =>
          IxS x1a x1l x7 4 fun x56b x56o =>
          LdV m1 x56b (x56o + 1) fun v =>
          UnI v .i64 fun x58 =>
          HC P eyotlaw0_Place.id #[.int .i64 x58, .int .i64 (IntKind.i64.wrap ((IntKind.i64.wrap (((x6l : Nat) : Int) - x52)) + 1))] m1 (Cont (fun v m2 =>
              UnI v .i64 fun x64 =>
              IxS x1a x1l x7 4 fun x71b x71o =>
              LdV m2 x71b (x71o + 2) fun v =>
              UnS v fun x73a x73l x73c =>
              HC P piece_Text_Edit.id #[.pointer x5, .int .i64 x52, .int .i64 (IntKind.i64.wrap (x52 + x64)), .slice x73a x73l x73c] m2 (Cont (fun v m3 =>
                  UnI v .i64 fun x74 =>
                  Br (x74 != 0) (
                    R (.returned (.bool false)) m3) (
                    Sub m3 fun r4 =>
                    SlS x6a x6c 0 x52 1 fun x79a x79l x79c =>
                    IxS x1a x1l x7 4 fun x83b x83o =>
                    LdV r4 x83b (x83o + 2) fun v =>
                    UnS v fun x85a x85l x85c =>
                    SlS x6a x6c (IntKind.i64.wrap (x52 + x64)) x6l 1 fun x89a x89l x89c =>
                    NewC m3 #[] T_uint8 fun b76 m5 =>
                    Lk r4 m5 fun r6 =>
                    BiN P .append #[T_sl_uint8, T_sl_uint8] T_sl_uint8 #[false, false] #[.slice (some ⟨b76, 0, none⟩) 0 0, .slice x79a x79l x79c] m5 (fun w m7 =>
                      UnS w fun x80a x80l x80c =>
                      Lk r6 m7 fun r8 =>
                      BiN P .append #[T_sl_uint8, T_sl_uint8] T_sl_uint8 #[false, false] #[.slice x80a x80l x80c, .slice x85a x85l x85c] m7 (fun w m9 =>
                        UnS w fun x86a x86l x86c =>
                        BiN P .append #[T_sl_uint8, T_sl_uint8] T_sl_uint8 #[false, false] #[.slice x86a x86l x86c, .slice x89a x89l x89c] m9 (fun w m10 =>
                        UnS w fun x90a x90l x90c =>
                        HC P piece_Text_Pieces.id #[.pointer x5] m10 (Cont (fun v m11 =>
                        UnS v fun x92a x92l x92c =>
                        HC P piece_Text_Added.id #[.pointer x5] m11 (Cont (fun v m12 =>
                        UnS v fun x94a x94l x94c =>
                        l2 K1 x0a x0l x0c x1a x1l x1c x5 x90a x90l x90c x7 none 0 0 x92a x92l x92c x94a x94l x94c 0 R m12) (panicR R))) (panicR R))) (panicR R)) (panicR R)) (panicR R))) (panicR R))) (panicR R))) (panicR R)))) (
    R (.returned (.bool true)) m)
def l1  (x0a : Option Addr) (x0l : Nat) (x0c : Nat) (x1a : Option Addr) (x1l : Nat) (x1c : Nat) (x5 : Option Addr) (x6a : Option Addr) (x6l : Nat) (x6c : Nat) (x7 : Int) (R : Ending → Mem → Prop) (m : Mem) : Prop :=
  ∃ (I : Nat → Option Addr → Nat → Nat → Option Addr → Nat → Nat → Option Addr → Option Addr → Nat → Nat → Int → Mem → Prop) (N : Nat), I N x0a x0l x0c x1a x1l x1c x5 x6a x6l x6c x7 m ∧ ∀ N x0a x0l x0c x1a x1l x1c x5 x6a x6l x6c x7 m, I N x0a x0l x0c x1a x1l x1c x5 x6a x6l x6c x7 m → l1B  (fun x0a x0l x0c x1a x1l x1c x5 x6a x6l x6c x7 m => ∃ N1, N1 < N ∧ I N1 x0a x0l x0c x1a x1l x1c x5 x6a x6l x6c x7 m) x0a x0l x0c x1a x1l x1c x5 x6a x6l x6c x7 R m
noncomputable def l1A  (K1 : Option Addr → Nat → Nat → Option Addr → Nat → Nat → Option Addr → Option Addr → Nat → Nat → Int → Mem → Prop) (R : Ending → Mem → Prop) : ACode := (.seq (.code (sL (lP (bB (sR (sL (sR (sR (sR (sR (sR (body)))))))))))) (.seq (.block 1 (.seq (.code (sL (bB (sL (sR (lP (bB (sR (sL (sR (sR (sR (sR (sR (body))))))))))))))) (.seq (.code (sL (sR (bB (sL (sR (lP (bB (sR (sL (sR (sR (sR (sR (sR (body)))))))))))))))) (.seq (.code (sL (sR (sR (bB (sL (sR (lP (bB (sR (sL (sR (sR (sR (sR (sR (body))))))))))))))))) (.seq (.code (sL (sR (sR (sR (bB (sL (sR (lP (bB (sR (sL (sR (sR (sR (sR (sR (body)))))))))))))))))) (.seq (.code (sL (sR (sR (sR (sR (bB (sL (sR (lP (bB (sR (sL (sR (sR (sR (sR (sR (body))))))))))))))))))) (.seq (.code (sL (sR (sR (sR (sR (sR (bB (sL (sR (lP (bB (sR (sL (sR (sR (sR (sR (sR (body)))))))))))))))))))) (.seq (.code (sL (sR (sR (sR (sR (sR (sR (bB (sL (sR (lP (bB (sR (sL (sR (sR (sR (sR (sR (body))))))))))))))))))))) (.seq (.seq (.code (sL (sL (sR (sR (sR (sR (sR (sR (sR (bB (sL (sR (lP (bB (sR (sL (sR (sR (sR (sR (sR (body))))))))))))))))))))))) (.block 2 (.cut (l2E fun x0a x0l x0c x1a x1l x1c x5 x6a x6l x6c x7 x10a x10l x10c x11a x11l x11c x12a x12l x12c x13 m => l2 K1 x0a x0l x0c x1a x1l x1c x5 x6a x6l x6c x7 x10a x10l x10c x11a x11l x11c x12a x12l x12c x13 R m) (.loop (lP (bB (sR (sL (sR (sR (sR (sR (sR (sR (sR (bB (sL (sR (lP (bB (sR (sL (sR (sR (sR (sR (sR (body)))))))))))))))))))))))))))) (.cut (k4E fun x0a x0l x0c x1a x1l x1c x5 x6a x6l x6c x7 x10a x10l x10c m => k4 K1 x0a x0l x0c x1a x1l x1c x5 x6a x6l x6c x7 x10a x10l x10c R m) (sR (sR (sR (sR (sR (sR (sR (sR (bB (sL (sR (lP (bB (sR (sL (sR (sR (sR (sR (sR (body))))))))))))))))))))))))))))))) (.code (sR (sR (lP (bB (sR (sL (sR (sR (sR (sR (sR (body)))))))))))))))
def e0 (a0a : Option Addr) (a0l : Nat) (a0c : Nat) (a1a : Option Addr) (a1l : Nat) (a1c : Nat) (R : Ending → Mem → Prop) (m : Mem) : Prop :=
  HC P eyotlaw6_begun.id #[] m (Cont (fun v m1 =>
      UnB v fun x15 =>
      Br (!x15) (
        R (.returned (.bool false)) m1) (
        Br (decide (((a0l : Nat) : Int) > 200)) (
          R (.returned (.bool true)) m1) (
          Br (decide (((a1l : Nat) : Int) > 20)) (
            R (.returned (.bool true)) m1) (
            HC P piece_New.id #[.int .i64 ((a0l : Nat) : Int)] m1 (Cont (fun v m2 =>
                UnP v fun x27 =>
                NewC m2 #[] T_uint8 fun b28 m3 =>
                BiN P .append #[T_sl_uint8, T_sl_uint8] T_sl_uint8 #[false, false] #[.slice (some ⟨b28, 0, none⟩) 0 0, .slice a0a a0l a0c] m3 (fun w m4 =>
                  UnS w fun x30a x30l x30c =>
                  l1  a0a a0l a0c a1a a1l a1c x27 x30a x30l x30c 0 R m4) (panicR R)) (panicR R)))))) (panicR R))
noncomputable def e0A (R : Ending → Mem → Prop) : ACode := (.seq (.code (sL (body))) (.seq (.code (sL (sR (body)))) (.seq (.code (sL (sR (sR (body))))) (.seq (.code (sL (sR (sR (sR (body)))))) (.seq (.code (sL (sR (sR (sR (sR (body))))))) (.seq (.seq (.code (sL (sL (sR (sR (sR (sR (sR (body))))))))) (.block 0 (.cut (l1E fun x0a x0l x0c x1a x1l x1c x5 x6a x6l x6c x7 m => l1  x0a x0l x0c x1a x1l x1c x5 x6a x6l x6c x7 R m) (.loop (lP (bB (sR (sL (sR (sR (sR (sR (sR (body)))))))))))))) (.code (sR (sR (sR (sR (sR (sR (body))))))))))))))
theorem k3_eq (K1 : Option Addr → Nat → Nat → Option Addr → Nat → Nat → Option Addr → Option Addr → Nat → Nat → Int → Mem → Prop) (K2 : Option Addr → Nat → Nat → Option Addr → Nat → Nat → Option Addr → Option Addr → Nat → Nat → Int → Option Addr → Nat → Nat → Option Addr → Nat → Nat → Option Addr → Nat → Nat → Int → Mem → Prop) (R : Ending → Mem → Prop) (x0a : Option Addr) (x0l : Nat) (x0c : Nat) (x1a : Option Addr) (x1l : Nat) (x1c : Nat) (x5 : Option Addr) (x6a : Option Addr) (x6l : Nat) (x6c : Nat) (x7 : Int) (x10a : Option Addr) (x10l : Nat) (x10c : Nat) (x11a : Option Addr) (x11l : Nat) (x11c : Nat) (x12a : Option Addr) (x12l : Nat) (x12c : Nat) (x13 : Int) (x14a : Option Addr) (x14l : Nat) (x14c : Nat) (ρ : Env) (m : Mem) : k3 K1 K2 x0a x0l x0c x1a x1l x1c x5 x6a x6l x6c x7 x10a x10l x10c x11a x11l x11c x12a x12l x12c x13 x14a x14l x14c R m = acpt P od (panicR R) (k3A K1 K2 R) (blockQ 3 (thenQ (acpt P od (panicR R) (.code (sR (sR (lP (bB (sR (sL (sR (sR (sR (sR (sR (sR (sR (bB (sL (sR (lP (bB (sR (sL (sR (sR (sR (sR (sR (body))))))))))))))))))))))))))) (thenQ (l2E K2) (blockQ 2 (thenQ (acpt P od (panicR R) (.cut (k4E fun x0a x0l x0c x1a x1l x1c x5 x6a x6l x6c x7 x10a x10l x10c m => k4 K1 x0a x0l x0c x1a x1l x1c x5 x6a x6l x6c x7 x10a x10l x10c R m) (sR (sR (sR (sR (sR (sR (sR (sR (bB (sL (sR (lP (bB (sR (sL (sR (sR (sR (sR (sR (body)))))))))))))))))))))) (blockQ 1 (thenQ (acpt P od (panicR R) (.code (sR (sR (lP (bB (sR (sL (sR (sR (sR (sR (sR (body))))))))))))) (thenQ (l1E K1) (blockQ 0 (thenQ (acpt P od (panicR R) (.code (sR (sR (sR (sR (sR (sR (body)))))))) (bodyQ P fn R)) (bodyQ P fn R))))) (thenQ (l1E K1) (blockQ 0 (thenQ (acpt P od (panicR R) (.code (sR (sR (sR (sR (sR (sR (body)))))))) (bodyQ P fn R)) (bodyQ P fn R))))))) (blockQ 1 (thenQ (acpt P od (panicR R) (.code (sR (sR (lP (bB (sR (sL (sR (sR (sR (sR (sR (body))))))))))))) (thenQ (l1E K1) (blockQ 0 (thenQ (acpt P od (panicR R) (.code (sR (sR (sR (sR (sR (sR (body)))))))) (bodyQ P fn R)) (bodyQ P fn R))))) (thenQ (l1E K1) (blockQ 0 (thenQ (acpt P od (panicR R) (.code (sR (sR (sR (sR (sR (sR (body)))))))) (bodyQ P fn R)) (bodyQ P fn R)))))))))) (thenQ (l2E K2) (blockQ 2 (thenQ (acpt P od (panicR R) (.cut (k4E fun x0a x0l x0c x1a x1l x1c x5 x6a x6l x6c x7 x10a x10l x10c m => k4 K1 x0a x0l x0c x1a x1l x1c x5 x6a x6l x6c x7 x10a x10l x10c R m) (sR (sR (sR (sR (sR (sR (sR (sR (bB (sL (sR (lP (bB (sR (sL (sR (sR (sR (sR (sR (body)))))))))))))))))))))) (blockQ 1 (thenQ (acpt P od (panicR R) (.code (sR (sR (lP (bB (sR (sL (sR (sR (sR (sR (sR (body))))))))))))) (thenQ (l1E K1) (blockQ 0 (thenQ (acpt P od (panicR R) (.code (sR (sR (sR (sR (sR (sR (body)))))))) (bodyQ P fn R)) (bodyQ P fn R))))) (thenQ (l1E K1) (blockQ 0 (thenQ (acpt P od (panicR R) (.code (sR (sR (sR (sR (sR (sR (body)))))))) (bodyQ P fn R)) (bodyQ P fn R))))))) (blockQ 1 (thenQ (acpt P od (panicR R) (.code (sR (sR (lP (bB (sR (sL (sR (sR (sR (sR (sR (body))))))))))))) (thenQ (l1E K1) (blockQ 0 (thenQ (acpt P od (panicR R) (.code (sR (sR (sR (sR (sR (sR (body)))))))) (bodyQ P fn R)) (bodyQ P fn R))))) (thenQ (l1E K1) (blockQ 0 (thenQ (acpt P od (panicR R) (.code (sR (sR (sR (sR (sR (sR (body)))))))) (bodyQ P fn R)) (bodyQ P fn R))))))))))) (upd (upd (upd (upd (upd (upd (upd (upd (upd (upd ρ 14 (.slice x14a x14l x14c)) 13 (.int .i64 x13)) 12 (.slice x12a x12l x12c)) 11 (.slice x11a x11l x11c)) 10 (.slice x10a x10l x10c)) 7 (.int .i64 x7)) 6 (.slice x6a x6l x6c)) 5 (.pointer x5)) 1 (.slice x1a x1l x1c)) 0 (.slice x0a x0l x0c)) m := by kernel_rfl
theorem k3_er (K1 : Option Addr → Nat → Nat → Option Addr → Nat → Nat → Option Addr → Option Addr → Nat → Nat → Int → Mem → Prop) (K2 : Option Addr → Nat → Nat → Option Addr → Nat → Nat → Option Addr → Option Addr → Nat → Nat → Int → Option Addr → Nat → Nat → Option Addr → Nat → Nat → Option Addr → Nat → Nat → Int → Mem → Prop) (R : Ending → Mem → Prop) : (k3A K1 K2 R).erase = sR (sR (bB (sL (sR (lP (bB (sR (sL (sR (sR (sR (sR (sR (sR (sR (bB (sL (sR (lP (bB (sR (sL (sR (sR (sR (sR (sR (body)))))))))))))))))))))))))))) := by kernel_rfl
theorem k3_ok (K1 : Option Addr → Nat → Nat → Option Addr → Nat → Nat → Option Addr → Option Addr → Nat → Nat → Int → Mem → Prop) (K2 : Option Addr → Nat → Nat → Option Addr → Nat → Nat → Option Addr → Option Addr → Nat → Nat → Int → Option Addr → Nat → Nat → Option Addr → Nat → Nat → Option Addr → Nat → Nat → Int → Mem → Prop) (R : Ending → Mem → Prop) (ρ : Env) (m : Mem) (h : (k3E fun x0a x0l x0c x1a x1l x1c x5 x6a x6l x6c x7 x10a x10l x10c x11a x11l x11c x12a x12l x12c x13 x14a x14l x14c m => k3 K1 K2 x0a x0l x0c x1a x1l x1c x5 x6a x6l x6c x7 x10a x10l x10c x11a x11l x11c x12a x12l x12c x13 x14a x14l x14c R m) ρ m) : cpt P od (panicR R) (sR (sR (bB (sL (sR (lP (bB (sR (sL (sR (sR (sR (sR (sR (sR (sR (bB (sL (sR (lP (bB (sR (sL (sR (sR (sR (sR (sR (body))))))))))))))))))))))))))))) (blockQ 3 (thenQ (acpt P od (panicR R) (.code (sR (sR (lP (bB (sR (sL (sR (sR (sR (sR (sR (sR (sR (bB (sL (sR (lP (bB (sR (sL (sR (sR (sR (sR (sR (body))))))))))))))))))))))))))) (thenQ (l2E K2) (blockQ 2 (thenQ (acpt P od (panicR R) (.cut (k4E fun x0a x0l x0c x1a x1l x1c x5 x6a x6l x6c x7 x10a x10l x10c m => k4 K1 x0a x0l x0c x1a x1l x1c x5 x6a x6l x6c x7 x10a x10l x10c R m) (sR (sR (sR (sR (sR (sR (sR (sR (bB (sL (sR (lP (bB (sR (sL (sR (sR (sR (sR (sR (body)))))))))))))))))))))) (blockQ 1 (thenQ (acpt P od (panicR R) (.code (sR (sR (lP (bB (sR (sL (sR (sR (sR (sR (sR (body))))))))))))) (thenQ (l1E K1) (blockQ 0 (thenQ (acpt P od (panicR R) (.code (sR (sR (sR (sR (sR (sR (body)))))))) (bodyQ P fn R)) (bodyQ P fn R))))) (thenQ (l1E K1) (blockQ 0 (thenQ (acpt P od (panicR R) (.code (sR (sR (sR (sR (sR (sR (body)))))))) (bodyQ P fn R)) (bodyQ P fn R))))))) (blockQ 1 (thenQ (acpt P od (panicR R) (.code (sR (sR (lP (bB (sR (sL (sR (sR (sR (sR (sR (body))))))))))))) (thenQ (l1E K1) (blockQ 0 (thenQ (acpt P od (panicR R) (.code (sR (sR (sR (sR (sR (sR (body)))))))) (bodyQ P fn R)) (bodyQ P fn R))))) (thenQ (l1E K1) (blockQ 0 (thenQ (acpt P od (panicR R) (.code (sR (sR (sR (sR (sR (sR (body)))))))) (bodyQ P fn R)) (bodyQ P fn R)))))))))) (thenQ (l2E K2) (blockQ 2 (thenQ (acpt P od (panicR R) (.cut (k4E fun x0a x0l x0c x1a x1l x1c x5 x6a x6l x6c x7 x10a x10l x10c m => k4 K1 x0a x0l x0c x1a x1l x1c x5 x6a x6l x6c x7 x10a x10l x10c R m) (sR (sR (sR (sR (sR (sR (sR (sR (bB (sL (sR (lP (bB (sR (sL (sR (sR (sR (sR (sR (body)))))))))))))))))))))) (blockQ 1 (thenQ (acpt P od (panicR R) (.code (sR (sR (lP (bB (sR (sL (sR (sR (sR (sR (sR (body))))))))))))) (thenQ (l1E K1) (blockQ 0 (thenQ (acpt P od (panicR R) (.code (sR (sR (sR (sR (sR (sR (body)))))))) (bodyQ P fn R)) (bodyQ P fn R))))) (thenQ (l1E K1) (blockQ 0 (thenQ (acpt P od (panicR R) (.code (sR (sR (sR (sR (sR (sR (body)))))))) (bodyQ P fn R)) (bodyQ P fn R))))))) (blockQ 1 (thenQ (acpt P od (panicR R) (.code (sR (sR (lP (bB (sR (sL (sR (sR (sR (sR (sR (body))))))))))))) (thenQ (l1E K1) (blockQ 0 (thenQ (acpt P od (panicR R) (.code (sR (sR (sR (sR (sR (sR (body)))))))) (bodyQ P fn R)) (bodyQ P fn R))))) (thenQ (l1E K1) (blockQ 0 (thenQ (acpt P od (panicR R) (.code (sR (sR (sR (sR (sR (sR (body)))))))) (bodyQ P fn R)) (bodyQ P fn R))))))))))) ρ m := by
  unfold k3E at h
  obtain ⟨x0a, x0l, x0c, e0, h⟩ := h.ex
  obtain ⟨x1a, x1l, x1c, e1, h⟩ := h.ex
  obtain ⟨x5, e5, h⟩ := h.ex
  obtain ⟨x6a, x6l, x6c, e6, h⟩ := h.ex
  obtain ⟨x7, e7, h⟩ := h.ex
  obtain ⟨x10a, x10l, x10c, e10, h⟩ := h.ex
  obtain ⟨x11a, x11l, x11c, e11, h⟩ := h.ex
  obtain ⟨x12a, x12l, x12c, e12, h⟩ := h.ex
  obtain ⟨x13, e13, h⟩ := h.ex
  obtain ⟨x14a, x14l, x14c, e14, h⟩ := h.ex
  rw [← upd_self e0, ← upd_self e1, ← upd_self e5, ← upd_self e6, ← upd_self e7, ← upd_self e10, ← upd_self e11, ← upd_self e12, ← upd_self e13, ← upd_self e14]
  rw [← k3_er K1 K2 R]
  refine acpt_sound (P := P) (k3A K1 K2 R) _ _ _ True.intro ?_
  exact Eq.mp (k3_eq K1 K2 R x0a x0l x0c x1a x1l x1c x5 x6a x6l x6c x7 x10a x10l x10c x11a x11l x11c x12a x12l x12c x13 x14a x14l x14c ρ m) h
theorem k4_eq (K1 : Option Addr → Nat → Nat → Option Addr → Nat → Nat → Option Addr → Option Addr → Nat → Nat → Int → Mem → Prop) (R : Ending → Mem → Prop) (x0a : Option Addr) (x0l : Nat) (x0c : Nat) (x1a : Option Addr) (x1l : Nat) (x1c : Nat) (x5 : Option Addr) (x6a : Option Addr) (x6l : Nat) (x6c : Nat) (x7 : Int) (x10a : Option Addr) (x10l : Nat) (x10c : Nat) (ρ : Env) (m : Mem) : k4 K1 x0a x0l x0c x1a x1l x1c x5 x6a x6l x6c x7 x10a x10l x10c R m = acpt P od (panicR R) (k4A K1 R) (blockQ 1 (thenQ (acpt P od (panicR R) (.code (sR (sR (lP (bB (sR (sL (sR (sR (sR (sR (sR (body))))))))))))) (thenQ (l1E K1) (blockQ 0 (thenQ (acpt P od (panicR R) (.code (sR (sR (sR (sR (sR (sR (body)))))))) (bodyQ P fn R)) (bodyQ P fn R))))) (thenQ (l1E K1) (blockQ 0 (thenQ (acpt P od (panicR R) (.code (sR (sR (sR (sR (sR (sR (body)))))))) (bodyQ P fn R)) (bodyQ P fn R)))))) (upd (upd (upd (upd (upd (upd ρ 10 (.slice x10a x10l x10c)) 7 (.int .i64 x7)) 6 (.slice x6a x6l x6c)) 5 (.pointer x5)) 1 (.slice x1a x1l x1c)) 0 (.slice x0a x0l x0c)) m := by kernel_rfl
theorem k4_er (K1 : Option Addr → Nat → Nat → Option Addr → Nat → Nat → Option Addr → Option Addr → Nat → Nat → Int → Mem → Prop) (R : Ending → Mem → Prop) : (k4A K1 R).erase = sR (sR (sR (sR (sR (sR (sR (sR (bB (sL (sR (lP (bB (sR (sL (sR (sR (sR (sR (sR (body)))))))))))))))))))) := by kernel_rfl
theorem k4_ok (K1 : Option Addr → Nat → Nat → Option Addr → Nat → Nat → Option Addr → Option Addr → Nat → Nat → Int → Mem → Prop) (R : Ending → Mem → Prop) (ρ : Env) (m : Mem) (h : (k4E fun x0a x0l x0c x1a x1l x1c x5 x6a x6l x6c x7 x10a x10l x10c m => k4 K1 x0a x0l x0c x1a x1l x1c x5 x6a x6l x6c x7 x10a x10l x10c R m) ρ m) : cpt P od (panicR R) (sR (sR (sR (sR (sR (sR (sR (sR (bB (sL (sR (lP (bB (sR (sL (sR (sR (sR (sR (sR (body))))))))))))))))))))) (blockQ 1 (thenQ (acpt P od (panicR R) (.code (sR (sR (lP (bB (sR (sL (sR (sR (sR (sR (sR (body))))))))))))) (thenQ (l1E K1) (blockQ 0 (thenQ (acpt P od (panicR R) (.code (sR (sR (sR (sR (sR (sR (body)))))))) (bodyQ P fn R)) (bodyQ P fn R))))) (thenQ (l1E K1) (blockQ 0 (thenQ (acpt P od (panicR R) (.code (sR (sR (sR (sR (sR (sR (body)))))))) (bodyQ P fn R)) (bodyQ P fn R)))))) ρ m := by
  unfold k4E at h
  obtain ⟨x0a, x0l, x0c, e0, h⟩ := h.ex
  obtain ⟨x1a, x1l, x1c, e1, h⟩ := h.ex
  obtain ⟨x5, e5, h⟩ := h.ex
  obtain ⟨x6a, x6l, x6c, e6, h⟩ := h.ex
  obtain ⟨x7, e7, h⟩ := h.ex
  obtain ⟨x10a, x10l, x10c, e10, h⟩ := h.ex
  rw [← upd_self e0, ← upd_self e1, ← upd_self e5, ← upd_self e6, ← upd_self e7, ← upd_self e10]
  rw [← k4_er K1 R]
  refine acpt_sound (P := P) (k4A K1 R) _ _ _ True.intro ?_
  exact Eq.mp (k4_eq K1 R x0a x0l x0c x1a x1l x1c x5 x6a x6l x6c x7 x10a x10l x10c ρ m) h
theorem l2_eq (K1 : Option Addr → Nat → Nat → Option Addr → Nat → Nat → Option Addr → Option Addr → Nat → Nat → Int → Mem → Prop) (K2 : Option Addr → Nat → Nat → Option Addr → Nat → Nat → Option Addr → Option Addr → Nat → Nat → Int → Option Addr → Nat → Nat → Option Addr → Nat → Nat → Option Addr → Nat → Nat → Int → Mem → Prop) (R : Ending → Mem → Prop) (x0a : Option Addr) (x0l : Nat) (x0c : Nat) (x1a : Option Addr) (x1l : Nat) (x1c : Nat) (x5 : Option Addr) (x6a : Option Addr) (x6l : Nat) (x6c : Nat) (x7 : Int) (x10a : Option Addr) (x10l : Nat) (x10c : Nat) (x11a : Option Addr) (x11l : Nat) (x11c : Nat) (x12a : Option Addr) (x12l : Nat) (x12c : Nat) (x13 : Int) (ρ : Env) (m : Mem) : l2B K1 K2 x0a x0l x0c x1a x1l x1c x5 x6a x6l x6c x7 x10a x10l x10c x11a x11l x11c x12a x12l x12c x13 R m = acpt P od (panicR R) (l2A K1 K2 R) (thenQ (l2E K2) (blockQ 2 (thenQ (acpt P od (panicR R) (.cut (k4E fun x0a x0l x0c x1a x1l x1c x5 x6a x6l x6c x7 x10a x10l x10c m => k4 K1 x0a x0l x0c x1a x1l x1c x5 x6a x6l x6c x7 x10a x10l x10c R m) (sR (sR (sR (sR (sR (sR (sR (sR (bB (sL (sR (lP (bB (sR (sL (sR (sR (sR (sR (sR (body)))))))))))))))))))))) (blockQ 1 (thenQ (acpt P od (panicR R) (.code (sR (sR (lP (bB (sR (sL (sR (sR (sR (sR (sR (body))))))))))))) (thenQ (l1E K1) (blockQ 0 (thenQ (acpt P od (panicR R) (.code (sR (sR (sR (sR (sR (sR (body)))))))) (bodyQ P fn R)) (bodyQ P fn R))))) (thenQ (l1E K1) (blockQ 0 (thenQ (acpt P od (panicR R) (.code (sR (sR (sR (sR (sR (sR (body)))))))) (bodyQ P fn R)) (bodyQ P fn R))))))) (blockQ 1 (thenQ (acpt P od (panicR R) (.code (sR (sR (lP (bB (sR (sL (sR (sR (sR (sR (sR (body))))))))))))) (thenQ (l1E K1) (blockQ 0 (thenQ (acpt P od (panicR R) (.code (sR (sR (sR (sR (sR (sR (body)))))))) (bodyQ P fn R)) (bodyQ P fn R))))) (thenQ (l1E K1) (blockQ 0 (thenQ (acpt P od (panicR R) (.code (sR (sR (sR (sR (sR (sR (body)))))))) (bodyQ P fn R)) (bodyQ P fn R))))))))) (upd (upd (upd (upd (upd (upd (upd (upd (upd ρ 13 (.int .i64 x13)) 12 (.slice x12a x12l x12c)) 11 (.slice x11a x11l x11c)) 10 (.slice x10a x10l x10c)) 7 (.int .i64 x7)) 6 (.slice x6a x6l x6c)) 5 (.pointer x5)) 1 (.slice x1a x1l x1c)) 0 (.slice x0a x0l x0c)) m := by kernel_rfl
theorem l2_er (K1 : Option Addr → Nat → Nat → Option Addr → Nat → Nat → Option Addr → Option Addr → Nat → Nat → Int → Mem → Prop) (K2 : Option Addr → Nat → Nat → Option Addr → Nat → Nat → Option Addr → Option Addr → Nat → Nat → Int → Option Addr → Nat → Nat → Option Addr → Nat → Nat → Option Addr → Nat → Nat → Int → Mem → Prop) (R : Ending → Mem → Prop) : (l2A K1 K2 R).erase = lP (bB (sR (sL (sR (sR (sR (sR (sR (sR (sR (bB (sL (sR (lP (bB (sR (sL (sR (sR (sR (sR (sR (body))))))))))))))))))))))) := by kernel_rfl
theorem l2_ok (K1 : Option Addr → Nat → Nat → Option Addr → Nat → Nat → Option Addr → Option Addr → Nat → Nat → Int → Mem → Prop) (R : Ending → Mem → Prop) (ρ : Env) (m : Mem) (h : (l2E fun x0a x0l x0c x1a x1l x1c x5 x6a x6l x6c x7 x10a x10l x10c x11a x11l x11c x12a x12l x12c x13 m => l2 K1 x0a x0l x0c x1a x1l x1c x5 x6a x6l x6c x7 x10a x10l x10c x11a x11l x11c x12a x12l x12c x13 R m) ρ m) : cpt P od (panicR R) (.loop (lP (bB (sR (sL (sR (sR (sR (sR (sR (sR (sR (bB (sL (sR (lP (bB (sR (sL (sR (sR (sR (sR (sR (body))))))))))))))))))))))))) (blockQ 2 (thenQ (acpt P od (panicR R) (.cut (k4E fun x0a x0l x0c x1a x1l x1c x5 x6a x6l x6c x7 x10a x10l x10c m => k4 K1 x0a x0l x0c x1a x1l x1c x5 x6a x6l x6c x7 x10a x10l x10c R m) (sR (sR (sR (sR (sR (sR (sR (sR (bB (sL (sR (lP (bB (sR (sL (sR (sR (sR (sR (sR (body)))))))))))))))))))))) (blockQ 1 (thenQ (acpt P od (panicR R) (.code (sR (sR (lP (bB (sR (sL (sR (sR (sR (sR (sR (body))))))))))))) (thenQ (l1E K1) (blockQ 0 (thenQ (acpt P od (panicR R) (.code (sR (sR (sR (sR (sR (sR (body)))))))) (bodyQ P fn R)) (bodyQ P fn R))))) (thenQ (l1E K1) (blockQ 0 (thenQ (acpt P od (panicR R) (.code (sR (sR (sR (sR (sR (sR (body)))))))) (bodyQ P fn R)) (bodyQ P fn R))))))) (blockQ 1 (thenQ (acpt P od (panicR R) (.code (sR (sR (lP (bB (sR (sL (sR (sR (sR (sR (sR (body))))))))))))) (thenQ (l1E K1) (blockQ 0 (thenQ (acpt P od (panicR R) (.code (sR (sR (sR (sR (sR (sR (body)))))))) (bodyQ P fn R)) (bodyQ P fn R))))) (thenQ (l1E K1) (blockQ 0 (thenQ (acpt P od (panicR R) (.code (sR (sR (sR (sR (sR (sR (body)))))))) (bodyQ P fn R)) (bodyQ P fn R)))))))) ρ m := by
  unfold l2E at h
  obtain ⟨x0a, x0l, x0c, e0, h⟩ := h.ex
  obtain ⟨x1a, x1l, x1c, e1, h⟩ := h.ex
  obtain ⟨x5, e5, h⟩ := h.ex
  obtain ⟨x6a, x6l, x6c, e6, h⟩ := h.ex
  obtain ⟨x7, e7, h⟩ := h.ex
  obtain ⟨x10a, x10l, x10c, e10, h⟩ := h.ex
  obtain ⟨x11a, x11l, x11c, e11, h⟩ := h.ex
  obtain ⟨x12a, x12l, x12c, e12, h⟩ := h.ex
  obtain ⟨x13, e13, h⟩ := h.ex
  obtain ⟨I, N, h0, hs⟩ := h
  refine ⟨fun N => l2E (I N), N, (by show l2E (I N) ρ m; unfold l2E; rw [e0, e1, e5, e6, e7, e10, e11, e12, e13]; exact h0), ?_⟩
  clear h0 e0 e1 e5 e6 e7 e10 e11 e12 e13
  intro N ρ m h
  unfold l2E at h
  obtain ⟨x0a, x0l, x0c, e0, h⟩ := h.ex
  obtain ⟨x1a, x1l, x1c, e1, h⟩ := h.ex
  obtain ⟨x5, e5, h⟩ := h.ex
  obtain ⟨x6a, x6l, x6c, e6, h⟩ := h.ex
  obtain ⟨x7, e7, h⟩ := h.ex
  obtain ⟨x10a, x10l, x10c, e10, h⟩ := h.ex
  obtain ⟨x11a, x11l, x11c, e11, h⟩ := h.ex
  obtain ⟨x12a, x12l, x12c, e12, h⟩ := h.ex
  obtain ⟨x13, e13, h⟩ := h.ex
  refine cpt_mono (P := P) (lP (bB (sR (sL (sR (sR (sR (sR (sR (sR (sR (bB (sL (sR (lP (bB (sR (sL (sR (sR (sR (sR (sR (body)))))))))))))))))))))))) (Q := thenQ (l2E fun x0a x0l x0c x1a x1l x1c x5 x6a x6l x6c x7 x10a x10l x10c x11a x11l x11c x12a x12l x12c x13 m => ∃ N1, N1 < N ∧ I N1 x0a x0l x0c x1a x1l x1c x5 x6a x6l x6c x7 x10a x10l x10c x11a x11l x11c x12a x12l x12c x13 m) (blockQ 2 (thenQ (acpt P od (panicR R) (.cut (k4E fun x0a x0l x0c x1a x1l x1c x5 x6a x6l x6c x7 x10a x10l x10c m => k4 K1 x0a x0l x0c x1a x1l x1c x5 x6a x6l x6c x7 x10a x10l x10c R m) (sR (sR (sR (sR (sR (sR (sR (sR (bB (sL (sR (lP (bB (sR (sL (sR (sR (sR (sR (sR (body)))))))))))))))))))))) (blockQ 1 (thenQ (acpt P od (panicR R) (.code (sR (sR (lP (bB (sR (sL (sR (sR (sR (sR (sR (body))))))))))))) (thenQ (l1E K1) (blockQ 0 (thenQ (acpt P od (panicR R) (.code (sR (sR (sR (sR (sR (sR (body)))))))) (bodyQ P fn R)) (bodyQ P fn R))))) (thenQ (l1E K1) (blockQ 0 (thenQ (acpt P od (panicR R) (.code (sR (sR (sR (sR (sR (sR (body)))))))) (bodyQ P fn R)) (bodyQ P fn R))))))) (blockQ 1 (thenQ (acpt P od (panicR R) (.code (sR (sR (lP (bB (sR (sL (sR (sR (sR (sR (sR (body))))))))))))) (thenQ (l1E K1) (blockQ 0 (thenQ (acpt P od (panicR R) (.code (sR (sR (sR (sR (sR (sR (body)))))))) (bodyQ P fn R)) (bodyQ P fn R))))) (thenQ (l1E K1) (blockQ 0 (thenQ (acpt P od (panicR R) (.code (sR (sR (sR (sR (sR (sR (body)))))))) (bodyQ P fn R)) (bodyQ P fn R))))))))) (fun e ρ m h => ?_) ρ m ?_
  · cases e with
    | normal =>
      have h : l2E (fun x0a x0l x0c x1a x1l x1c x5 x6a x6l x6c x7 x10a x10l x10c x11a x11l x11c x12a x12l x12c x13 m => ∃ N1, N1 < N ∧ I N1 x0a x0l x0c x1a x1l x1c x5 x6a x6l x6c x7 x10a x10l x10c x11a x11l x11c x12a x12l x12c x13 m) ρ m := h
      unfold l2E at h
      obtain ⟨x0a, x0l, x0c, e0, h⟩ := h.ex
      obtain ⟨x1a, x1l, x1c, e1, h⟩ := h.ex
      obtain ⟨x5, e5, h⟩ := h.ex
      obtain ⟨x6a, x6l, x6c, e6, h⟩ := h.ex
      obtain ⟨x7, e7, h⟩ := h.ex
      obtain ⟨x10a, x10l, x10c, e10, h⟩ := h.ex
      obtain ⟨x11a, x11l, x11c, e11, h⟩ := h.ex
      obtain ⟨x12a, x12l, x12c, e12, h⟩ := h.ex
      obtain ⟨x13, e13, h⟩ := h.ex
      obtain ⟨N1, hlt, h⟩ := h
      exact ⟨N1, hlt, (by show l2E (I N1) ρ m; unfold l2E; rw [e0, e1, e5, e6, e7, e10, e11, e12, e13]; exact h)⟩
    | _ => exact h
  have hh := hs N x0a x0l x0c x1a x1l x1c x5 x6a x6l x6c x7 x10a x10l x10c x11a x11l x11c x12a x12l x12c x13 m h
  generalize (fun x0a x0l x0c x1a x1l x1c x5 x6a x6l x6c x7 x10a x10l x10c x11a x11l x11c x12a x12l x12c x13 m => ∃ N1, N1 < N ∧ I N1 x0a x0l x0c x1a x1l x1c x5 x6a x6l x6c x7 x10a x10l x10c x11a x11l x11c x12a x12l x12c x13 m : Option Addr → Nat → Nat → Option Addr → Nat → Nat → Option Addr → Option Addr → Nat → Nat → Int → Option Addr → Nat → Nat → Option Addr → Nat → Nat → Option Addr → Nat → Nat → Int → Mem → Prop) = K2 at hh ⊢
  rw [← upd_self e0, ← upd_self e1, ← upd_self e5, ← upd_self e6, ← upd_self e7, ← upd_self e10, ← upd_self e11, ← upd_self e12, ← upd_self e13]
  rw [← l2_er K1 K2 R]
  refine acpt_sound (P := P) (l2A K1 K2 R) _ _ _ ⟨⟨True.intro, ⟨⟨(fun ρ m h => k3_ok K1 K2 R ρ m h), True.intro⟩, True.intro⟩⟩, True.intro⟩ ?_
  exact Eq.mp (l2_eq K1 K2 R x0a x0l x0c x1a x1l x1c x5 x6a x6l x6c x7 x10a x10l x10c x11a x11l x11c x12a x12l x12c x13 ρ m) hh
theorem l1_eq  (K1 : Option Addr → Nat → Nat → Option Addr → Nat → Nat → Option Addr → Option Addr → Nat → Nat → Int → Mem → Prop) (R : Ending → Mem → Prop) (x0a : Option Addr) (x0l : Nat) (x0c : Nat) (x1a : Option Addr) (x1l : Nat) (x1c : Nat) (x5 : Option Addr) (x6a : Option Addr) (x6l : Nat) (x6c : Nat) (x7 : Int) (ρ : Env) (m : Mem) : l1B  K1 x0a x0l x0c x1a x1l x1c x5 x6a x6l x6c x7 R m = acpt P od (panicR R) (l1A  K1 R) (thenQ (l1E K1) (blockQ 0 (thenQ (acpt P od (panicR R) (.code (sR (sR (sR (sR (sR (sR (body)))))))) (bodyQ P fn R)) (bodyQ P fn R)))) (upd (upd (upd (upd (upd ρ 7 (.int .i64 x7)) 6 (.slice x6a x6l x6c)) 5 (.pointer x5)) 1 (.slice x1a x1l x1c)) 0 (.slice x0a x0l x0c)) m := by kernel_rfl
theorem l1_er  (K1 : Option Addr → Nat → Nat → Option Addr → Nat → Nat → Option Addr → Option Addr → Nat → Nat → Int → Mem → Prop) (R : Ending → Mem → Prop) : (l1A  K1 R).erase = lP (bB (sR (sL (sR (sR (sR (sR (sR (body))))))))) := by kernel_rfl
theorem l1_ok  (R : Ending → Mem → Prop) (ρ : Env) (m : Mem) (h : (l1E fun x0a x0l x0c x1a x1l x1c x5 x6a x6l x6c x7 m => l1  x0a x0l x0c x1a x1l x1c x5 x6a x6l x6c x7 R m) ρ m) : cpt P od (panicR R) (.loop (lP (bB (sR (sL (sR (sR (sR (sR (sR (body))))))))))) (blockQ 0 (thenQ (acpt P od (panicR R) (.code (sR (sR (sR (sR (sR (sR (body)))))))) (bodyQ P fn R)) (bodyQ P fn R))) ρ m := by
  unfold l1E at h
  obtain ⟨x0a, x0l, x0c, e0, h⟩ := h.ex
  obtain ⟨x1a, x1l, x1c, e1, h⟩ := h.ex
  obtain ⟨x5, e5, h⟩ := h.ex
  obtain ⟨x6a, x6l, x6c, e6, h⟩ := h.ex
  obtain ⟨x7, e7, h⟩ := h.ex
  obtain ⟨I, N, h0, hs⟩ := h
  refine ⟨fun N => l1E (I N), N, (by show l1E (I N) ρ m; unfold l1E; rw [e0, e1, e5, e6, e7]; exact h0), ?_⟩
  clear h0 e0 e1 e5 e6 e7
  intro N ρ m h
  unfold l1E at h
  obtain ⟨x0a, x0l, x0c, e0, h⟩ := h.ex
  obtain ⟨x1a, x1l, x1c, e1, h⟩ := h.ex
  obtain ⟨x5, e5, h⟩ := h.ex
  obtain ⟨x6a, x6l, x6c, e6, h⟩ := h.ex
  obtain ⟨x7, e7, h⟩ := h.ex
  refine cpt_mono (P := P) (lP (bB (sR (sL (sR (sR (sR (sR (sR (body)))))))))) (Q := thenQ (l1E fun x0a x0l x0c x1a x1l x1c x5 x6a x6l x6c x7 m => ∃ N1, N1 < N ∧ I N1 x0a x0l x0c x1a x1l x1c x5 x6a x6l x6c x7 m) (blockQ 0 (thenQ (acpt P od (panicR R) (.code (sR (sR (sR (sR (sR (sR (body)))))))) (bodyQ P fn R)) (bodyQ P fn R)))) (fun e ρ m h => ?_) ρ m ?_
  · cases e with
    | normal =>
      have h : l1E (fun x0a x0l x0c x1a x1l x1c x5 x6a x6l x6c x7 m => ∃ N1, N1 < N ∧ I N1 x0a x0l x0c x1a x1l x1c x5 x6a x6l x6c x7 m) ρ m := h
      unfold l1E at h
      obtain ⟨x0a, x0l, x0c, e0, h⟩ := h.ex
      obtain ⟨x1a, x1l, x1c, e1, h⟩ := h.ex
      obtain ⟨x5, e5, h⟩ := h.ex
      obtain ⟨x6a, x6l, x6c, e6, h⟩ := h.ex
      obtain ⟨x7, e7, h⟩ := h.ex
      obtain ⟨N1, hlt, h⟩ := h
      exact ⟨N1, hlt, (by show l1E (I N1) ρ m; unfold l1E; rw [e0, e1, e5, e6, e7]; exact h)⟩
    | _ => exact h
  have hh := hs N x0a x0l x0c x1a x1l x1c x5 x6a x6l x6c x7 m h
  generalize (fun x0a x0l x0c x1a x1l x1c x5 x6a x6l x6c x7 m => ∃ N1, N1 < N ∧ I N1 x0a x0l x0c x1a x1l x1c x5 x6a x6l x6c x7 m : Option Addr → Nat → Nat → Option Addr → Nat → Nat → Option Addr → Option Addr → Nat → Nat → Int → Mem → Prop) = K1 at hh ⊢
  rw [← upd_self e0, ← upd_self e1, ← upd_self e5, ← upd_self e6, ← upd_self e7]
  rw [← l1_er  K1 R]
  refine acpt_sound (P := P) (l1A  K1 R) _ _ _ ⟨⟨True.intro, ⟨⟨⟨⟨⟨⟨⟨⟨(fun ρ m h => k4_ok K1 R ρ m h), ⟨(fun ρ m h => l2_ok K1 R ρ m h), True.intro⟩⟩, True.intro⟩, True.intro⟩, True.intro⟩, True.intro⟩, True.intro⟩, True.intro⟩, True.intro⟩⟩, True.intro⟩ ?_
  exact Eq.mp (l1_eq  K1 R x0a x0l x0c x1a x1l x1c x5 x6a x6l x6c x7 ρ m) hh
theorem e0_eq (a0a : Option Addr) (a0l : Nat) (a0c : Nat) (a1a : Option Addr) (a1l : Nat) (a1c : Nat) (R : Ending → Mem → Prop) (m : Mem) : e0 a0a a0l a0c a1a a1l a1c R m = acpt P od (panicR R) (e0A R) (bodyQ P fn R) (argE (#[.slice a0a a0l a0c, .slice a1a a1l a1c] : Array Value).toList) m := by kernel_rfl
theorem ok (a0a : Option Addr) (a0l : Nat) (a0c : Nat) (a1a : Option Addr) (a1l : Nat) (a1c : Nat) (R : Ending → Mem → Prop) (m : Mem) (h : e0 a0a a0l a0c a1a a1l a1c R m) : HC P id #[.slice a0a a0l a0c, .slice a1a a1l a1c] m R := by
  refine HC_of (fn := fn) (c := body) (od := od) (tb := tb) Go.Proofs.Try.func3 (by kernel_rfl) (by kernel_rfl) follows (by kernel_rfl) (of_decide_eq_true (by kernel_rfl)) ?_
  have he : (e0A R).erase = body := by kernel_rfl
  rw [← he]
  refine acpt_sound (P := P) (e0A R) _ _ _ ⟨⟨⟨⟨⟨⟨True.intro, ⟨(fun ρ m h => l1_ok  R ρ m h), True.intro⟩⟩, True.intro⟩, True.intro⟩, True.intro⟩, True.intro⟩, True.intro⟩ ?_
  exact Eq.mp (e0_eq a0a a0l a0c a1a a1l a1c R m) h
end eyotlaw6_PieceSpells

/-! ### eyot/eyotlaw6.PieceApart -/
namespace eyotlaw6_PieceApart
noncomputable def fn : Func := Go.Proofs.Try.f4
noncomputable def body : Code := fn.body.getD .skip
def od : Nat → Ord := fun _ => .done
def tb : Nat → Tab := fun _ => (0, [], [])
def e0 (a0 : Int) (a1 : Int) (a2a : Option Addr) (a2l : Nat) (a2c : Nat) (a3a : Option Addr) (a3l : Nat) (a3c : Nat) (R : Ending → Mem → Prop) (m : Mem) : Prop :=
  HC P eyotlaw6_begun.id #[] m (Cont (fun v m1 =>
      UnB v fun x17 =>
      Br (!x17) (
        R (.returned (.bool false)) m1) (
        Br (decide (((a2l : Nat) : Int) > 20)) (
          R (.returned (.bool true)) m1) (
          Br (decide (((a3l : Nat) : Int) > 20)) (
            R (.returned (.bool true)) m1) (
            HC P piece_New.id #[.int .i64 100] m1 (Cont (fun v m2 =>
                UnP v fun x34 =>
                HC P piece_New.id #[.int .i64 100] m2 (Cont (fun v m3 =>
                    UnP v fun x35 =>
                    HC P piece_Text_Edit.id #[.pointer x34, .int .i64 (Int.tmod (IntKind.i64.wrap a0) 40), .int .i64 (IntKind.i64.wrap ((Int.tmod (IntKind.i64.wrap a0) 40) + 5)), .slice a2a a2l a2c] m3 (Cont (fun v m4 =>
                        UnI v .i64 fun x41 =>
                        HC P piece_Text_Edit.id #[.pointer x34, .int .i64 (IntKind.i64.wrap ((IntKind.i64.wrap ((IntKind.i64.wrap (50 + (Int.tmod (IntKind.i64.wrap a1) 40))) + ((a2l : Nat) : Int))) - 5)), .int .i64 (IntKind.i64.wrap ((IntKind.i64.wrap ((IntKind.i64.wrap (50 + (Int.tmod (IntKind.i64.wrap a1) 40))) + ((a2l : Nat) : Int))) + 2)), .slice a3a a3l a3c] m4 (Cont (fun v m5 =>
                        UnI v .i64 fun x54 =>
                        HC P piece_Text_Edit.id #[.pointer x35, .int .i64 (IntKind.i64.wrap (50 + (Int.tmod (IntKind.i64.wrap a1) 40))), .int .i64 (IntKind.i64.wrap ((IntKind.i64.wrap (50 + (Int.tmod (IntKind.i64.wrap a1) 40))) + 7)), .slice a3a a3l a3c] m5 (Cont (fun v m6 =>
                        UnI v .i64 fun x60 =>
                        HC P piece_Text_Edit.id #[.pointer x35, .int .i64 (Int.tmod (IntKind.i64.wrap a0) 40), .int .i64 (IntKind.i64.wrap ((Int.tmod (IntKind.i64.wrap a0) 40) + 5)), .slice a2a a2l a2c] m6 (Cont (fun v m7 =>
                        UnI v .i64 fun x66 =>
                        Br (x41 != 0) (
                        R (.returned (.bool false)) m7) (
                        Br (x54 != 0) (
                        R (.returned (.bool false)) m7) (
                        Br (x60 != 0) (
                        R (.returned (.bool false)) m7) (
                        Br (x66 != 0) (
                        R (.returned (.bool false)) m7) (
                        HC P piece_Text_Len.id #[.pointer x34] m7 (Cont (fun v m8 =>
                        UnI v .i64 fun x83 =>
                        HC P piece_Text_Len.id #[.pointer x35] m8 (Cont (fun v m9 =>
                        UnI v .i64 fun x85 =>
                        Br (x83 != x85) (
                        R (.returned (.bool false)) m9) (
                        HC P eyotlaw6_spell.id #[.pointer x34] m9 (Cont (fun v m10 =>
                        UnStr v fun x89 =>
                        HC P eyotlaw6_spell.id #[.pointer x35] m10 (Cont (fun v m11 =>
                        UnStr v fun x91 =>
                        R (.returned (.bool (x89.toList == x91.toList))) m11) (panicR R))) (panicR R)))) (panicR R))) (panicR R))))))) (panicR R))) (panicR R))) (panicR R))) (panicR R))) (panicR R))) (panicR R)))))) (panicR R))
noncomputable def e0A (R : Ending → Mem → Prop) : ACode := (.code (body))
theorem e0_eq (a0 : Int) (a1 : Int) (a2a : Option Addr) (a2l : Nat) (a2c : Nat) (a3a : Option Addr) (a3l : Nat) (a3c : Nat) (R : Ending → Mem → Prop) (m : Mem) : e0 a0 a1 a2a a2l a2c a3a a3l a3c R m = acpt P od (panicR R) (e0A R) (bodyQ P fn R) (argE (#[.int .u8 a0, .int .u8 a1, .slice a2a a2l a2c, .slice a3a a3l a3c] : Array Value).toList) m := by kernel_rfl
theorem ok (a0 : Int) (a1 : Int) (a2a : Option Addr) (a2l : Nat) (a2c : Nat) (a3a : Option Addr) (a3l : Nat) (a3c : Nat) (R : Ending → Mem → Prop) (m : Mem) (h : e0 a0 a1 a2a a2l a2c a3a a3l a3c R m) : HC P id #[.int .u8 a0, .int .u8 a1, .slice a2a a2l a2c, .slice a3a a3l a3c] m R := by
  refine HC_of (fn := fn) (c := body) (od := od) (tb := tb) Go.Proofs.Try.func4 (by kernel_rfl) (by kernel_rfl) follows (by kernel_rfl) (of_decide_eq_true (by kernel_rfl)) ?_
  have he : (e0A R).erase = body := by kernel_rfl
  rw [← he]
  refine acpt_sound (P := P) (e0A R) _ _ _ True.intro ?_
  exact Eq.mp (e0_eq a0 a1 a2a a2l a2c a3a a3l a3c R m) h
end eyotlaw6_PieceApart

/-! ### eyot/eyotlaw6.PieceFinds -/
namespace eyotlaw6_PieceFinds
noncomputable def fn : Func := Go.Proofs.Try.f5
noncomputable def body : Code := fn.body.getD .skip
def od : Nat → Ord := fun | 11 => ordL [(0, 3), (1, 3), (2, 3), (3, 3), (4, 1), (5, 3), (6, 0), (7, 3), (8, 2), (9, 3)] .done | 12 => ordL [(0, 3), (1, 3), (2, 3), (3, 3), (4, 3), (5, 3), (6, 3), (7, 1), (8, 3), (10, 3), (15, 3), (16, 3), (17, 3), (18, 3), (19, 1), (9, 0), (11, 3), (12, 3), (13, 0), (14, 3), (20, 2)] .done | _ => .done
def tb : Nat → Tab := fun | 11 => (256, [0, 0, 3, 7, 15, 0, 32, 96, 255, 511], [(0, 2, 40), (0, 64, 41), (3, 1649267441664, 42), (4, 2199023255552, 43), (8, 4398046511104, 44), (0, 32, 45), (32, 17592186044416, 46), (64, 35184372088832, 47), (208, 79164837199872, 48), (511, 140737488355328, 8)]) | 12 => (1048576, [0, 0, 0, 0, 0, 24, 56, 120, 0, 256, 0, 1792, 3840, 8184, 16380, 0, 0, 98304, 229376, 491520, 1048575], [(0, 32, 49), (0, 128, 50), (0, 128, 51), (0, 2, 52), (0, 64, 53), (24, 6755399441055744, 54), (32, 9007199254740992, 55), (64, 18014398509481984, 56), (0, 32, 57), (256, 72057594037927936, 58), (0, 128, 59), (1536, 432345564227567616, 60), (2048, 576460752303423488, 61), (4736, 1188950301625810944, 62), (8196, 2306968909120536576, 63), (0, 2, 64), (0, 64, 65), (98304, 27670116110564327424, 66), (131072, 36893488147419103232, 67), (262144, 73786976294838206464, 68), (548867, 152186483033033932800, 69)]) | _ => (0, [], [])
def l4E (K : Option Addr → Option Addr → Nat → Nat → Int → Int → Int → Mem → Prop) : Env → Mem → Prop := fun ρ m => UnP (ρ 5) fun x5 => UnS (ρ 8) fun x8a x8l x8c => UnI (ρ 9) .i64 fun x9 => UnI (ρ 10) .i64 fun x10 => UnI (ρ 11) .i64 fun x11 => K x5 x8a x8l x8c x9 x10 x11 m
def l4B (K3 : Option Addr → Option Addr → Nat → Nat → Int → Int → Mem → Prop) (K4 : Option Addr → Option Addr → Nat → Nat → Int → Int → Int → Mem → Prop) (x5 : Option Addr) (x8a : Option Addr) (x8l : Nat) (x8c : Nat) (x9 : Int) (x10 : Int) (x11 : Int) (R : Ending → Mem → Prop) (m : Mem) : Prop :=
  IxS x8a x8l x10 3 fun x85b x85o =>
  LdV m x85b (x85o + 2) fun v =>
  UnI v .i64 fun x87 =>
  Br (decide (x11 < x87)) (
    HC P piece_Text_Find.id #[.pointer x5, .int .i64 x9] m (Cont (fun v m1 =>
        UnTup v fun us0 =>
        UnCons us0 fun w us1 =>
        UnI w .i64 fun x94_0 =>
        UnCons us1 fun w us2 =>
        UnI w .i64 fun x94_1 =>
        UnCons us2 fun w us3 =>
        UnI w .i64 fun x94_2 =>
        UnNil us3 (
          Br (x94_2 != 0) (
            R (.returned (.bool false)) m1) (
            Br (x94_0 != x10) (
              R (.returned (.bool false)) m1) (
              IxS x8a x8l x10 3 fun x110b x110o =>
              LdV m1 x110b (x110o + 1) fun v =>
              UnI v .i64 fun x112 =>
              Br (x94_1 != (IntKind.i64.wrap (x11 - x112))) (
                R (.returned (.bool false)) m1) (
                K4 x5 x8a x8l x8c (IntKind.i64.wrap (x9 + 1)) x10 (IntKind.i64.wrap (x11 + 1)) m1))))) (panicR R))) (
    K3 x5 x8a x8l x8c x9 (IntKind.i64.wrap (x10 + 1)) m)
def l4 (K3 : Option Addr → Option Addr → Nat → Nat → Int → Int → Mem → Prop) (x5 : Option Addr) (x8a : Option Addr) (x8l : Nat) (x8c : Nat) (x9 : Int) (x10 : Int) (x11 : Int) (R : Ending → Mem → Prop) (m : Mem) : Prop :=
  ∃ (I : Nat → Option Addr → Option Addr → Nat → Nat → Int → Int → Int → Mem → Prop) (N : Nat), I N x5 x8a x8l x8c x9 x10 x11 m ∧ ∀ N x5 x8a x8l x8c x9 x10 x11 m, I N x5 x8a x8l x8c x9 x10 x11 m → l4B K3 (fun x5 x8a x8l x8c x9 x10 x11 m => ∃ N1, N1 < N ∧ I N1 x5 x8a x8l x8c x9 x10 x11 m) x5 x8a x8l x8c x9 x10 x11 R m
noncomputable def l4A (K3 : Option Addr → Option Addr → Nat → Nat → Int → Int → Mem → Prop) (K4 : Option Addr → Option Addr → Nat → Nat → Int → Int → Int → Mem → Prop) (R : Ending → Mem → Prop) : ACode := (.code (lP (bB (sR (bB (sL (sR (lP (bB (sR (sL (sR (sR (sR (sR (sR (sR (sR (body)))))))))))))))))))
def k5E (K : Option Addr → Int → Mem → Prop) : Env → Mem → Prop := fun ρ m => UnP (ρ 5) fun x5 => UnI (ρ 9) .i64 fun x9 => K x5 x9 m
def k5  (x5 : Option Addr) (x9 : Int) (R : Ending → Mem → Prop) (m : Mem) : Prop :=
  HC P piece_Text_Find.id #[.pointer x5, .int .i64 x9] m (Cont (fun v m1 =>
      UnTup v fun us0 =>
      UnCons us0 fun w us1 =>
      UnI w .i64 fun x121_0 =>
      UnCons us1 fun w us2 =>
      UnI w .i64 fun x121_1 =>
      UnCons us2 fun w us3 =>
      UnI w .i64 fun x121_2 =>
      UnNil us3 (
        HC P piece_Text_Len.id #[.pointer x5] m1 (Cont (fun v m2 =>
            UnI v .i64 fun x127 =>
            Br (x9 == x127) (
              R (.returned (.bool (x121_2 == 1))) m2) (
              R (.returned (.bool false)) m2)) (panicR R)))) (panicR R))
noncomputable def k5A  (R : Ending → Mem → Prop) : ACode := (.code (sR (sR (sR (sR (sR (sR (sR (sR (body))))))))))
def l3E (K : Option Addr → Option Addr → Nat → Nat → Int → Int → Mem → Prop) : Env → Mem → Prop := fun ρ m => UnP (ρ 5) fun x5 => UnS (ρ 8) fun x8a x8l x8c => UnI (ρ 9) .i64 fun x9 => UnI (ρ 10) .i64 fun x10 => K x5 x8a x8l x8c x9 x10 m
def l3B  (K3 : Option Addr → Option Addr → Nat → Nat → Int → Int → Mem → Prop) (x5 : Option Addr) (x8a : Option Addr) (x8l : Nat) (x8c : Nat) (x9 : Int) (x10 : Int) (R : Ending → Mem → Prop) (m : Mem) : Prop :=
  Br (decide (x10 < ((x8l : Nat) : Int))) (
    IxS x8a x8l x10 3 fun x79b x79o =>
    LdV m x79b (x79o + 1) fun v =>
    UnI v .i64 fun x81 =>
    l4 K3 x5 x8a x8l x8c x9 x10 x81 R m) (
    k5  x5 x9 R m)
def l3  (x5 : Option Addr) (x8a : Option Addr) (x8l : Nat) (x8c : Nat) (x9 : Int) (x10 : Int) (R : Ending → Mem → Prop) (m : Mem) : Prop :=
  ∃ (I : Nat → Option Addr → Option Addr → Nat → Nat → Int → Int → Mem → Prop) (N : Nat), I N x5 x8a x8l x8c x9 x10 m ∧ ∀ N x5 x8a x8l x8c x9 x10 m, I N x5 x8a x8l x8c x9 x10 m → l3B  (fun x5 x8a x8l x8c x9 x10 m => ∃ N1, N1 < N ∧ I N1 x5 x8a x8l x8c x9 x10 m) x5 x8a x8l x8c x9 x10 R m
noncomputable def l3A  (K3 : Option Addr → Option Addr → Nat → Nat → Int → Int → Mem → Prop) (R : Ending → Mem → Prop) : ACode := (.seq (.code (sL (lP (bB (sR (sL (sR (sR (sR (sR (sR (sR (sR (body)))))))))))))) (.seq (.block 3 (.seq (.code (sL (bB (sL (sR (lP (bB (sR (sL (sR (sR (sR (sR (sR (sR (sR (body))))))))))))))))) (.block 4 (.cut (l4E fun x5 x8a x8l x8c x9 x10 x11 m => l4 K3 x5 x8a x8l x8c x9 x10 x11 R m) (.loop (lP (bB (sR (bB (sL (sR (lP (bB (sR (sL (sR (sR (sR (sR (sR (sR (sR (body))))))))))))))))))))))) (.code (sR (sR (lP (bB (sR (sL (sR (sR (sR (sR (sR (sR (sR (body)))))))))))))))))
def k2E (K : Option Addr → Mem → Prop) : Env → Mem → Prop := fun ρ m => UnP (ρ 5) fun x5 => K x5 m
def k2  (x5 : Option Addr) (R : Ending → Mem → Prop) (m : Mem) : Prop :=
  HC P piece_Text_Pieces.id #[.pointer x5] m (Cont (fun v m1 =>
      UnS v fun x70a x70l x70c =>
      l3  x5 x70a x70l x70c 0 0 R m1) (panicR R))
noncomputable def k2A  (R : Ending → Mem → Prop) : ACode := (.seq (.code (sL (sR (sR (sR (sR (sR (body)))))))) (.seq (.code (sL (sR (sR (sR (sR (sR (sR (body))))))))) (.seq (.seq (.code (sL (sL (sR (sR (sR (sR (sR (sR (sR (body))))))))))) (.block 2 (.cut (l3E fun x5 x8a x8l x8c x9 x10 m => l3  x5 x8a x8l x8c x9 x10 R m) (.loop (lP (bB (sR (sL (sR (sR (sR (sR (sR (sR (sR (body)))))))))))))))) (.cut (k5E fun x5 x9 m => k5  x5 x9 R m) (sR (sR (sR (sR (sR (sR (sR (sR (body)))))))))))))
def l1E (K : Option Addr → Nat → Nat → Option Addr → Int → Mem → Prop) : Env → Mem → Prop := fun ρ m => UnS (ρ 1) fun x1a x1l x1c => UnP (ρ 5) fun x5 => UnI (ρ 6) .i64 fun x6 => K x1a x1l x1c x5 x6 m
def l1B  (K1 : Option Addr → Nat → Nat → Option Addr → Int → Mem → Prop) (x1a : Option Addr) (x1l : Nat) (x1c : Nat) (x5 : Option Addr) (x6 : Int) (R : Ending → Mem → Prop) (m : Mem) : Prop :=
  Br (decide (x6 < ((x1l : Nat) : Int))) (
    IxS x1a x1l x6 4 fun x34b x34o =>
    LdV m x34b (x34o + 2) fun v =>
    UnS v fun x36a x36l x36c =>
    Br (decide (((x36l : Nat) : Int) > 30)) (
      R (.returned (.bool true)) m) (
      Sub m fun r1 =>
      IxS x1a x1l x6 4 fun x41b x41o =>
      LdV r1 x41b x41o fun v =>
      UnI v .i64 fun x43 =>
      HC P piece_Text_Len.id #[.pointer x5] m (Cont (fun v m2 =>
          UnI v .i64 fun x45 =>
          Lk r1 m2 fun r3 =>
          HC P eyotlaw0_Place.id #[.int .i64 x43, .int .i64 (IntKind.i64.wrap (x45 + 1))] m2 (Cont (fun v m4 =>
              UnI v .i64 fun x47 =>
              Sub m4 fun r5 =>
              IxS x1a x1l x6 4 fun x53b x53o =>
              LdV r5 x53b (x53o + 1) fun v =>
              UnI v .i64 fun x55 =>
              IxS x1a x1l x6 4 fun x65b x65o =>
              LdV r5 x65b (x65o + 2) fun v =>
              UnS v fun x67a x67l x67c =>
              HC P piece_Text_Len.id #[.pointer x5] m4 (Cont (fun v m6 =>
                  UnI v .i64 fun x57 =>
                  Lk r5 m6 fun r7 =>
                  HC P eyotlaw0_Place.id #[.int .i64 x55, .int .i64 (IntKind.i64.wrap ((IntKind.i64.wrap (x57 - x47)) + 1))] m6 (Cont (fun v m8 =>
                      UnI v .i64 fun x61 =>
                      Lk r7 m8 fun r9 =>
                      HC P piece_Text_Edit.id #[.pointer x5, .int .i64 x47, .int .i64 (IntKind.i64.wrap (x47 + x61)), .slice x67a x67l x67c] m8 (Cont (fun v m10 =>
                        UnI v .i64 fun x68 =>
                        K1 x1a x1l x1c x5 (IntKind.i64.wrap (x6 + 1)) m10) (panicR R))) (panicR R))) (panicR R))) (panicR R))) (panicR R)))) (
    k2  x5 R m)
def l1  (x1a : Option Addr) (x1l : Nat) (x1c : Nat) (x5 : Option Addr) (x6 : Int) (R : Ending → Mem → Prop) (m : Mem) : Prop :=
  ∃ (I : Nat → Option Addr → Nat → Nat → Option Addr → Int → Mem → Prop) (N : Nat), I N x1a x1l x1c x5 x6 m ∧ ∀ N x1a x1l x1c x5 x6 m, I N x1a x1l x1c x5 x6 m → l1B  (fun x1a x1l x1c x5 x6 m => ∃ N1, N1 < N ∧ I N1 x1a x1l x1c x5 x6 m) x1a x1l x1c x5 x6 R m
noncomputable def l1A  (K1 : Option Addr → Nat → Nat → Option Addr → Int → Mem → Prop) (R : Ending → Mem → Prop) : ACode := (.code (lP (bB (sR (sL (sR (sR (sR (sR (body))))))))))
def e0 (a0 : Int) (a1a : Option Addr) (a1l : Nat) (a1c : Nat) (R : Ending → Mem → Prop) (m : Mem) : Prop :=
  HC P eyotlaw6_begun.id #[] m (Cont (fun v m1 =>
      UnB v fun x18 =>
      Br (!x18) (
        R (.returned (.bool false)) m1) (
        Br (decide (((a1l : Nat) : Int) > 15)) (
          R (.returned (.bool true)) m1) (
          HC P piece_New.id #[.int .i64 (IntKind.i64.wrap a0)] m1 (Cont (fun v m2 =>
              UnP v fun x25 =>
              l1  a1a a1l a1c x25 0 R m2) (panicR R))))) (panicR R))
noncomputable def e0A (R : Ending → Mem → Prop) : ACode := (.seq (.code (sL (body))) (.seq (.code (sL (sR (body)))) (.seq (.code (sL (sR (sR (body))))) (.seq (.code (sL (sR (sR (sR (body)))))) (.seq (.seq (.code (sL (sL (sR (sR (sR (sR (body)))))))) (.block 0 (.cut (l1E fun x1a x1l x1c x5 x6 m => l1  x1a x1l x1c x5 x6 R m) (.loop (lP (bB (sR (sL (sR (sR (sR (sR (body))))))))))))) (.cut (k2E fun x5 m => k2  x5 R m) (sR (sR (sR (sR (sR (body))))))))))))
theorem l4_eq (K3 : Option Addr → Option Addr → Nat → Nat → Int → Int → Mem → Prop) (K4 : Option Addr → Option Addr → Nat → Nat → Int → Int → Int → Mem → Prop) (R : Ending → Mem → Prop) (x5 : Option Addr) (x8a : Option Addr) (x8l : Nat) (x8c : Nat) (x9 : Int) (x10 : Int) (x11 : Int) (ρ : Env) (m : Mem) : l4B K3 K4 x5 x8a x8l x8c x9 x10 x11 R m = acpt P od (panicR R) (l4A K3 K4 R) (thenQ (l4E K4) (blockQ 4 (blockQ 3 (thenQ (acpt P od (panicR R) (.code (sR (sR (lP (bB (sR (sL (sR (sR (sR (sR (sR (sR (sR (body))))))))))))))) (thenQ (l3E K3) (blockQ 2 (thenQ (acpt P od (panicR R) (.cut (k5E fun x5 x9 m => k5  x5 x9 R m) (sR (sR (sR (sR (sR (sR (sR (sR (body)))))))))) (bodyQ P fn R)) (bodyQ P fn R))))) (thenQ (l3E K3) (blockQ 2 (thenQ (acpt P od (panicR R) (.cut (k5E fun x5 x9 m => k5  x5 x9 R m) (sR (sR (sR (sR (sR (sR (sR (sR (body)))))))))) (bodyQ P fn R)) (bodyQ P fn R)))))))) (upd (upd (upd (upd (upd ρ 11 (.int .i64 x11)) 10 (.int .i64 x10)) 9 (.int .i64 x9)) 8 (.slice x8a x8l x8c)) 5 (.pointer x5)) m := by kernel_rfl
theorem l4_er (K3 : Option Addr → Option Addr → Nat → Nat → Int → Int → Mem → Prop) (K4 : Option Addr → Option Addr → Nat → Nat → Int → Int → Int → Mem → Prop) (R : Ending → Mem → Prop) : (l4A K3 K4 R).erase = lP (bB (sR (bB (sL (sR (lP (bB (sR (sL (sR (sR (sR (sR (sR (sR (sR (body))))))))))))))))) := by kernel_rfl
theorem l4_ok (K3 : Option Addr → Option Addr → Nat → Nat → Int → Int → Mem → Prop) (R : Ending → Mem → Prop) (ρ : Env) (m : Mem) (h : (l4E fun x5 x8a x8l x8c x9 x10 x11 m => l4 K3 x5 x8a x8l x8c x9 x10 x11 R m) ρ m) : cpt P od (panicR R) (.loop (lP (bB (sR (bB (sL (sR (lP (bB (sR (sL (sR (sR (sR (sR (sR (sR (sR (body))))))))))))))))))) (blockQ 4 (blockQ 3 (thenQ (acpt P od (panicR R) (.code (sR (sR (lP (bB (sR (sL (sR (sR (sR (sR (sR (sR (sR (body))))))))))))))) (thenQ (l3E K3) (blockQ 2 (thenQ (acpt P od (panicR R) (.cut (k5E fun x5 x9 m => k5  x5 x9 R m) (sR (sR (sR (sR (sR (sR (sR (sR (body)))))))))) (bodyQ P fn R)) (bodyQ P fn R))))) (thenQ (l3E K3) (blockQ 2 (thenQ (acpt P od (panicR R) (.cut (k5E fun x5 x9 m => k5  x5 x9 R m) (sR (sR (sR (sR (sR (sR (sR (sR (body)))))))))) (bodyQ P fn R)) (bodyQ P fn R))))))) ρ m := by
  unfold l4E at h
  obtain ⟨x5, e5, h⟩ := h.ex
  obtain ⟨x8a, x8l, x8c, e8, h⟩ := h.ex
  obtain ⟨x9, e9, h⟩ := h.ex
  obtain ⟨x10, e10, h⟩ := h.ex
  obtain ⟨x11, e11, h⟩ := h.ex
  obtain ⟨I, N, h0, hs⟩ := h
  refine ⟨fun N => l4E (I N), N, (by show l4E (I N) ρ m; unfold l4E; rw [e5, e8, e9, e10, e11]; exact h0), ?_⟩
  clear h0 e5 e8 e9 e10 e11
  intro N ρ m h
  unfold l4E at h
  obtain ⟨x5, e5, h⟩ := h.ex
  obtain ⟨x8a, x8l, x8c, e8, h⟩ := h.ex
  obtain ⟨x9, e9, h⟩ := h.ex
  obtain ⟨x10, e10, h⟩ := h.ex
  obtain ⟨x11, e11, h⟩ := h.ex
  refine cpt_mono (P := P) (lP (bB (sR (bB (sL (sR (lP (bB (sR (sL (sR (sR (sR (sR (sR (sR (sR (body)))))))))))))))))) (Q := thenQ (l4E fun x5 x8a x8l x8c x9 x10 x11 m => ∃ N1, N1 < N ∧ I N1 x5 x8a x8l x8c x9 x10 x11 m) (blockQ 4 (blockQ 3 (thenQ (acpt P od (panicR R) (.code (sR (sR (lP (bB (sR (sL (sR (sR (sR (sR (sR (sR (sR (body))))))))))))))) (thenQ (l3E K3) (blockQ 2 (thenQ (acpt P od (panicR R) (.cut (k5E fun x5 x9 m => k5  x5 x9 R m) (sR (sR (sR (sR (sR (sR (sR (sR (body)))))))))) (bodyQ P fn R)) (bodyQ P fn R))))) (thenQ (l3E K3) (blockQ 2 (thenQ (acpt P od (panicR R) (.cut (k5E fun x5 x9 m => k5  x5 x9 R m) (sR (sR (sR (sR (sR (sR (sR (sR (body)))))))))) (bodyQ P fn R)) (bodyQ P fn R)))))))) (fun e ρ m h => ?_) ρ m ?_
  · cases e with
    | normal =>
      have h : l4E (fun x5 x8a x8l x8c x9 x10 x11 m => ∃ N1, N1 < N ∧ I N1 x5 x8a x8l x8c x9 x10 x11 m) ρ m := h
      unfold l4E at h
      obtain ⟨x5, e5, h⟩ := h.ex
      obtain ⟨x8a, x8l, x8c, e8, h⟩ := h.ex
      obtain ⟨x9, e9, h⟩ := h.ex
      obtain ⟨x10, e10, h⟩ := h.ex
      obtain ⟨x11, e11, h⟩ := h.ex
      obtain ⟨N1, hlt, h⟩ := h
      exact ⟨N1, hlt, (by show l4E (I N1) ρ m; unfold l4E; rw [e5, e8, e9, e10, e11]; exact h)⟩
    | _ => exact h
  have hh := hs N x5 x8a x8l x8c x9 x10 x11 m h
  generalize (fun x5 x8a x8l x8c x9 x10 x11 m => ∃ N1, N1 < N ∧ I N1 x5 x8a x8l x8c x9 x10 x11 m : Option Addr → Option Addr → Nat → Nat → Int → Int → Int → Mem → Prop) = K4 at hh ⊢
  rw [← upd_self e5, ← upd_self e8, ← upd_self e9, ← upd_self e10, ← upd_self e11]
  rw [← l4_er K3 K4 R]
  refine acpt_sound (P := P) (l4A K3 K4 R) _ _ _ True.intro ?_
  exact Eq.mp (l4_eq K3 K4 R x5 x8a x8l x8c x9 x10 x11 ρ m) hh
theorem k5_eq  (R : Ending → Mem → Prop) (x5 : Option Addr) (x9 : Int) (ρ : Env) (m : Mem) : k5  x5 x9 R m = acpt P od (panicR R) (k5A  R) (bodyQ P fn R) (upd (upd ρ 9 (.int .i64 x9)) 5 (.pointer x5)) m := by kernel_rfl
theorem k5_er  (R : Ending → Mem → Prop) : (k5A  R).erase = sR (sR (sR (sR (sR (sR (sR (sR (body)))))))) := by kernel_rfl
theorem k5_ok  (R : Ending → Mem → Prop) (ρ : Env) (m : Mem) (h : (k5E fun x5 x9 m => k5  x5 x9 R m) ρ m) : cpt P od (panicR R) (sR (sR (sR (sR (sR (sR (sR (sR (body))))))))) (bodyQ P fn R) ρ m := by
  unfold k5E at h
  obtain ⟨x5, e5, h⟩ := h.ex
  obtain ⟨x9, e9, h⟩ := h.ex
  rw [← upd_self e5, ← upd_self e9]
  rw [← k5_er  R]
  refine acpt_sound (P := P) (k5A  R) _ _ _ True.intro ?_
  exact Eq.mp (k5_eq  R x5 x9 ρ m) h
theorem l3_eq  (K3 : Option Addr → Option Addr → Nat → Nat → Int → Int → Mem → Prop) (R : Ending → Mem → Prop) (x5 : Option Addr) (x8a : Option Addr) (x8l : Nat) (x8c : Nat) (x9 : Int) (x10 : Int) (ρ : Env) (m : Mem) : l3B  K3 x5 x8a x8l x8c x9 x10 R m = acpt P od (panicR R) (l3A  K3 R) (thenQ (l3E K3) (blockQ 2 (thenQ (acpt P od (panicR R) (.cut (k5E fun x5 x9 m => k5  x5 x9 R m) (sR (sR (sR (sR (sR (sR (sR (sR (body)))))))))) (bodyQ P fn R)) (bodyQ P fn R)))) (upd (upd (upd (upd ρ 10 (.int .i64 x10)) 9 (.int .i64 x9)) 8 (.slice x8a x8l x8c)) 5 (.pointer x5)) m := by kernel_rfl
theorem l3_er  (K3 : Option Addr → Option Addr → Nat → Nat → Int → Int → Mem → Prop) (R : Ending → Mem → Prop) : (l3A  K3 R).erase = lP (bB (sR (sL (sR (sR (sR (sR (sR (sR (sR (body))))))))))) := by kernel_rfl
theorem l3_ok  (R : Ending → Mem → Prop) (ρ : Env) (m : Mem) (h : (l3E fun x5 x8a x8l x8c x9 x10 m => l3  x5 x8a x8l x8c x9 x10 R m) ρ m) : cpt P od (panicR R) (.loop (lP (bB (sR (sL (sR (sR (sR (sR (sR (sR (sR (body))))))))))))) (blockQ 2 (thenQ (acpt P od (panicR R) (.cut (k5E fun x5 x9 m => k5  x5 x9 R m) (sR (sR (sR (sR (sR (sR (sR (sR (body)))))))))) (bodyQ P fn R)) (bodyQ P fn R))) ρ m := by
  unfold l3E at h
  obtain ⟨x5, e5, h⟩ := h.ex
  obtain ⟨x8a, x8l, x8c, e8, h⟩ := h.ex
  obtain ⟨x9, e9, h⟩ := h.ex
  obtain ⟨x10, e10, h⟩ := h.ex
  obtain ⟨I, N, h0, hs⟩ := h
  refine ⟨fun N => l3E (I N), N, (by show l3E (I N) ρ m; unfold l3E; rw [e5, e8, e9, e10]; exact h0), ?_⟩
  clear h0 e5 e8 e9 e10
  intro N ρ m h
  unfold l3E at h
  obtain ⟨x5, e5, h⟩ := h.ex
  obtain ⟨x8a, x8l, x8c, e8, h⟩ := h.ex
  obtain ⟨x9, e9, h⟩ := h.ex
  obtain ⟨x10, e10, h⟩ := h.ex
  refine cpt_mono (P := P) (lP (bB (sR (sL (sR (sR (sR (sR (sR (sR (sR (body)))))))))))) (Q := thenQ (l3E fun x5 x8a x8l x8c x9 x10 m => ∃ N1, N1 < N ∧ I N1 x5 x8a x8l x8c x9 x10 m) (blockQ 2 (thenQ (acpt P od (panicR R) (.cut (k5E fun x5 x9 m => k5  x5 x9 R m) (sR (sR (sR (sR (sR (sR (sR (sR (body)))))))))) (bodyQ P fn R)) (bodyQ P fn R)))) (fun e ρ m h => ?_) ρ m ?_
  · cases e with
    | normal =>
      have h : l3E (fun x5 x8a x8l x8c x9 x10 m => ∃ N1, N1 < N ∧ I N1 x5 x8a x8l x8c x9 x10 m) ρ m := h
      unfold l3E at h
      obtain ⟨x5, e5, h⟩ := h.ex
      obtain ⟨x8a, x8l, x8c, e8, h⟩ := h.ex
      obtain ⟨x9, e9, h⟩ := h.ex
      obtain ⟨x10, e10, h⟩ := h.ex
      obtain ⟨N1, hlt, h⟩ := h
      exact ⟨N1, hlt, (by show l3E (I N1) ρ m; unfold l3E; rw [e5, e8, e9, e10]; exact h)⟩
    | _ => exact h
  have hh := hs N x5 x8a x8l x8c x9 x10 m h
  generalize (fun x5 x8a x8l x8c x9 x10 m => ∃ N1, N1 < N ∧ I N1 x5 x8a x8l x8c x9 x10 m : Option Addr → Option Addr → Nat → Nat → Int → Int → Mem → Prop) = K3 at hh ⊢
  rw [← upd_self e5, ← upd_self e8, ← upd_self e9, ← upd_self e10]
  rw [← l3_er  K3 R]
  refine acpt_sound (P := P) (l3A  K3 R) _ _ _ ⟨⟨True.intro, ⟨(fun ρ m h => l4_ok K3 R ρ m h), True.intro⟩⟩, True.intro⟩ ?_
  exact Eq.mp (l3_eq  K3 R x5 x8a x8l x8c x9 x10 ρ m) hh
theorem k2_eq  (R : Ending → Mem → Prop) (x5 : Option Addr) (ρ : Env) (m : Mem) : k2  x5 R m = acpt P od (panicR R) (k2A  R) (bodyQ P fn R) (upd ρ 5 (.pointer x5)) m := by kernel_rfl
theorem k2_er  (R : Ending → Mem → Prop) : (k2A  R).erase = sR (sR (sR (sR (sR (body))))) := by kernel_rfl
theorem k2_ok  (R : Ending → Mem → Prop) (ρ : Env) (m : Mem) (h : (k2E fun x5 m => k2  x5 R m) ρ m) : cpt P od (panicR R) (sR (sR (sR (sR (sR (body)))))) (bodyQ P fn R) ρ m := by
  unfold k2E at h
  obtain ⟨x5, e5, h⟩ := h.ex
  rw [← upd_self e5]
  rw [← k2_er  R]
  refine acpt_sound (P := P) (k2A  R) _ _ _ ⟨⟨⟨(fun ρ m h => k5_ok  R ρ m h), ⟨(fun ρ m h => l3_ok  R ρ m h), True.intro⟩⟩, True.intro⟩, True.intro⟩ ?_
  exact Eq.mp (k2_eq  R x5 ρ m) h
theorem l1_eq  (K1 : Option Addr → Nat → Nat → Option Addr → Int → Mem → Prop) (R : Ending → Mem → Prop) (x1a : Option Addr) (x1l : Nat) (x1c : Nat) (x5 : Option Addr) (x6 : Int) (ρ : Env) (m : Mem) : l1B  K1 x1a x1l x1c x5 x6 R m = acpt P od (panicR R) (l1A  K1 R) (thenQ (l1E K1) (blockQ 0 (thenQ (acpt P od (panicR R) (.cut (k2E fun x5 m => k2  x5 R m) (sR (sR (sR (sR (sR (body))))))) (bodyQ P fn R)) (bodyQ P fn R)))) (upd (upd (upd ρ 6 (.int .i64 x6)) 5 (.pointer x5)) 1 (.slice x1a x1l x1c)) m := by kernel_rfl
theorem l1_er  (K1 : Option Addr → Nat → Nat → Option Addr → Int → Mem → Prop) (R : Ending → Mem → Prop) : (l1A  K1 R).erase = lP (bB (sR (sL (sR (sR (sR (sR (body)))))))) := by kernel_rfl
theorem l1_ok  (R : Ending → Mem → Prop) (ρ : Env) (m : Mem) (h : (l1E fun x1a x1l x1c x5 x6 m => l1  x1a x1l x1c x5 x6 R m) ρ m) : cpt P od (panicR R) (.loop (lP (bB (sR (sL (sR (sR (sR (sR (body)))))))))) (blockQ 0 (thenQ (acpt P od (panicR R) (.cut (k2E fun x5 m => k2  x5 R m) (sR (sR (sR (sR (sR (body))))))) (bodyQ P fn R)) (bodyQ P fn R))) ρ m := by
  unfold l1E at h
  obtain ⟨x1a, x1l, x1c, e1, h⟩ := h.ex
  obtain ⟨x5, e5, h⟩ := h.ex
  obtain ⟨x6, e6, h⟩ := h.ex
  obtain ⟨I, N, h0, hs⟩ := h
  refine ⟨fun N => l1E (I N), N, (by show l1E (I N) ρ m; unfold l1E; rw [e1, e5, e6]; exact h0), ?_⟩
  clear h0 e1 e5 e6
  intro N ρ m h
  unfold l1E at h
  obtain ⟨x1a, x1l, x1c, e1, h⟩ := h.ex
  obtain ⟨x5, e5, h⟩ := h.ex
  obtain ⟨x6, e6, h⟩ := h.ex
  refine cpt_mono (P := P) (lP (bB (sR (sL (sR (sR (sR (sR (body))))))))) (Q := thenQ (l1E fun x1a x1l x1c x5 x6 m => ∃ N1, N1 < N ∧ I N1 x1a x1l x1c x5 x6 m) (blockQ 0 (thenQ (acpt P od (panicR R) (.cut (k2E fun x5 m => k2  x5 R m) (sR (sR (sR (sR (sR (body))))))) (bodyQ P fn R)) (bodyQ P fn R)))) (fun e ρ m h => ?_) ρ m ?_
  · cases e with
    | normal =>
      have h : l1E (fun x1a x1l x1c x5 x6 m => ∃ N1, N1 < N ∧ I N1 x1a x1l x1c x5 x6 m) ρ m := h
      unfold l1E at h
      obtain ⟨x1a, x1l, x1c, e1, h⟩ := h.ex
      obtain ⟨x5, e5, h⟩ := h.ex
      obtain ⟨x6, e6, h⟩ := h.ex
      obtain ⟨N1, hlt, h⟩ := h
      exact ⟨N1, hlt, (by show l1E (I N1) ρ m; unfold l1E; rw [e1, e5, e6]; exact h)⟩
    | _ => exact h
  have hh := hs N x1a x1l x1c x5 x6 m h
  generalize (fun x1a x1l x1c x5 x6 m => ∃ N1, N1 < N ∧ I N1 x1a x1l x1c x5 x6 m : Option Addr → Nat → Nat → Option Addr → Int → Mem → Prop) = K1 at hh ⊢
  rw [← upd_self e1, ← upd_self e5, ← upd_self e6]
  rw [← l1_er  K1 R]
  refine acpt_sound (P := P) (l1A  K1 R) _ _ _ True.intro ?_
  exact Eq.mp (l1_eq  K1 R x1a x1l x1c x5 x6 ρ m) hh
theorem e0_eq (a0 : Int) (a1a : Option Addr) (a1l : Nat) (a1c : Nat) (R : Ending → Mem → Prop) (m : Mem) : e0 a0 a1a a1l a1c R m = acpt P od (panicR R) (e0A R) (bodyQ P fn R) (argE (#[.int .u8 a0, .slice a1a a1l a1c] : Array Value).toList) m := by kernel_rfl
theorem ok (a0 : Int) (a1a : Option Addr) (a1l : Nat) (a1c : Nat) (R : Ending → Mem → Prop) (m : Mem) (h : e0 a0 a1a a1l a1c R m) : HC P id #[.int .u8 a0, .slice a1a a1l a1c] m R := by
  refine HC_of (fn := fn) (c := body) (od := od) (tb := tb) Go.Proofs.Try.func5 (by kernel_rfl) (by kernel_rfl) follows (by kernel_rfl) (of_decide_eq_true (by kernel_rfl)) ?_
  have he : (e0A R).erase = body := by kernel_rfl
  rw [← he]
  refine acpt_sound (P := P) (e0A R) _ _ _ ⟨⟨⟨⟨⟨(fun ρ m h => k2_ok  R ρ m h), ⟨(fun ρ m h => l1_ok  R ρ m h), True.intro⟩⟩, True.intro⟩, True.intro⟩, True.intro⟩, True.intro⟩ ?_
  exact Eq.mp (e0_eq a0 a1a a1l a1c R m) h
end eyotlaw6_PieceFinds

/-! ### eyot/eyotlaw6.PieceTypes -/
namespace eyotlaw6_PieceTypes
noncomputable def fn : Func := Go.Proofs.Try.f6
noncomputable def body : Code := fn.body.getD .skip
def od : Nat → Ord := fun _ => .done
def tb : Nat → Tab := fun _ => (0, [], [])
def k2E (K : Int → Option Addr → Int → Int → Mem → Prop) : Env → Mem → Prop := fun ρ m => UnI (ρ 7) .i64 fun x7 => UnP (ρ 8) fun x8 => UnI (ρ 9) .i64 fun x9 => UnI (ρ 10) .i64 fun x10 => K x7 x8 x9 x10 m
def k2  (x7 : Int) (x8 : Option Addr) (x9 : Int) (x10 : Int) (R : Ending → Mem → Prop) (m : Mem) : Prop :=
  HC P piece_Text_Pieces.id #[.pointer x8] m (Cont (fun v m1 =>
      UnS v fun x49a x49l x49c =>
      Br (x10 == 0) (
        R (.returned (.bool (((x49l : Nat) : Int) == 1))) m1) (
        Br (((x49l : Nat) : Int) != 3) (
          R (.returned (.bool false)) m1) (
          IxS x49a x49l 0 3 fun x60b x60o =>
          LdV m1 x60b x60o fun v =>
          UnB v fun x61_0 =>
          LdV m1 x60b (x60o + 1) fun v =>
          UnI v .i64 fun x61_1 =>
          LdV m1 x60b (x60o + 2) fun v =>
          UnI v .i64 fun x61_2 =>
          Br (!(eqL [.bool x61_0, .int .i64 x61_1, .int .i64 x61_2] [.bool false, .int .i64 0, .int .i64 x9])) (
            R (.returned (.bool false)) m1) (
            IxS x49a x49l 1 3 fun x68b x68o =>
            LdV m1 x68b x68o fun v =>
            UnB v fun x69_0 =>
            LdV m1 x68b (x68o + 1) fun v =>
            UnI v .i64 fun x69_1 =>
            LdV m1 x68b (x68o + 2) fun v =>
            UnI v .i64 fun x69_2 =>
            Br (!(eqL [.bool x69_0, .int .i64 x69_1, .int .i64 x69_2] [.bool true, .int .i64 0, .int .i64 x10])) (
              R (.returned (.bool false)) m1) (
              IxS x49a x49l 2 3 fun x76b x76o =>
              LdV m1 x76b x76o fun v =>
              UnB v fun x77_0 =>
              LdV m1 x76b (x76o + 1) fun v =>
              UnI v .i64 fun x77_1 =>
              LdV m1 x76b (x76o + 2) fun v =>
              UnI v .i64 fun x77_2 =>
              Br (!(eqL [.bool x77_0, .int .i64 x77_1, .int .i64 x77_2] [.bool false, .int .i64 x9, .int .i64 x7])) (
                R (.returned (.bool false)) m1) (
                HC P piece_Text_Edit.id #[.pointer x8, .int .i64 x9, .int .i64 (IntKind.i64.wrap (x9 + x10)), .slice none 0 0] m1 (Cont (fun v m2 =>
                    UnI v .i64 fun x88 =>
                    Br (x88 != 0) (
                      R (.returned (.bool false)) m2) (
                      HC P piece_Text_Pieces.id #[.pointer x8] m2 (Cont (fun v m3 =>
                        UnS v fun x91a x91l x91c =>
                        Br (((x91l : Nat) : Int) == 1) (
                        IxS x91a x91l 0 3 fun x97b x97o =>
                        LdV m3 x97b x97o fun v =>
                        UnB v fun x98_0 =>
                        LdV m3 x97b (x97o + 1) fun v =>
                        UnI v .i64 fun x98_1 =>
                        LdV m3 x97b (x97o + 2) fun v =>
                        UnI v .i64 fun x98_2 =>
                        Br (eqL [.bool x98_0, .int .i64 x98_1, .int .i64 x98_2] [.bool false, .int .i64 0, .int .i64 x7]) (
                        HC P piece_Text_Added.id #[.pointer x8] m3 (Cont (fun v m4 =>
                        UnS v fun x105a x105l x105c =>
                        Br (((x105l : Nat) : Int) == x10) (
                        MkS P m4 T_sl_uint8 (.int .i64 301) (.int .i64 301) (fun w m5 =>
                        UnS w fun x112a x112l x112c =>
                        HC P piece_Text_Edit.id #[.pointer x8, .int .i64 0, .int .i64 0, .slice x112a x112l x112c] m5 (Cont (fun v m6 =>
                        UnI v .i64 fun x113 =>
                        R (.returned (.bool (x113 == 10))) m6) (panicR R))) (panicR R)) (
                        R (.returned (.bool false)) m4)) (panicR R))) (
                        R (.returned (.bool false)) m3)) (
                        R (.returned (.bool false)) m3)) (panicR R)))) (panicR R)))))))) (panicR R))
noncomputable def k2A  (R : Ending → Mem → Prop) : ACode := (.code (sR (sR (sR (sR (sR (sR (sR (body)))))))))
def l1E (K : Int → Option Addr → Int → Int → Int → Mem → Prop) : Env → Mem → Prop := fun ρ m => UnI (ρ 7) .i64 fun x7 => UnP (ρ 8) fun x8 => UnI (ρ 9) .i64 fun x9 => UnI (ρ 10) .i64 fun x10 => UnI (ρ 11) .i64 fun x11 => K x7 x8 x9 x10 x11 m
def l1B  (K1 : Int → Option Addr → Int → Int → Int → Mem → Prop) (x7 : Int) (x8 : Option Addr) (x9 : Int) (x10 : Int) (x11 : Int) (R : Ending → Mem → Prop) (m : Mem) : Prop :=
  Br (decide (x11 < x10)) (
    NewC m #[.int .u8 (IntKind.u8.wrap x11)] T_uint8 fun b45 m1 =>
    HC P piece_Text_Edit.id #[.pointer x8, .int .i64 (IntKind.i64.wrap (x9 + x11)), .int .i64 (IntKind.i64.wrap (x9 + x11)), .slice (some ⟨b45, 0, none⟩) 1 1] m1 (Cont (fun v m2 =>
        UnI v .i64 fun x46 =>
        Br (x46 != 0) (
          R (.returned (.bool false)) m2) (
          K1 x7 x8 x9 x10 (IntKind.i64.wrap (x11 + 1)) m2)) (panicR R))) (
    k2  x7 x8 x9 x10 R m)
def l1  (x7 : Int) (x8 : Option Addr) (x9 : Int) (x10 : Int) (x11 : Int) (R : Ending → Mem → Prop) (m : Mem) : Prop :=
  ∃ (I : Nat → Int → Option Addr → Int → Int → Int → Mem → Prop) (N : Nat), I N x7 x8 x9 x10 x11 m ∧ ∀ N x7 x8 x9 x10 x11 m, I N x7 x8 x9 x10 x11 m → l1B  (fun x7 x8 x9 x10 x11 m => ∃ N1, N1 < N ∧ I N1 x7 x8 x9 x10 x11 m) x7 x8 x9 x10 x11 R m
noncomputable def l1A  (K1 : Int → Option Addr → Int → Int → Int → Mem → Prop) (R : Ending → Mem → Prop) : ACode := (.code (lP (bB (sR (sL (sR (sR (sR (sR (sR (sR (body))))))))))))
def e0 (a0 : Int) (a1 : Int) (a2 : Int) (R : Ending → Mem → Prop) (m : Mem) : Prop :=
  HC P eyotlaw6_begun.id #[] m (Cont (fun v m1 =>
      UnB v fun x14 =>
      Br (!x14) (
        R (.returned (.bool false)) m1) (
        HC P piece_New.id #[.int .i64 (IntKind.i64.wrap (2 + (Int.tmod (IntKind.i64.wrap a0) 100)))] m1 (Cont (fun v m2 =>
            UnP v fun x21 =>
            NzI (IntKind.i64.wrap ((IntKind.i64.wrap (2 + (Int.tmod (IntKind.i64.wrap a0) 100))) - 1)) (
              l1  (IntKind.i64.wrap (2 + (Int.tmod (IntKind.i64.wrap a0) 100))) x21 (IntKind.i64.wrap (1 + (Int.tmod (IntKind.i64.wrap a1) (IntKind.i64.wrap ((IntKind.i64.wrap (2 + (Int.tmod (IntKind.i64.wrap a0) 100))) - 1))))) (IntKind.i64.wrap (Int.tmod a2 30)) 0 R m2)) (panicR R)))) (panicR R))
noncomputable def e0A (R : Ending → Mem → Prop) : ACode := (.seq (.code (sL (body))) (.seq (.code (sL (sR (body)))) (.seq (.code (sL (sR (sR (body))))) (.seq (.code (sL (sR (sR (sR (body)))))) (.seq (.code (sL (sR (sR (sR (sR (body))))))) (.seq (.code (sL (sR (sR (sR (sR (sR (body)))))))) (.seq (.seq (.code (sL (sL (sR (sR (sR (sR (sR (sR (body)))))))))) (.block 0 (.cut (l1E fun x7 x8 x9 x10 x11 m => l1  x7 x8 x9 x10 x11 R m) (.loop (lP (bB (sR (sL (sR (sR (sR (sR (sR (sR (body))))))))))))))) (.cut (k2E fun x7 x8 x9 x10 m => k2  x7 x8 x9 x10 R m) (sR (sR (sR (sR (sR (sR (sR (body))))))))))))))))
theorem k2_eq  (R : Ending → Mem → Prop) (x7 : Int) (x8 : Option Addr) (x9 : Int) (x10 : Int) (ρ : Env) (m : Mem) : k2  x7 x8 x9 x10 R m = acpt P od (panicR R) (k2A  R) (bodyQ P fn R) (upd (upd (upd (upd ρ 10 (.int .i64 x10)) 9 (.int .i64 x9)) 8 (.pointer x8)) 7 (.int .i64 x7)) m := by kernel_rfl
theorem k2_er  (R : Ending → Mem → Prop) : (k2A  R).erase = sR (sR (sR (sR (sR (sR (sR (body))))))) := by kernel_rfl
theorem k2_ok  (R : Ending → Mem → Prop) (ρ : Env) (m : Mem) (h : (k2E fun x7 x8 x9 x10 m => k2  x7 x8 x9 x10 R m) ρ m) : cpt P od (panicR R) (sR (sR (sR (sR (sR (sR (sR (body)))))))) (bodyQ P fn R) ρ m := by
  unfold k2E at h
  obtain ⟨x7, e7, h⟩ := h.ex
  obtain ⟨x8, e8, h⟩ := h.ex
  obtain ⟨x9, e9, h⟩ := h.ex
  obtain ⟨x10, e10, h⟩ := h.ex
  rw [← upd_self e7, ← upd_self e8, ← upd_self e9, ← upd_self e10]
  rw [← k2_er  R]
  refine acpt_sound (P := P) (k2A  R) _ _ _ True.intro ?_
  exact Eq.mp (k2_eq  R x7 x8 x9 x10 ρ m) h
theorem l1_eq  (K1 : Int → Option Addr → Int → Int → Int → Mem → Prop) (R : Ending → Mem → Prop) (x7 : Int) (x8 : Option Addr) (x9 : Int) (x10 : Int) (x11 : Int) (ρ : Env) (m : Mem) : l1B  K1 x7 x8 x9 x10 x11 R m = acpt P od (panicR R) (l1A  K1 R) (thenQ (l1E K1) (blockQ 0 (thenQ (acpt P od (panicR R) (.cut (k2E fun x7 x8 x9 x10 m => k2  x7 x8 x9 x10 R m) (sR (sR (sR (sR (sR (sR (sR (body))))))))) (bodyQ P fn R)) (bodyQ P fn R)))) (upd (upd (upd (upd (upd ρ 11 (.int .i64 x11)) 10 (.int .i64 x10)) 9 (.int .i64 x9)) 8 (.pointer x8)) 7 (.int .i64 x7)) m := by kernel_rfl
theorem l1_er  (K1 : Int → Option Addr → Int → Int → Int → Mem → Prop) (R : Ending → Mem → Prop) : (l1A  K1 R).erase = lP (bB (sR (sL (sR (sR (sR (sR (sR (sR (body)))))))))) := by kernel_rfl
theorem l1_ok  (R : Ending → Mem → Prop) (ρ : Env) (m : Mem) (h : (l1E fun x7 x8 x9 x10 x11 m => l1  x7 x8 x9 x10 x11 R m) ρ m) : cpt P od (panicR R) (.loop (lP (bB (sR (sL (sR (sR (sR (sR (sR (sR (body)))))))))))) (blockQ 0 (thenQ (acpt P od (panicR R) (.cut (k2E fun x7 x8 x9 x10 m => k2  x7 x8 x9 x10 R m) (sR (sR (sR (sR (sR (sR (sR (body))))))))) (bodyQ P fn R)) (bodyQ P fn R))) ρ m := by
  unfold l1E at h
  obtain ⟨x7, e7, h⟩ := h.ex
  obtain ⟨x8, e8, h⟩ := h.ex
  obtain ⟨x9, e9, h⟩ := h.ex
  obtain ⟨x10, e10, h⟩ := h.ex
  obtain ⟨x11, e11, h⟩ := h.ex
  obtain ⟨I, N, h0, hs⟩ := h
  refine ⟨fun N => l1E (I N), N, (by show l1E (I N) ρ m; unfold l1E; rw [e7, e8, e9, e10, e11]; exact h0), ?_⟩
  clear h0 e7 e8 e9 e10 e11
  intro N ρ m h
  unfold l1E at h
  obtain ⟨x7, e7, h⟩ := h.ex
  obtain ⟨x8, e8, h⟩ := h.ex
  obtain ⟨x9, e9, h⟩ := h.ex
  obtain ⟨x10, e10, h⟩ := h.ex
  obtain ⟨x11, e11, h⟩ := h.ex
  refine cpt_mono (P := P) (lP (bB (sR (sL (sR (sR (sR (sR (sR (sR (body))))))))))) (Q := thenQ (l1E fun x7 x8 x9 x10 x11 m => ∃ N1, N1 < N ∧ I N1 x7 x8 x9 x10 x11 m) (blockQ 0 (thenQ (acpt P od (panicR R) (.cut (k2E fun x7 x8 x9 x10 m => k2  x7 x8 x9 x10 R m) (sR (sR (sR (sR (sR (sR (sR (body))))))))) (bodyQ P fn R)) (bodyQ P fn R)))) (fun e ρ m h => ?_) ρ m ?_
  · cases e with
    | normal =>
      have h : l1E (fun x7 x8 x9 x10 x11 m => ∃ N1, N1 < N ∧ I N1 x7 x8 x9 x10 x11 m) ρ m := h
      unfold l1E at h
      obtain ⟨x7, e7, h⟩ := h.ex
      obtain ⟨x8, e8, h⟩ := h.ex
      obtain ⟨x9, e9, h⟩ := h.ex
      obtain ⟨x10, e10, h⟩ := h.ex
      obtain ⟨x11, e11, h⟩ := h.ex
      obtain ⟨N1, hlt, h⟩ := h
      exact ⟨N1, hlt, (by show l1E (I N1) ρ m; unfold l1E; rw [e7, e8, e9, e10, e11]; exact h)⟩
    | _ => exact h
  have hh := hs N x7 x8 x9 x10 x11 m h
  generalize (fun x7 x8 x9 x10 x11 m => ∃ N1, N1 < N ∧ I N1 x7 x8 x9 x10 x11 m : Int → Option Addr → Int → Int → Int → Mem → Prop) = K1 at hh ⊢
  rw [← upd_self e7, ← upd_self e8, ← upd_self e9, ← upd_self e10, ← upd_self e11]
  rw [← l1_er  K1 R]
  refine acpt_sound (P := P) (l1A  K1 R) _ _ _ True.intro ?_
  exact Eq.mp (l1_eq  K1 R x7 x8 x9 x10 x11 ρ m) hh
theorem e0_eq (a0 : Int) (a1 : Int) (a2 : Int) (R : Ending → Mem → Prop) (m : Mem) : e0 a0 a1 a2 R m = acpt P od (panicR R) (e0A R) (bodyQ P fn R) (argE (#[.int .u8 a0, .int .u8 a1, .int .u8 a2] : Array Value).toList) m := by kernel_rfl
theorem ok (a0 : Int) (a1 : Int) (a2 : Int) (R : Ending → Mem → Prop) (m : Mem) (h : e0 a0 a1 a2 R m) : HC P id #[.int .u8 a0, .int .u8 a1, .int .u8 a2] m R := by
  refine HC_of (fn := fn) (c := body) (od := od) (tb := tb) Go.Proofs.Try.func6 (by kernel_rfl) (by kernel_rfl) follows (by kernel_rfl) (of_decide_eq_true (by kernel_rfl)) ?_
  have he : (e0A R).erase = body := by kernel_rfl
  rw [← he]
  refine acpt_sound (P := P) (e0A R) _ _ _ ⟨⟨⟨⟨⟨⟨⟨(fun ρ m h => k2_ok  R ρ m h), ⟨(fun ρ m h => l1_ok  R ρ m h), True.intro⟩⟩, True.intro⟩, True.intro⟩, True.intro⟩, True.intro⟩, True.intro⟩, True.intro⟩ ?_
  exact Eq.mp (e0_eq a0 a1 a2 R m) h
end eyotlaw6_PieceTypes

/-! ### eyot/eyotlaw6.PieceAll -/
namespace eyotlaw6_PieceAll
noncomputable def fn : Func := Go.Proofs.Try.f7
noncomputable def body : Code := fn.body.getD .skip
def od : Nat → Ord := fun | 13 => ordL [(0, 3), (1, 3), (2, 1), (3, 3), (4, 1), (5, 3), (7, 3), (8, 3), (9, 1), (10, 3), (11, 1), (12, 3), (13, 1), (6, 0), (14, 2), (15, 3), (16, 3), (17, 3), (18, 3), (19, 2), (20, 2), (21, 3), (22, 3)] .done | 22 => ordL [(0, 3), (2, 3), (1, 0), (3, 0), (4, 0), (5, 3), (6, 3), (7, 3), (10, 3), (11, 3), (12, 3), (13, 1), (14, 1), (8, 0), (9, 0), (15, 3), (16, 3), (17, 3), (18, 3), (20, 3), (21, 3), (22, 3), (23, 1), (24, 3), (19, 0), (25, 3), (26, 3), (27, 3), (28, 3), (29, 3), (30, 3), (31, 3), (32, 3), (33, 3), (34, 3), (35, 3), (36, 3), (37, 3), (38, 3), (39, 3), (40, 3), (41, 3)] .done | _ => .done
def tb : Nat → Tab := fun | 13 => (1589248, [0, 0, 2, 0, 8, 0, 63, 0, 0, 256, 0, 1024, 0, 4096, 16383, 32767, 65535, 131071, 131071, 393215, 1048575, 2097151, 4194303], [(0, 128, 54), (0, 1024, 55), (2, 18014398509481984, 56), (0, 1024, 57), (8, 72057594037927936, 58), (0, 2048, 59), (53, 477381560501272576, 60), (0, 256, 61), (0, 1024, 62), (256, 2305843009213693952, 63), (0, 1024, 64), (1024, 9223372036854775808, 65), (0, 1024, 66), (4096, 36893488147419103232, 67), (10944, 97998327891581992960, 68), (16448, 148150413341979836416, 69), (49152, 295147905179352825856, 70), (65536, 590295810358705653760, 71), (65536, 590295810358705652736, 72), (327680, 2951479051793528258560, 73), (720896, 6493253913945762168832, 74), (1114112, 10035028776097996079104, 75), (2162688, 19479761741837286506496, 76)]) | 22 => (0, [0, 1, 0, 7, 15, 31, 63, 127, 255, 511, 127, 1151, 3199, 7295, 15487, 32767, 65535, 131071, 262143, 524287, 262143, 1310719, 3407871, 7602175, 15990783, 33554431, 67108863, 134217727, 268435455, 268435455, 1073741823, 2147483647, 4294967295, 8589934591, 8589934591, 34359738367, 68719476735, 137438953471, 274877906943, 274877906943, 1099511627775, 2199023255551], [(0, 128, 104), (1, 10141204801825835211973625643008, 105), (0, 256, 106), (6, 40564819207303340847894502572032, 107), (10, 101412048018258352119736256430080, 108), (16, 162259276829213363391578010288128, 109), (48, 324518553658426726783156020576256, 110), (64, 649037107316853453566312041152640, 111), (192, 1947111321950560360698936123457536, 112), (320, 3245185536584267267831560205762560, 113), (64, 649037107316853453566312041152768, 114), (1088, 11033630824386508710627304699592704, 115), (2112, 21418224541456163967688297358032896, 116), (4160, 42187411975595474481810282674913280, 117), (8256, 83725786843874095510054253308674048, 118), (16960, 171994833438966165195072690905415680, 119), (32832, 332956036053545821679518077111238656, 120), (65792, 664613997892457936451903530140172288, 121), (131072, 1329227995784915872903807060280344704, 122), (393216, 3987683987354747618711421180841033728, 123), (131072, 1329227995784915872903807060280344832, 124), (1179648, 11963051962064242856134263542523101184, 125), (2228224, 22596875928343569839364720024765857792, 126), (4325376, 43864523860902223805825632989251371008, 127), (8519680, 86399819726019531738747458918222397440, 128), (17432576, 176787323439393811096206339017285828608, 129), (33685504, 341611594916723379336278414492048556032, 130), (67633152, 680564733841876926926749214863536422912, 131), (134217728, 1361129467683753853853498429727072854016, 132), (134217728, 1361129467683753853853498429727072911360, 133), (939524096, 9527906273786276976974489008089509920768, 134), (1207959552, 12250165209153784684681485867543655612416, 135), (2281701376, 21778071482940061661655974875633165533184, 136), (4294967296, 43556142965880123323311949751266331082752, 137), (4294967296, 43556142965880123323311949751266331197440, 138), (30064771072, 304893000761160863263183648258864317464576, 139), (38654705664, 392005286692921109909807547761396979597312, 140), (73014444032, 696898287454081973172991196020261297061888, 141), (137438953472, 1393796574908163946345982392040522594156544, 142), (137438953472, 1393796574908163946345982392040522594385920, 143), (962072674304, 9756576024357147624421876744283658158866432, 144), (1236950581248, 12544169174173475517113841528364703347113984, 145)]) | _ => (0, [], [])
def k2E (K : Option Addr → Nat → Nat → Int → Option Addr → Option Addr → Int → Mem → Prop) : Env → Mem → Prop := fun ρ m => UnS (ρ 1) fun x1a x1l x1c => UnI (ρ 2) .i64 fun x2 => UnP (ρ 7) fun x7 => UnP (ρ 8) fun x8 => UnI (ρ 9) .i64 fun x9 => K x1a x1l x1c x2 x7 x8 x9 m
def k2 (K1 : Option Addr → Nat → Nat → Int → Option Addr → Option Addr → Int → Mem → Prop) (x1a : Option Addr) (x1l : Nat) (x1c : Nat) (x2 : Int) (x7 : Option Addr) (x8 : Option Addr) (x9 : Int) (R : Ending → Mem → Prop) (m : Mem) : Prop :=
  HC P piece_Text_Find.id #[.pointer x7, .int .i64 x2] m (Cont (fun v m1 =>
      UnTup v fun us0 =>
      UnCons us0 fun w us1 =>
      UnI w .i64 fun x92_0 =>
      UnCons us1 fun w us2 =>
      UnI w .i64 fun x92_1 =>
      UnCons us2 fun w us3 =>
      UnI w .i64 fun x92_2 =>
      UnNil us3 (
        HC P eyotref3_Text_Find.id #[.pointer x8, .int .i64 x2] m1 (Cont (fun v m2 =>
            UnTup v fun us0 =>
            UnCons us0 fun w us1 =>
            UnI w .i64 fun x99_0 =>
            UnCons us1 fun w us2 =>
            UnI w .i64 fun x99_1 =>
            UnCons us2 fun w us3 =>
            UnI w .i64 fun x99_2 =>
            UnNil us3 (
              Sub m2 fun r3 =>
              HC P piece_Text_Pieces.id #[.pointer x7] m2 (Cont (fun v m4 =>
                  UnS v fun x104a x104l x104c =>
                  Lk r3 m4 fun r5 =>
                  HC P eyotref3_Text_Pieces.id #[.pointer x8] m4 (Cont (fun v m6 =>
                      UnS v fun x106a x106l x106c =>
                      Lk r5 m6 fun r7 =>
                      HC P eyotref3_SamePieces.id #[.slice x104a x104l x104c, .slice x106a x106l x106c] m6 (Cont (fun v m8 =>
                        UnB v fun x107 =>
                        Lk r7 m8 fun r9 =>
                        Br (!x107) (
                        R (.returned (.bool false)) m8) (
                        NilC x8 (fun x114b x114o =>
                        LdV r9 x114b (x114o + 1) fun v =>
                        UnS v fun x116a x116l x116c =>
                        B2S r9 x116a x116l fun s117 =>
                        HC P piece_Text_Added.id #[.pointer x7] m8 (Cont (fun v m10 =>
                        UnS v fun x111a x111l x111c =>
                        Lk r9 m10 fun r11 =>
                        B2S m10 x111a x111l fun s112 =>
                        Br (!(s112.toList == s117.toList)) (
                        R (.returned (.bool false)) m10) (
                        NilC x8 (fun x124b x124o =>
                        LdV r11 x124b x124o fun v =>
                        UnS v fun x126a x126l x126c =>
                        HC P piece_Text_Len.id #[.pointer x7] m10 (Cont (fun v m12 =>
                        UnI v .i64 fun x122 =>
                        Lk r11 m12 fun r13 =>
                        Br (x122 != ((x126l : Nat) : Int)) (
                        R (.returned (.bool false)) m12) (
                        Br (x92_0 != x99_0) (
                        R (.returned (.bool false)) m12) (
                        Br (x92_1 != x99_1) (
                        R (.returned (.bool false)) m12) (
                        Br (x92_2 != x99_2) (
                        R (.returned (.bool false)) m12) (
                        K1 x1a x1l x1c x2 x7 x8 (IntKind.i64.wrap (x9 + 1)) m12))))) (panicR R))) (False))) (panicR R))) (False))) (panicR R))) (panicR R))) (panicR R)))) (panicR R)))) (panicR R))
noncomputable def k2A (K1 : Option Addr → Nat → Nat → Int → Option Addr → Option Addr → Int → Mem → Prop) (R : Ending → Mem → Prop) : ACode := (.code (sR (sR (sR (sR (sR (sR (bB (sL (sR (lP (bB (sR (sL (sR (sR (sR (sR (body)))))))))))))))))))
def k3E (K : Mem → Prop) : Env → Mem → Prop := fun ρ m => K  m
def k3   (R : Ending → Mem → Prop) (m : Mem) : Prop :=
  HC P piece_Text_Find.id #[.pointer none, .int .i64 0] m (Cont (fun v m1 =>
      UnTup v fun us0 =>
      UnCons us0 fun w us1 =>
      UnI w .i64 fun x147_0 =>
      UnCons us1 fun w us2 =>
      UnI w .i64 fun x147_1 =>
      UnCons us2 fun w us3 =>
      UnI w .i64 fun x147_2 =>
      UnNil us3 (
        HC P piece_Text_Edit.id #[.pointer none, .int .i64 0, .int .i64 0, .slice none 0 0] m1 (Cont (fun v m2 =>
            UnI v .i64 fun x152 =>
            Br (x152 == 1) (
              Br (x147_2 == 1) (
                HC P piece_Text_Len.id #[.pointer none] m2 (Cont (fun v m3 =>
                    UnI v .i64 fun x160 =>
                    HC P piece_Text_Pieces.id #[.pointer none] m3 (Cont (fun v m4 =>
                        UnS v fun x162a x162l x162c =>
                        HC P piece_Text_Added.id #[.pointer none] m4 (Cont (fun v m5 =>
                        UnS v fun x166a x166l x166c =>
                        Br ((IntKind.i64.wrap ((IntKind.i64.wrap (x160 + ((x162l : Nat) : Int))) + ((x166l : Nat) : Int))) == 0) (
                        HC P piece_Text_Copy.id #[.pointer none] m5 (Cont (fun v m6 =>
                        UnP v fun x173 =>
                        R (.returned (.bool x173.isNone)) m6) (panicR R))) (
                        R (.returned (.bool false)) m5)) (panicR R))) (panicR R))) (panicR R))) (
                R (.returned (.bool false)) m2)) (
              R (.returned (.bool false)) m2)) (panicR R)))) (panicR R))
noncomputable def k3A  (R : Ending → Mem → Prop) : ACode := (.code (sR (sR (sR (sR (sR (body)))))))
def l1E (K : Option Addr → Nat → Nat → Int → Option Addr → Option Addr → Int → Mem → Prop) : Env → Mem → Prop := fun ρ m => UnS (ρ 1) fun x1a x1l x1c => UnI (ρ 2) .i64 fun x2 => UnP (ρ 7) fun x7 => UnP (ρ 8) fun x8 => UnI (ρ 9) .i64 fun x9 => K x1a x1l x1c x2 x7 x8 x9 m
def l1B  (K1 : Option Addr → Nat → Nat → Int → Option Addr → Option Addr → Int → Mem → Prop) (x1a : Option Addr) (x1l : Nat) (x1c : Nat) (x2 : Int) (x7 : Option Addr) (x8 : Option Addr) (x9 : Int) (R : Ending → Mem → Prop) (m : Mem) : Prop :=
  Br (decide (x9 < ((x1l : Nat) : Int))) (
    IxS x1a x1l x9 4 fun x44b x44o =>
    LdV m x44b x44o fun v =>
    UnI v .i64 fun x45_0 =>
    LdV m x44b (x44o + 1) fun v =>
    UnI v .i64 fun x45_1 =>
    LdV m x44b (x44o + 2) fun v =>
    UnS v fun x45_2a x45_2l x45_2c =>
    LdV m x44b (x44o + 3) fun v =>
    UnB v fun x45_3 =>
    NewC m #[.int .i64 0, .int .i64 0, .slice none 0 0, .bool false] T_eyotlaw6_Op fun b10 m1 =>
    St1 m1 b10 0 (.int .i64 x45_0) fun m2 =>
    St1 m2 b10 1 (.int .i64 x45_1) fun m3 =>
    St1 m3 b10 2 (.slice x45_2a x45_2l x45_2c) fun m4 =>
    St1 m4 b10 3 (.bool x45_3) fun m5 =>
    LdV m5 b10 2 fun v =>
    UnS v fun x47a x47l x47c =>
    Br (decide (((x47l : Nat) : Int) > 320)) (
      R (.returned (.bool true)) m5) (
      LdV m5 b10 2 fun v =>
      UnS v fun x51a x51l x51c =>
      HC P eyotlaw0_Twin.id #[.slice x51a x51l x51c] m5 (Cont (fun v m6 =>
          UnS v fun x52a x52l x52c =>
          Sub m6 fun r7 =>
          LdV r7 b10 0 fun v =>
          UnI v .i64 fun x55 =>
          LdV r7 b10 1 fun v =>
          UnI v .i64 fun x57 =>
          LdV r7 b10 0 fun v =>
          UnI v .i64 fun x62 =>
          LdV r7 b10 1 fun v =>
          UnI v .i64 fun x64 =>
          LdV r7 b10 2 fun v =>
          UnS v fun x66a x66l x66c =>
          HC P piece_Text_Edit.id #[.pointer x7, .int .i64 x55, .int .i64 x57, .slice x52a x52l x52c] m6 (Cont (fun v m8 =>
              UnI v .i64 fun x59 =>
              Lk r7 m8 fun r9 =>
              HC P eyotref3_Text_Edit.id #[.pointer x8, .int .i64 x62, .int .i64 x64, .slice x66a x66l x66c] m8 (Cont (fun v m10 =>
                  UnI v .i64 fun x67 =>
                  Br (x59 != x67) (
                    R (.returned (.bool false)) m10) (
                    LdV m10 b10 2 fun v =>
                    UnS v fun x72a x72l x72c =>
                    HC P eyotlaw0_Kept.id #[.slice x52a x52l x52c, .slice x72a x72l x72c] m10 (Cont (fun v m11 =>
                        UnB v fun x73 =>
                        Br (!x73) (
                        R (.returned (.bool false)) m11) (
                        HC P eyotlaw0_Spoil.id #[.slice x52a x52l x52c] m11 (Cont (fun v m12 =>
                        UnTup v fun us0 =>
                        UnNil us0 (
                        LdV m12 b10 3 fun v =>
                        UnB v fun x79 =>
                        Br x79 (
                        HC P piece_Text_Copy.id #[.pointer x7] m12 (Cont (fun v m13 =>
                        UnP v fun x81 =>
                        HC P piece_Text_Len.id #[.pointer x7] m13 (Cont (fun v m14 =>
                        UnI v .i64 fun x84 =>
                        NewC m14 #[.int .u8 115, .int .u8 112, .int .u8 111, .int .u8 105, .int .u8 108, .int .u8 116] T_uint8 fun b85 m15 =>
                        ConvN P T_sl_uint8 T_sl_uint8 (.slice (some ⟨b85, 0, none⟩) 6 6) m15 (fun w m16 =>
                        UnS w fun x86a x86l x86c =>
                        HC P piece_Text_Edit.id #[.pointer x7, .int .i64 0, .int .i64 x84, .slice x86a x86l x86c] m16 (Cont (fun v m17 =>
                        UnI v .i64 fun x87 =>
                        k2 K1 x1a x1l x1c x2 x81 x8 x9 R m17) (panicR R))) (panicR R)) (panicR R))) (panicR R))) (
                        k2 K1 x1a x1l x1c x2 x7 x8 x9 R m12))) (panicR R)))) (panicR R)))) (panicR R))) (panicR R))) (panicR R)))) (
    k3   R m)
def l1  (x1a : Option Addr) (x1l : Nat) (x1c : Nat) (x2 : Int) (x7 : Option Addr) (x8 : Option Addr) (x9 : Int) (R : Ending → Mem → Prop) (m : Mem) : Prop :=
  ∃ (I : Nat → Option Addr → Nat → Nat → Int → Option Addr → Option Addr → Int → Mem → Prop) (N : Nat), I N x1a x1l x1c x2 x7 x8 x9 m ∧ ∀ N x1a x1l x1c x2 x7 x8 x9 m, I N x1a x1l x1c x2 x7 x8 x9 m → l1B  (fun x1a x1l x1c x2 x7 x8 x9 m => ∃ N1, N1 < N ∧ I N1 x1a x1l x1c x2 x7 x8 x9 m) x1a x1l x1c x2 x7 x8 x9 R m
noncomputable def l1A  (K1 : Option Addr → Nat → Nat → Int → Option Addr → Option Addr → Int → Mem → Prop) (R : Ending → Mem → Prop) : ACode := (.seq (.code (sL (lP (bB (sR (sL (sR (sR (sR (sR (body))))))))))) (.seq (.block 1 (.seq (.code (sL (bB (sL (sR (lP (bB (sR (sL (sR (sR (sR (sR (body)))))))))))))) (.seq (.code (sL (sR (bB (sL (sR (lP (bB (sR (sL (sR (sR (sR (sR (body))))))))))))))) (.seq (.code (sL (sR (sR (bB (sL (sR (lP (bB (sR (sL (sR (sR (sR (sR (body)))))))))))))))) (.seq (.code (sL (sR (sR (sR (bB (sL (sR (lP (bB (sR (sL (sR (sR (sR (sR (body))))))))))))))))) (.seq (.code (sL (sR (sR (sR (sR (bB (sL (sR (lP (bB (sR (sL (sR (sR (sR (sR (body)))))))))))))))))) (.seq (.code (sL (sR (sR (sR (sR (sR (bB (sL (sR (lP (bB (sR (sL (sR (sR (sR (sR (body))))))))))))))))))) (.cut (k2E fun x1a x1l x1c x2 x7 x8 x9 m => k2 K1 x1a x1l x1c x2 x7 x8 x9 R m) (sR (sR (sR (sR (sR (sR (bB (sL (sR (lP (bB (sR (sL (sR (sR (sR (sR (body)))))))))))))))))))))))))) (.code (sR (sR (lP (bB (sR (sL (sR (sR (sR (sR (body))))))))))))))
def e0 (a0 : Int) (a1a : Option Addr) (a1l : Nat) (a1c : Nat) (a2 : Int) (R : Ending → Mem → Prop) (m : Mem) : Prop :=
  HC P eyotlaw6_begun.id #[] m (Cont (fun v m1 =>
      UnB v fun x23 =>
      Br (!x23) (
        R (.returned (.bool false)) m1) (
        Br (decide (((a1l : Nat) : Int) > 30)) (
          R (.returned (.bool true)) m1) (
          Br (decide (a0 > 200)) (
            R (.returned (.bool true)) m1) (
            HC P piece_New.id #[.int .i64 a0] m1 (Cont (fun v m2 =>
                UnP v fun x33 =>
                HC P eyotref3_NewText.id #[.int .i64 a0] m2 (Cont (fun v m3 =>
                    UnP v fun x35 =>
                    l1  a1a a1l a1c a2 x33 x35 0 R m3) (panicR R))) (panicR R)))))) (panicR R))
noncomputable def e0A (R : Ending → Mem → Prop) : ACode := (.seq (.code (sL (body))) (.seq (.code (sL (sR (body)))) (.seq (.code (sL (sR (sR (body))))) (.seq (.code (sL (sR (sR (sR (body)))))) (.seq (.seq (.code (sL (sL (sR (sR (sR (sR (body)))))))) (.block 0 (.cut (l1E fun x1a x1l x1c x2 x7 x8 x9 m => l1  x1a x1l x1c x2 x7 x8 x9 R m) (.loop (lP (bB (sR (sL (sR (sR (sR (sR (body))))))))))))) (.cut (k3E fun  m => k3   R m) (sR (sR (sR (sR (sR (body))))))))))))
theorem k2_eq (K1 : Option Addr → Nat → Nat → Int → Option Addr → Option Addr → Int → Mem → Prop) (R : Ending → Mem → Prop) (x1a : Option Addr) (x1l : Nat) (x1c : Nat) (x2 : Int) (x7 : Option Addr) (x8 : Option Addr) (x9 : Int) (ρ : Env) (m : Mem) : k2 K1 x1a x1l x1c x2 x7 x8 x9 R m = acpt P od (panicR R) (k2A K1 R) (blockQ 1 (thenQ (acpt P od (panicR R) (.code (sR (sR (lP (bB (sR (sL (sR (sR (sR (sR (body)))))))))))) (thenQ (l1E K1) (blockQ 0 (thenQ (acpt P od (panicR R) (.cut (k3E fun  m => k3   R m) (sR (sR (sR (sR (sR (body))))))) (bodyQ P fn R)) (bodyQ P fn R))))) (thenQ (l1E K1) (blockQ 0 (thenQ (acpt P od (panicR R) (.cut (k3E fun  m => k3   R m) (sR (sR (sR (sR (sR (body))))))) (bodyQ P fn R)) (bodyQ P fn R)))))) (upd (upd (upd (upd (upd ρ 9 (.int .i64 x9)) 8 (.pointer x8)) 7 (.pointer x7)) 2 (.int .i64 x2)) 1 (.slice x1a x1l x1c)) m := by kernel_rfl
theorem k2_er (K1 : Option Addr → Nat → Nat → Int → Option Addr → Option Addr → Int → Mem → Prop) (R : Ending → Mem → Prop) : (k2A K1 R).erase = sR (sR (sR (sR (sR (sR (bB (sL (sR (lP (bB (sR (sL (sR (sR (sR (sR (body))))))))))))))))) := by kernel_rfl
theorem k2_ok (K1 : Option Addr → Nat → Nat → Int → Option Addr → Option Addr → Int → Mem → Prop) (R : Ending → Mem → Prop) (ρ : Env) (m : Mem) (h : (k2E fun x1a x1l x1c x2 x7 x8 x9 m => k2 K1 x1a x1l x1c x2 x7 x8 x9 R m) ρ m) : cpt P od (panicR R) (sR (sR (sR (sR (sR (sR (bB (sL (sR (lP (bB (sR (sL (sR (sR (sR (sR (body)))))))))))))))))) (blockQ 1 (thenQ (acpt P od (panicR R) (.code (sR (sR (lP (bB (sR (sL (sR (sR (sR (sR (body)))))))))))) (thenQ (l1E K1) (blockQ 0 (thenQ (acpt P od (panicR R) (.cut (k3E fun  m => k3   R m) (sR (sR (sR (sR (sR (body))))))) (bodyQ P fn R)) (bodyQ P fn R))))) (thenQ (l1E K1) (blockQ 0 (thenQ (acpt P od (panicR R) (.cut (k3E fun  m => k3   R m) (sR (sR (sR (sR (sR (body))))))) (bodyQ P fn R)) (bodyQ P fn R)))))) ρ m := by
  unfold k2E at h
  obtain ⟨x1a, x1l, x1c, e1, h⟩ := h.ex
  obtain ⟨x2, e2, h⟩ := h.ex
  obtain ⟨x7, e7, h⟩ := h.ex
  obtain ⟨x8, e8, h⟩ := h.ex
  obtain ⟨x9, e9, h⟩ := h.ex
  rw [← upd_self e1, ← upd_self e2, ← upd_self e7, ← upd_self e8, ← upd_self e9]
  rw [← k2_er K1 R]
  refine acpt_sound (P := P) (k2A K1 R) _ _ _ True.intro ?_
  exact Eq.mp (k2_eq K1 R x1a x1l x1c x2 x7 x8 x9 ρ m) h
theorem k3_eq  (R : Ending → Mem → Prop)  (ρ : Env) (m : Mem) : k3   R m = acpt P od (panicR R) (k3A  R) (bodyQ P fn R) ρ m := by kernel_rfl
theorem k3_er  (R : Ending → Mem → Prop) : (k3A  R).erase = sR (sR (sR (sR (sR (body))))) := by kernel_rfl
theorem k3_ok  (R : Ending → Mem → Prop) (ρ : Env) (m : Mem) (h : (k3E fun  m => k3   R m) ρ m) : cpt P od (panicR R) (sR (sR (sR (sR (sR (body)))))) (bodyQ P fn R) ρ m := by
  unfold k3E at h
  rw [← k3_er  R]
  refine acpt_sound (P := P) (k3A  R) _ _ _ True.intro ?_
  exact Eq.mp (k3_eq  R  ρ m) h
theorem l1_eq  (K1 : Option Addr → Nat → Nat → Int → Option Addr → Option Addr → Int → Mem → Prop) (R : Ending → Mem → Prop) (x1a : Option Addr) (x1l : Nat) (x1c : Nat) (x2 : Int) (x7 : Option Addr) (x8 : Option Addr) (x9 : Int) (ρ : Env) (m : Mem) : l1B  K1 x1a x1l x1c x2 x7 x8 x9 R m = acpt P od (panicR R) (l1A  K1 R) (thenQ (l1E K1) (blockQ 0 (thenQ (acpt P od (panicR R) (.cut (k3E fun  m => k3   R m) (sR (sR (sR (sR (sR (body))))))) (bodyQ P fn R)) (bodyQ P fn R)))) (upd (upd (upd (upd (upd ρ 9 (.int .i64 x9)) 8 (.pointer x8)) 7 (.pointer x7)) 2 (.int .i64 x2)) 1 (.slice x1a x1l x1c)) m := by kernel_rfl
theorem l1_er  (K1 : Option Addr → Nat → Nat → Int → Option Addr → Option Addr → Int → Mem → Prop) (R : Ending → Mem → Prop) : (l1A  K1 R).erase = lP (bB (sR (sL (sR (sR (sR (sR (body)))))))) := by kernel_rfl
theorem l1_ok  (R : Ending → Mem → Prop) (ρ : Env) (m : Mem) (h : (l1E fun x1a x1l x1c x2 x7 x8 x9 m => l1  x1a x1l x1c x2 x7 x8 x9 R m) ρ m) : cpt P od (panicR R) (.loop (lP (bB (sR (sL (sR (sR (sR (sR (body)))))))))) (blockQ 0 (thenQ (acpt P od (panicR R) (.cut (k3E fun  m => k3   R m) (sR (sR (sR (sR (sR (body))))))) (bodyQ P fn R)) (bodyQ P fn R))) ρ m := by
  unfold l1E at h
  obtain ⟨x1a, x1l, x1c, e1, h⟩ := h.ex
  obtain ⟨x2, e2, h⟩ := h.ex
  obtain ⟨x7, e7, h⟩ := h.ex
  obtain ⟨x8, e8, h⟩ := h.ex
  obtain ⟨x9, e9, h⟩ := h.ex
  obtain ⟨I, N, h0, hs⟩ := h
  refine ⟨fun N => l1E (I N), N, (by show l1E (I N) ρ m; unfold l1E; rw [e1, e2, e7, e8, e9]; exact h0), ?_⟩
  clear h0 e1 e2 e7 e8 e9
  intro N ρ m h
  unfold l1E at h
  obtain ⟨x1a, x1l, x1c, e1, h⟩ := h.ex
  obtain ⟨x2, e2, h⟩ := h.ex
  obtain ⟨x7, e7, h⟩ := h.ex
  obtain ⟨x8, e8, h⟩ := h.ex
  obtain ⟨x9, e9, h⟩ := h.ex
  refine cpt_mono (P := P) (lP (bB (sR (sL (sR (sR (sR (sR (body))))))))) (Q := thenQ (l1E fun x1a x1l x1c x2 x7 x8 x9 m => ∃ N1, N1 < N ∧ I N1 x1a x1l x1c x2 x7 x8 x9 m) (blockQ 0 (thenQ (acpt P od (panicR R) (.cut (k3E fun  m => k3   R m) (sR (sR (sR (sR (sR (body))))))) (bodyQ P fn R)) (bodyQ P fn R)))) (fun e ρ m h => ?_) ρ m ?_
  · cases e with
    | normal =>
      have h : l1E (fun x1a x1l x1c x2 x7 x8 x9 m => ∃ N1, N1 < N ∧ I N1 x1a x1l x1c x2 x7 x8 x9 m) ρ m := h
      unfold l1E at h
      obtain ⟨x1a, x1l, x1c, e1, h⟩ := h.ex
      obtain ⟨x2, e2, h⟩ := h.ex
      obtain ⟨x7, e7, h⟩ := h.ex
      obtain ⟨x8, e8, h⟩ := h.ex
      obtain ⟨x9, e9, h⟩ := h.ex
      obtain ⟨N1, hlt, h⟩ := h
      exact ⟨N1, hlt, (by show l1E (I N1) ρ m; unfold l1E; rw [e1, e2, e7, e8, e9]; exact h)⟩
    | _ => exact h
  have hh := hs N x1a x1l x1c x2 x7 x8 x9 m h
  generalize (fun x1a x1l x1c x2 x7 x8 x9 m => ∃ N1, N1 < N ∧ I N1 x1a x1l x1c x2 x7 x8 x9 m : Option Addr → Nat → Nat → Int → Option Addr → Option Addr → Int → Mem → Prop) = K1 at hh ⊢
  rw [← upd_self e1, ← upd_self e2, ← upd_self e7, ← upd_self e8, ← upd_self e9]
  rw [← l1_er  K1 R]
  refine acpt_sound (P := P) (l1A  K1 R) _ _ _ ⟨⟨True.intro, ⟨⟨⟨⟨⟨⟨(fun ρ m h => k2_ok K1 R ρ m h), True.intro⟩, True.intro⟩, True.intro⟩, True.intro⟩, True.intro⟩, True.intro⟩⟩, True.intro⟩ ?_
  exact Eq.mp (l1_eq  K1 R x1a x1l x1c x2 x7 x8 x9 ρ m) hh
theorem e0_eq (a0 : Int) (a1a : Option Addr) (a1l : Nat) (a1c : Nat) (a2 : Int) (R : Ending → Mem → Prop) (m : Mem) : e0 a0 a1a a1l a1c a2 R m = acpt P od (panicR R) (e0A R) (bodyQ P fn R) (argE (#[.int .i64 a0, .slice a1a a1l a1c, .int .i64 a2] : Array Value).toList) m := by kernel_rfl
theorem ok (a0 : Int) (a1a : Option Addr) (a1l : Nat) (a1c : Nat) (a2 : Int) (R : Ending → Mem → Prop) (m : Mem) (h : e0 a0 a1a a1l a1c a2 R m) : HC P id #[.int .i64 a0, .slice a1a a1l a1c, .int .i64 a2] m R := by
  refine HC_of (fn := fn) (c := body) (od := od) (tb := tb) Go.Proofs.Try.func7 (by kernel_rfl) (by kernel_rfl) follows (by kernel_rfl) (of_decide_eq_true (by kernel_rfl)) ?_
  have he : (e0A R).erase = body := by kernel_rfl
  rw [← he]
  refine acpt_sound (P := P) (e0A R) _ _ _ ⟨⟨⟨⟨⟨(fun ρ m h => k3_ok  R ρ m h), ⟨(fun ρ m h => l1_ok  R ρ m h), True.intro⟩⟩, True.intro⟩, True.intro⟩, True.intro⟩, True.intro⟩ ?_
  exact Eq.mp (e0_eq a0 a1a a1l a1c a2 R m) h
end eyotlaw6_PieceAll

/-! ### eyot/eyotlaw6.PieceCopies -/
namespace eyotlaw6_PieceCopies
noncomputable def fn : Func := Go.Proofs.Try.f8
noncomputable def body : Code := fn.body.getD .skip
def od : Nat → Ord := fun | 11 => ordL [(0, 3), (1, 3), (2, 3), (3, 3), (4, 3), (5, 1), (6, 3), (7, 3), (8, 3), (9, 3), (10, 1), (11, 3), (12, 3), (13, 3), (14, 3), (15, 0), (16, 2)] .done | 12 => ordL [(0, 3), (2, 3), (1, 0), (3, 0), (4, 1), (5, 3), (6, 3)] .done | 21 => ordL [(0, 3), (1, 3), (2, 3), (3, 3), (4, 3), (5, 1), (6, 3), (7, 3), (8, 3), (9, 3), (10, 1), (11, 3), (12, 3), (13, 3), (14, 3), (15, 0), (16, 2)] .done | _ => .done
def tb : Nat → Tab := fun | 11 => (65536, [0, 0, 0, 6, 14, 30, 0, 0, 192, 448, 960, 0, 0, 6144, 14336, 30720, 65535], [(0, 128, 40), (0, 2, 41), (0, 256, 42), (6, 3298534883328, 43), (8, 4398046511104, 44), (16, 8796093022208, 45), (0, 2, 46), (0, 256, 47), (192, 105553116266496, 48), (256, 140737488355328, 49), (512, 281474976710656, 50), (0, 2, 51), (0, 256, 52), (6144, 3377699720527872, 53), (8192, 4503599627370496, 54), (16384, 9007199254740992, 55), (33825, 18595490404761600, 56)]) | 12 => (0, [0, 1, 0, 7, 15, 15, 63], [(0, 128, 57), (1, 72057594037927936, 58), (0, 128, 59), (6, 288230376151711744, 60), (8, 576460752303423488, 61), (11, 144115188075855872, 10), (63, 1152921504606846976, 11)]) | 21 => (65536, [0, 0, 0, 6, 14, 30, 0, 0, 192, 448, 960, 0, 0, 6144, 14336, 30720, 65535], [(0, 2048, 89), (0, 4, 90), (0, 4096, 91), (6, 1856910058928070412348686336, 92), (8, 2475880078570760549798248448, 93), (16, 4951760157141521099596496896, 94), (0, 4, 95), (0, 4096, 96), (192, 59421121885698253195157962752, 97), (256, 79228162514264337593543950336, 98), (512, 158456325028528675187087900672, 99), (0, 4, 100), (0, 4096, 101), (6144, 1901475900342344102245054808064, 102), (8192, 2535301200456458802993406410752, 103), (16384, 5070602400912917605986812821504, 104), (33825, 10468330457206996949615719219200, 105)]) | _ => (0, [], [])
def k4E (K : Option Addr → Option Addr → Nat → Nat → ByteArray → Option Addr → Mem → Prop) : Env → Mem → Prop := fun ρ m => UnP (ρ 7) fun x7 => UnS (ρ 9) fun x9a x9l x9c => UnStr (ρ 10) fun x10 => UnP (ρ 11) fun x11 => K x7 x9a x9l x9c x10 x11 m
def k4  (x7 : Option Addr) (x9a : Option Addr) (x9l : Nat) (x9c : Nat) (x10 : ByteArray) (x11 : Option Addr) (R : Ending → Mem → Prop) (m : Mem) : Prop :=
  HC P piece_Text_Len.id #[.pointer x11] m (Cont (fun v m1 =>
      UnI v .i64 fun x107 =>
      NewC m1 #[.int .u8 97, .int .u8 108, .int .u8 108] T_uint8 fun b108 m2 =>
      ConvN P T_sl_uint8 T_sl_uint8 (.slice (some ⟨b108, 0, none⟩) 3 3) m2 (fun w m3 =>
        UnS w fun x109a x109l x109c =>
        HC P piece_Text_Edit.id #[.pointer x11, .int .i64 0, .int .i64 x107, .slice x109a x109l x109c] m3 (Cont (fun v m4 =>
            UnI v .i64 fun x110 =>
            HC P piece_Text_Pieces.id #[.pointer x7] m4 (Cont (fun v m5 =>
                UnS v fun x112a x112l x112c =>
                HC P eyotref3_SamePieces.id #[.slice x112a x112l x112c, .slice x9a x9l x9c] m5 (Cont (fun v m6 =>
                    UnB v fun x114 =>
                    Br x114 (
                      HC P piece_Text_Added.id #[.pointer x7] m6 (Cont (fun v m7 =>
                        UnS v fun x117a x117l x117c =>
                        B2S m7 x117a x117l fun s118 =>
                        Br (s118.toList == x10.toList) (
                        HC P piece_Text_Len.id #[.pointer x11] m7 (Cont (fun v m8 =>
                        UnI v .i64 fun x124 =>
                        R (.returned (.bool (x124 == 3))) m8) (panicR R))) (
                        R (.returned (.bool false)) m7)) (panicR R))) (
                      R (.returned (.bool false)) m6)) (panicR R))) (panicR R))) (panicR R))) (panicR R)) (panicR R))
noncomputable def k4A  (R : Ending → Mem → Prop) : ACode := (.code (sR (sR (sR (sR (sR (sR (sR (sR (sR (body)))))))))))
def l3E (K : Option Addr → Nat → Nat → Option Addr → Option Addr → Nat → Nat → ByteArray → Option Addr → Int → Mem → Prop) : Env → Mem → Prop := fun ρ m => UnS (ρ 2) fun x2a x2l x2c => UnP (ρ 7) fun x7 => UnS (ρ 9) fun x9a x9l x9c => UnStr (ρ 10) fun x10 => UnP (ρ 11) fun x11 => UnI (ρ 12) .i64 fun x12 => K x2a x2l x2c x7 x9a x9l x9c x10 x11 x12 m
def l3B  (K3 : Option Addr → Nat → Nat → Option Addr → Option Addr → Nat → Nat → ByteArray → Option Addr → Int → Mem → Prop) (x2a : Option Addr) (x2l : Nat) (x2c : Nat) (x7 : Option Addr) (x9a : Option Addr) (x9l : Nat) (x9c : Nat) (x10 : ByteArray) (x11 : Option Addr) (x12 : Int) (R : Ending → Mem → Prop) (m : Mem) : Prop :=
  Br (decide (x12 < ((x2l : Nat) : Int))) (
    IxS x2a x2l x12 4 fun x83b x83o =>
    LdV m x83b (x83o + 2) fun v =>
    UnS v fun x85a x85l x85c =>
    Br (decide (((x85l : Nat) : Int) > 50)) (
      R (.returned (.bool true)) m) (
      Sub m fun r1 =>
      IxS x2a x2l x12 4 fun x91b x91o =>
      LdV r1 x91b x91o fun v =>
      UnI v .i64 fun x93 =>
      IxS x2a x2l x12 4 fun x96b x96o =>
      LdV r1 x96b (x96o + 1) fun v =>
      UnI v .i64 fun x98 =>
      IxS x2a x2l x12 4 fun x101b x101o =>
      LdV m x101b (x101o + 2) fun v =>
      UnS v fun x103a x103l x103c =>
      HC P piece_Text_Edit.id #[.pointer x11, .int .i64 x93, .int .i64 x98, .slice x103a x103l x103c] m (Cont (fun v m2 =>
          UnI v .i64 fun x104 =>
          K3 x2a x2l x2c x7 x9a x9l x9c x10 x11 (IntKind.i64.wrap (x12 + 1)) m2) (panicR R)))) (
    k4  x7 x9a x9l x9c x10 x11 R m)
def l3  (x2a : Option Addr) (x2l : Nat) (x2c : Nat) (x7 : Option Addr) (x9a : Option Addr) (x9l : Nat) (x9c : Nat) (x10 : ByteArray) (x11 : Option Addr) (x12 : Int) (R : Ending → Mem → Prop) (m : Mem) : Prop :=
  ∃ (I : Nat → Option Addr → Nat → Nat → Option Addr → Option Addr → Nat → Nat → ByteArray → Option Addr → Int → Mem → Prop) (N : Nat), I N x2a x2l x2c x7 x9a x9l x9c x10 x11 x12 m ∧ ∀ N x2a x2l x2c x7 x9a x9l x9c x10 x11 x12 m, I N x2a x2l x2c x7 x9a x9l x9c x10 x11 x12 m → l3B  (fun x2a x2l x2c x7 x9a x9l x9c x10 x11 x12 m => ∃ N1, N1 < N ∧ I N1 x2a x2l x2c x7 x9a x9l x9c x10 x11 x12 m) x2a x2l x2c x7 x9a x9l x9c x10 x11 x12 R m
noncomputable def l3A  (K3 : Option Addr → Nat → Nat → Option Addr → Option Addr → Nat → Nat → ByteArray → Option Addr → Int → Mem → Prop) (R : Ending → Mem → Prop) : ACode := (.code (lP (bB (sR (sL (sR (sR (sR (sR (sR (sR (sR (sR (body))))))))))))))
def k2E (K : Option Addr → Nat → Nat → Option Addr → Mem → Prop) : Env → Mem → Prop := fun ρ m => UnS (ρ 2) fun x2a x2l x2c => UnP (ρ 7) fun x7 => K x2a x2l x2c x7 m
def k2  (x2a : Option Addr) (x2l : Nat) (x2c : Nat) (x7 : Option Addr) (R : Ending → Mem → Prop) (m : Mem) : Prop :=
  Sub m fun r1 =>
  HC P piece_Text_Pieces.id #[.pointer x7] m (Cont (fun v m2 =>
      UnS v fun x57a x57l x57c =>
      Lk r1 m2 fun r3 =>
      HC P piece_Text_Added.id #[.pointer x7] m2 (Cont (fun v m4 =>
          UnS v fun x59a x59l x59c =>
          Lk r3 m4 fun r5 =>
          B2S r5 x59a x59l fun s60 =>
          HC P piece_Text_Copy.id #[.pointer x7] m4 (Cont (fun v m6 =>
              UnP v fun x62 =>
              HC P piece_Text_Pieces.id #[.pointer x62] m6 (Cont (fun v m7 =>
                  UnS v fun x64a x64l x64c =>
                  HC P eyotref3_SamePieces.id #[.slice x64a x64l x64c, .slice x57a x57l x57c] m7 (Cont (fun v m8 =>
                      UnB v fun x66 =>
                      Br (!x66) (
                        R (.returned (.bool false)) m8) (
                        HC P piece_Text_Added.id #[.pointer x62] m8 (Cont (fun v m9 =>
                        UnS v fun x70a x70l x70c =>
                        B2S m9 x70a x70l fun s71 =>
                        Br (!(s71.toList == s60.toList)) (
                        R (.returned (.bool false)) m9) (
                        l3  x2a x2l x2c x7 x57a x57l x57c s60 x62 0 R m9)) (panicR R)))) (panicR R))) (panicR R))) (panicR R))) (panicR R))) (panicR R))
noncomputable def k2A  (R : Ending → Mem → Prop) : ACode := (.seq (.code (sL (sR (sR (sR (sR (sR (body)))))))) (.seq (.code (sL (sR (sR (sR (sR (sR (sR (body))))))))) (.seq (.code (sL (sR (sR (sR (sR (sR (sR (sR (body)))))))))) (.seq (.seq (.code (sL (sL (sR (sR (sR (sR (sR (sR (sR (sR (body)))))))))))) (.block 2 (.cut (l3E fun x2a x2l x2c x7 x9a x9l x9c x10 x11 x12 m => l3  x2a x2l x2c x7 x9a x9l x9c x10 x11 x12 R m) (.loop (lP (bB (sR (sL (sR (sR (sR (sR (sR (sR (sR (sR (body))))))))))))))))) (.cut (k4E fun x7 x9a x9l x9c x10 x11 m => k4  x7 x9a x9l x9c x10 x11 R m) (sR (sR (sR (sR (sR (sR (sR (sR (sR (body)))))))))))))))
def l1E (K : Option Addr → Nat → Nat → Option Addr → Nat → Nat → Option Addr → Int → Mem → Prop) : Env → Mem → Prop := fun ρ m => UnS (ρ 1) fun x1a x1l x1c => UnS (ρ 2) fun x2a x2l x2c => UnP (ρ 7) fun x7 => UnI (ρ 8) .i64 fun x8 => K x1a x1l x1c x2a x2l x2c x7 x8 m
def l1B  (K1 : Option Addr → Nat → Nat → Option Addr → Nat → Nat → Option Addr → Int → Mem → Prop) (x1a : Option Addr) (x1l : Nat) (x1c : Nat) (x2a : Option Addr) (x2l : Nat) (x2c : Nat) (x7 : Option Addr) (x8 : Int) (R : Ending → Mem → Prop) (m : Mem) : Prop :=
  Br (decide (x8 < ((x1l : Nat) : Int))) (
    IxS x1a x1l x8 4 fun x34b x34o =>
    LdV m x34b (x34o + 2) fun v =>
    UnS v fun x36a x36l x36c =>
    Br (decide (((x36l : Nat) : Int) > 50)) (
      R (.returned (.bool true)) m) (
      Sub m fun r1 =>
      IxS x1a x1l x8 4 fun x42b x42o =>
      LdV r1 x42b x42o fun v =>
      UnI v .i64 fun x44 =>
      IxS x1a x1l x8 4 fun x47b x47o =>
      LdV r1 x47b (x47o + 1) fun v =>
      UnI v .i64 fun x49 =>
      IxS x1a x1l x8 4 fun x52b x52o =>
      LdV m x52b (x52o + 2) fun v =>
      UnS v fun x54a x54l x54c =>
      HC P piece_Text_Edit.id #[.pointer x7, .int .i64 x44, .int .i64 x49, .slice x54a x54l x54c] m (Cont (fun v m2 =>
          UnI v .i64 fun x55 =>
          K1 x1a x1l x1c x2a x2l x2c x7 (IntKind.i64.wrap (x8 + 1)) m2) (panicR R)))) (
    k2  x2a x2l x2c x7 R m)
def l1  (x1a : Option Addr) (x1l : Nat) (x1c : Nat) (x2a : Option Addr) (x2l : Nat) (x2c : Nat) (x7 : Option Addr) (x8 : Int) (R : Ending → Mem → Prop) (m : Mem) : Prop :=
  ∃ (I : Nat → Option Addr → Nat → Nat → Option Addr → Nat → Nat → Option Addr → Int → Mem → Prop) (N : Nat), I N x1a x1l x1c x2a x2l x2c x7 x8 m ∧ ∀ N x1a x1l x1c x2a x2l x2c x7 x8 m, I N x1a x1l x1c x2a x2l x2c x7 x8 m → l1B  (fun x1a x1l x1c x2a x2l x2c x7 x8 m => ∃ N1, N1 < N ∧ I N1 x1a x1l x1c x2a x2l x2c x7 x8 m) x1a x1l x1c x2a x2l x2c x7 x8 R m
noncomputable def l1A  (K1 : Option Addr → Nat → Nat → Option Addr → Nat → Nat → Option Addr → Int → Mem → Prop) (R : Ending → Mem → Prop) : ACode := (.code (lP (bB (sR (sL (sR (sR (sR (sR (body))))))))))
def e0 (a0 : Int) (a1a : Option Addr) (a1l : Nat) (a1c : Nat) (a2a : Option Addr) (a2l : Nat) (a2c : Nat) (R : Ending → Mem → Prop) (m : Mem) : Prop :=
  HC P eyotlaw6_begun.id #[] m (Cont (fun v m1 =>
      UnB v fun x13 =>
      Br (!x13) (
        R (.returned (.bool false)) m1) (
        Br (decide (((a1l : Nat) : Int) > 8)) (
          R (.returned (.bool true)) m1) (
          Br (decide (((a2l : Nat) : Int) > 8)) (
            R (.returned (.bool true)) m1) (
            HC P piece_New.id #[.int .i64 (IntKind.i64.wrap a0)] m1 (Cont (fun v m2 =>
                UnP v fun x25 =>
                l1  a1a a1l a1c a2a a2l a2c x25 0 R m2) (panicR R)))))) (panicR R))
noncomputable def e0A (R : Ending → Mem → Prop) : ACode := (.seq (.code (sL (body))) (.seq (.code (sL (sR (body)))) (.seq (.code (sL (sR (sR (body))))) (.seq (.code (sL (sR (sR (sR (body)))))) (.seq (.seq (.code (sL (sL (sR (sR (sR (sR (body)))))))) (.block 0 (.cut (l1E fun x1a x1l x1c x2a x2l x2c x7 x8 m => l1  x1a x1l x1c x2a x2l x2c x7 x8 R m) (.loop (lP (bB (sR (sL (sR (sR (sR (sR (body))))))))))))) (.cut (k2E fun x2a x2l x2c x7 m => k2  x2a x2l x2c x7 R m) (sR (sR (sR (sR (sR (body))))))))))))
theorem k4_eq  (R : Ending → Mem → Prop) (x7 : Option Addr) (x9a : Option Addr) (x9l : Nat) (x9c : Nat) (x10 : ByteArray) (x11 : Option Addr) (ρ : Env) (m : Mem) : k4  x7 x9a x9l x9c x10 x11 R m = acpt P od (panicR R) (k4A  R) (bodyQ P fn R) (upd (upd (upd (upd ρ 11 (.pointer x11)) 10 (.string x10)) 9 (.slice x9a x9l x9c)) 7 (.pointer x7)) m := by kernel_rfl
theorem k4_er  (R : Ending → Mem → Prop) : (k4A  R).erase = sR (sR (sR (sR (sR (sR (sR (sR (sR (body))))))))) := by kernel_rfl
theorem k4_ok  (R : Ending → Mem → Prop) (ρ : Env) (m : Mem) (h : (k4E fun x7 x9a x9l x9c x10 x11 m => k4  x7 x9a x9l x9c x10 x11 R m) ρ m) : cpt P od (panicR R) (sR (sR (sR (sR (sR (sR (sR (sR (sR (body)))))))))) (bodyQ P fn R) ρ m := by
  unfold k4E at h
  obtain ⟨x7, e7, h⟩ := h.ex
  obtain ⟨x9a, x9l, x9c, e9, h⟩ := h.ex
  obtain ⟨x10, e10, h⟩ := h.ex
  obtain ⟨x11, e11, h⟩ := h.ex
  rw [← upd_self e7, ← upd_self e9, ← upd_self e10, ← upd_self e11]
  rw [← k4_er  R]
  refine acpt_sound (P := P) (k4A  R) _ _ _ True.intro ?_
  exact Eq.mp (k4_eq  R x7 x9a x9l x9c x10 x11 ρ m) h
theorem l3_eq  (K3 : Option Addr → Nat → Nat → Option Addr → Option Addr → Nat → Nat → ByteArray → Option Addr → Int → Mem → Prop) (R : Ending → Mem → Prop) (x2a : Option Addr) (x2l : Nat) (x2c : Nat) (x7 : Option Addr) (x9a : Option Addr) (x9l : Nat) (x9c : Nat) (x10 : ByteArray) (x11 : Option Addr) (x12 : Int) (ρ : Env) (m : Mem) : l3B  K3 x2a x2l x2c x7 x9a x9l x9c x10 x11 x12 R m = acpt P od (panicR R) (l3A  K3 R) (thenQ (l3E K3) (blockQ 2 (thenQ (acpt P od (panicR R) (.cut (k4E fun x7 x9a x9l x9c x10 x11 m => k4  x7 x9a x9l x9c x10 x11 R m) (sR (sR (sR (sR (sR (sR (sR (sR (sR (body))))))))))) (bodyQ P fn R)) (bodyQ P fn R)))) (upd (upd (upd (upd (upd (upd ρ 12 (.int .i64 x12)) 11 (.pointer x11)) 10 (.string x10)) 9 (.slice x9a x9l x9c)) 7 (.pointer x7)) 2 (.slice x2a x2l x2c)) m := by kernel_rfl
theorem l3_er  (K3 : Option Addr → Nat → Nat → Option Addr → Option Addr → Nat → Nat → ByteArray → Option Addr → Int → Mem → Prop) (R : Ending → Mem → Prop) : (l3A  K3 R).erase = lP (bB (sR (sL (sR (sR (sR (sR (sR (sR (sR (sR (body)))))))))))) := by kernel_rfl
theorem l3_ok  (R : Ending → Mem → Prop) (ρ : Env) (m : Mem) (h : (l3E fun x2a x2l x2c x7 x9a x9l x9c x10 x11 x12 m => l3  x2a x2l x2c x7 x9a x9l x9c x10 x11 x12 R m) ρ m) : cpt P od (panicR R) (.loop (lP (bB (sR (sL (sR (sR (sR (sR (sR (sR (sR (sR (body)))))))))))))) (blockQ 2 (thenQ (acpt P od (panicR R) (.cut (k4E fun x7 x9a x9l x9c x10 x11 m => k4  x7 x9a x9l x9c x10 x11 R m) (sR (sR (sR (sR (sR (sR (sR (sR (sR (body))))))))))) (bodyQ P fn R)) (bodyQ P fn R))) ρ m := by
  unfold l3E at h
  obtain ⟨x2a, x2l, x2c, e2, h⟩ := h.ex
  obtain ⟨x7, e7, h⟩ := h.ex
  obtain ⟨x9a, x9l, x9c, e9, h⟩ := h.ex
  obtain ⟨x10, e10, h⟩ := h.ex
  obtain ⟨x11, e11, h⟩ := h.ex
  obtain ⟨x12, e12, h⟩ := h.ex
  obtain ⟨I, N, h0, hs⟩ := h
  refine ⟨fun N => l3E (I N), N, (by show l3E (I N) ρ m; unfold l3E; rw [e2, e7, e9, e10, e11, e12]; exact h0), ?_⟩
  clear h0 e2 e7 e9 e10 e11 e12
  intro N ρ m h
  unfold l3E at h
  obtain ⟨x2a, x2l, x2c, e2, h⟩ := h.ex
  obtain ⟨x7, e7, h⟩ := h.ex
  obtain ⟨x9a, x9l, x9c, e9, h⟩ := h.ex
  obtain ⟨x10, e10, h⟩ := h.ex
  obtain ⟨x11, e11, h⟩ := h.ex
  obtain ⟨x12, e12, h⟩ := h.ex
  refine cpt_mono (P := P) (lP (bB (sR (sL (sR (sR (sR (sR (sR (sR (sR (sR (body))))))))))))) (Q := thenQ (l3E fun x2a x2l x2c x7 x9a x9l x9c x10 x11 x12 m => ∃ N1, N1 < N ∧ I N1 x2a x2l x2c x7 x9a x9l x9c x10 x11 x12 m) (blockQ 2 (thenQ (acpt P od (panicR R) (.cut (k4E fun x7 x9a x9l x9c x10 x11 m => k4  x7 x9a x9l x9c x10 x11 R m) (sR (sR (sR (sR (sR (sR (sR (sR (sR (body))))))))))) (bodyQ P fn R)) (bodyQ P fn R)))) (fun e ρ m h => ?_) ρ m ?_
  · cases e with
    | normal =>
      have h : l3E (fun x2a x2l x2c x7 x9a x9l x9c x10 x11 x12 m => ∃ N1, N1 < N ∧ I N1 x2a x2l x2c x7 x9a x9l x9c x10 x11 x12 m) ρ m := h
      unfold l3E at h
      obtain ⟨x2a, x2l, x2c, e2, h⟩ := h.ex
      obtain ⟨x7, e7, h⟩ := h.ex
      obtain ⟨x9a, x9l, x9c, e9, h⟩ := h.ex
      obtain ⟨x10, e10, h⟩ := h.ex
      obtain ⟨x11, e11, h⟩ := h.ex
      obtain ⟨x12, e12, h⟩ := h.ex
      obtain ⟨N1, hlt, h⟩ := h
      exact ⟨N1, hlt, (by show l3E (I N1) ρ m; unfold l3E; rw [e2, e7, e9, e10, e11, e12]; exact h)⟩
    | _ => exact h
  have hh := hs N x2a x2l x2c x7 x9a x9l x9c x10 x11 x12 m h
  generalize (fun x2a x2l x2c x7 x9a x9l x9c x10 x11 x12 m => ∃ N1, N1 < N ∧ I N1 x2a x2l x2c x7 x9a x9l x9c x10 x11 x12 m : Option Addr → Nat → Nat → Option Addr → Option Addr → Nat → Nat → ByteArray → Option Addr → Int → Mem → Prop) = K3 at hh ⊢
  rw [← upd_self e2, ← upd_self e7, ← upd_self e9, ← upd_self e10, ← upd_self e11, ← upd_self e12]
  rw [← l3_er  K3 R]
  refine acpt_sound (P := P) (l3A  K3 R) _ _ _ True.intro ?_
  exact Eq.mp (l3_eq  K3 R x2a x2l x2c x7 x9a x9l x9c x10 x11 x12 ρ m) hh
theorem k2_eq  (R : Ending → Mem → Prop) (x2a : Option Addr) (x2l : Nat) (x2c : Nat) (x7 : Option Addr) (ρ : Env) (m : Mem) : k2  x2a x2l x2c x7 R m = acpt P od (panicR R) (k2A  R) (bodyQ P fn R) (upd (upd ρ 7 (.pointer x7)) 2 (.slice x2a x2l x2c)) m := by kernel_rfl
theorem k2_er  (R : Ending → Mem → Prop) : (k2A  R).erase = sR (sR (sR (sR (sR (body))))) := by kernel_rfl
theorem k2_ok  (R : Ending → Mem → Prop) (ρ : Env) (m : Mem) (h : (k2E fun x2a x2l x2c x7 m => k2  x2a x2l x2c x7 R m) ρ m) : cpt P od (panicR R) (sR (sR (sR (sR (sR (body)))))) (bodyQ P fn R) ρ m := by
  unfold k2E at h
  obtain ⟨x2a, x2l, x2c, e2, h⟩ := h.ex
  obtain ⟨x7, e7, h⟩ := h.ex
  rw [← upd_self e2, ← upd_self e7]
  rw [← k2_er  R]
  refine acpt_sound (P := P) (k2A  R) _ _ _ ⟨⟨⟨⟨(fun ρ m h => k4_ok  R ρ m h), ⟨(fun ρ m h => l3_ok  R ρ m h), True.intro⟩⟩, True.intro⟩, True.intro⟩, True.intro⟩ ?_
  exact Eq.mp (k2_eq  R x2a x2l x2c x7 ρ m) h
theorem l1_eq  (K1 : Option Addr → Nat → Nat → Option Addr → Nat → Nat → Option Addr → Int → Mem → Prop) (R : Ending → Mem → Prop) (x1a : Option Addr) (x1l : Nat) (x1c : Nat) (x2a : Option Addr) (x2l : Nat) (x2c : Nat) (x7 : Option Addr) (x8 : Int) (ρ : Env) (m : Mem) : l1B  K1 x1a x1l x1c x2a x2l x2c x7 x8 R m = acpt P od (panicR R) (l1A  K1 R) (thenQ (l1E K1) (blockQ 0 (thenQ (acpt P od (panicR R) (.cut (k2E fun x2a x2l x2c x7 m => k2  x2a x2l x2c x7 R m) (sR (sR (sR (sR (sR (body))))))) (bodyQ P fn R)) (bodyQ P fn R)))) (upd (upd (upd (upd ρ 8 (.int .i64 x8)) 7 (.pointer x7)) 2 (.slice x2a x2l x2c)) 1 (.slice x1a x1l x1c)) m := by kernel_rfl
theorem l1_er  (K1 : Option Addr → Nat → Nat → Option Addr → Nat → Nat → Option Addr → Int → Mem → Prop) (R : Ending → Mem → Prop) : (l1A  K1 R).erase = lP (bB (sR (sL (sR (sR (sR (sR (body)))))))) := by kernel_rfl
theorem l1_ok  (R : Ending → Mem → Prop) (ρ : Env) (m : Mem) (h : (l1E fun x1a x1l x1c x2a x2l x2c x7 x8 m => l1  x1a x1l x1c x2a x2l x2c x7 x8 R m) ρ m) : cpt P od (panicR R) (.loop (lP (bB (sR (sL (sR (sR (sR (sR (body)))))))))) (blockQ 0 (thenQ (acpt P od (panicR R) (.cut (k2E fun x2a x2l x2c x7 m => k2  x2a x2l x2c x7 R m) (sR (sR (sR (sR (sR (body))))))) (bodyQ P fn R)) (bodyQ P fn R))) ρ m := by
  unfold l1E at h
  obtain ⟨x1a, x1l, x1c, e1, h⟩ := h.ex
  obtain ⟨x2a, x2l, x2c, e2, h⟩ := h.ex
  obtain ⟨x7, e7, h⟩ := h.ex
  obtain ⟨x8, e8, h⟩ := h.ex
  obtain ⟨I, N, h0, hs⟩ := h
  refine ⟨fun N => l1E (I N), N, (by show l1E (I N) ρ m; unfold l1E; rw [e1, e2, e7, e8]; exact h0), ?_⟩
  clear h0 e1 e2 e7 e8
  intro N ρ m h
  unfold l1E at h
  obtain ⟨x1a, x1l, x1c, e1, h⟩ := h.ex
  obtain ⟨x2a, x2l, x2c, e2, h⟩ := h.ex
  obtain ⟨x7, e7, h⟩ := h.ex
  obtain ⟨x8, e8, h⟩ := h.ex
  refine cpt_mono (P := P) (lP (bB (sR (sL (sR (sR (sR (sR (body))))))))) (Q := thenQ (l1E fun x1a x1l x1c x2a x2l x2c x7 x8 m => ∃ N1, N1 < N ∧ I N1 x1a x1l x1c x2a x2l x2c x7 x8 m) (blockQ 0 (thenQ (acpt P od (panicR R) (.cut (k2E fun x2a x2l x2c x7 m => k2  x2a x2l x2c x7 R m) (sR (sR (sR (sR (sR (body))))))) (bodyQ P fn R)) (bodyQ P fn R)))) (fun e ρ m h => ?_) ρ m ?_
  · cases e with
    | normal =>
      have h : l1E (fun x1a x1l x1c x2a x2l x2c x7 x8 m => ∃ N1, N1 < N ∧ I N1 x1a x1l x1c x2a x2l x2c x7 x8 m) ρ m := h
      unfold l1E at h
      obtain ⟨x1a, x1l, x1c, e1, h⟩ := h.ex
      obtain ⟨x2a, x2l, x2c, e2, h⟩ := h.ex
      obtain ⟨x7, e7, h⟩ := h.ex
      obtain ⟨x8, e8, h⟩ := h.ex
      obtain ⟨N1, hlt, h⟩ := h
      exact ⟨N1, hlt, (by show l1E (I N1) ρ m; unfold l1E; rw [e1, e2, e7, e8]; exact h)⟩
    | _ => exact h
  have hh := hs N x1a x1l x1c x2a x2l x2c x7 x8 m h
  generalize (fun x1a x1l x1c x2a x2l x2c x7 x8 m => ∃ N1, N1 < N ∧ I N1 x1a x1l x1c x2a x2l x2c x7 x8 m : Option Addr → Nat → Nat → Option Addr → Nat → Nat → Option Addr → Int → Mem → Prop) = K1 at hh ⊢
  rw [← upd_self e1, ← upd_self e2, ← upd_self e7, ← upd_self e8]
  rw [← l1_er  K1 R]
  refine acpt_sound (P := P) (l1A  K1 R) _ _ _ True.intro ?_
  exact Eq.mp (l1_eq  K1 R x1a x1l x1c x2a x2l x2c x7 x8 ρ m) hh
theorem e0_eq (a0 : Int) (a1a : Option Addr) (a1l : Nat) (a1c : Nat) (a2a : Option Addr) (a2l : Nat) (a2c : Nat) (R : Ending → Mem → Prop) (m : Mem) : e0 a0 a1a a1l a1c a2a a2l a2c R m = acpt P od (panicR R) (e0A R) (bodyQ P fn R) (argE (#[.int .u8 a0, .slice a1a a1l a1c, .slice a2a a2l a2c] : Array Value).toList) m := by kernel_rfl
theorem ok (a0 : Int) (a1a : Option Addr) (a1l : Nat) (a1c : Nat) (a2a : Option Addr) (a2l : Nat) (a2c : Nat) (R : Ending → Mem → Prop) (m : Mem) (h : e0 a0 a1a a1l a1c a2a a2l a2c R m) : HC P id #[.int .u8 a0, .slice a1a a1l a1c, .slice a2a a2l a2c] m R := by
  refine HC_of (fn := fn) (c := body) (od := od) (tb := tb) Go.Proofs.Try.func8 (by kernel_rfl) (by kernel_rfl) follows (by kernel_rfl) (of_decide_eq_true (by kernel_rfl)) ?_
  have he : (e0A R).erase = body := by kernel_rfl
  rw [← he]
  refine acpt_sound (P := P) (e0A R) _ _ _ ⟨⟨⟨⟨⟨(fun ρ m h => k2_ok  R ρ m h), ⟨(fun ρ m h => l1_ok  R ρ m h), True.intro⟩⟩, True.intro⟩, True.intro⟩, True.intro⟩, True.intro⟩ ?_
  exact Eq.mp (e0_eq a0 a1a a1l a1c a2a a2l a2c R m) h
end eyotlaw6_PieceCopies

/-! ### eyot/eyotlaw6.begun -/
namespace eyotlaw6_begun
noncomputable def fn : Func := Go.Proofs.Try.f9
noncomputable def body : Code := fn.body.getD .skip
def od : Nat → Ord := fun _ => .done
def tb : Nat → Tab := fun _ => (0, [], [])
def e0  (R : Ending → Mem → Prop) (m : Mem) : Prop :=
  HC P piece_New.id #[.int .i64 4] m (Cont (fun v m1 =>
      UnP v fun x7 =>
      NewC m1 #[.int .u8 120] T_uint8 fun b9 m2 =>
      ConvN P T_sl_uint8 T_sl_uint8 (.slice (some ⟨b9, 0, none⟩) 1 1) m2 (fun w m3 =>
        UnS w fun x10a x10l x10c =>
        HC P piece_Text_Edit.id #[.pointer x7, .int .i64 2, .int .i64 2, .slice x10a x10l x10c] m3 (Cont (fun v m4 =>
            UnI v .i64 fun x11 =>
            HC P piece_Text_Pieces.id #[.pointer x7] m4 (Cont (fun v m5 =>
                UnS v fun x13a x13l x13c =>
                HC P piece_Text_Find.id #[.pointer x7, .int .i64 3] m5 (Cont (fun v m6 =>
                    UnTup v fun us0 =>
                    UnCons us0 fun w us1 =>
                    UnI w .i64 fun x16_0 =>
                    UnCons us1 fun w us2 =>
                    UnI w .i64 fun x16_1 =>
                    UnCons us2 fun w us3 =>
                    UnI w .i64 fun x16_2 =>
                    UnNil us3 (
                      Br (x11 == 0) (
                        Br (((x13l : Nat) : Int) == 3) (
                        IxS x13a x13l 1 3 fun x29b x29o =>
                        LdV m6 x29b x29o fun v =>
                        UnB v fun x31 =>
                        Br x31 (
                        HC P piece_Text_Len.id #[.pointer x7] m6 (Cont (fun v m7 =>
                        UnI v .i64 fun x35 =>
                        Br (x35 == 5) (
                        HC P piece_Text_Added.id #[.pointer x7] m7 (Cont (fun v m8 =>
                        UnS v fun x40a x40l x40c =>
                        B2S m8 x40a x40l fun s41 =>
                        Br (s41.toList == (ByteArray.mk #[120]).toList) (
                        Br (x16_2 == 0) (
                        Br (x16_0 == 2) (
                        R (.returned (.bool (x16_1 == 0))) m8) (
                        R (.returned (.bool false)) m8)) (
                        R (.returned (.bool false)) m8)) (
                        R (.returned (.bool false)) m8)) (panicR R))) (
                        R (.returned (.bool false)) m7)) (panicR R))) (
                        R (.returned (.bool false)) m6)) (
                        R (.returned (.bool false)) m6)) (
                        R (.returned (.bool false)) m6))) (panicR R))) (panicR R))) (panicR R))) (panicR R)) (panicR R))
noncomputable def e0A (R : Ending → Mem → Prop) : ACode := (.code (body))
theorem e0_eq  (R : Ending → Mem → Prop) (m : Mem) : e0  R m = acpt P od (panicR R) (e0A R) (bodyQ P fn R) (argE (#[] : Array Value).toList) m := by kernel_rfl
theorem ok  (R : Ending → Mem → Prop) (m : Mem) (h : e0  R m) : HC P id #[] m R := by
  refine HC_of (fn := fn) (c := body) (od := od) (tb := tb) Go.Proofs.Try.func9 (by kernel_rfl) (by kernel_rfl) follows (by kernel_rfl) (of_decide_eq_true (by kernel_rfl)) ?_
  have he : (e0A R).erase = body := by kernel_rfl
  rw [← he]
  refine acpt_sound (P := P) (e0A R) _ _ _ True.intro ?_
  exact Eq.mp (e0_eq  R m) h
end eyotlaw6_begun

/-! ### eyot/piece.New -/
namespace piece_New
noncomputable def fn : Func := Go.Proofs.Try.f10
noncomputable def body : Code := fn.body.getD .skip
def od : Nat → Ord := fun _ => .done
def tb : Nat → Tab := fun _ => (0, [], [])
def e0 (n_0 : Int) (R : Ending → Mem → Prop) (m : Mem) : Prop :=
  NewC m #[.slice none 0 0, .slice none 0 0] T_piece_Text fun b5 m1 =>
  Br (decide (n_0 > 0)) (
    NewC m1 #[.bool false, .int .i64 0, .int .i64 n_0] T_api_Piece fun b11 m2 =>
    St1 m2 b5 0 (.slice (some ⟨b11, 0, none⟩) 1 1) fun m3 =>
    R (.returned (.pointer (some ⟨b5, 0, none⟩))) m3) (
    R (.returned (.pointer (some ⟨b5, 0, none⟩))) m1)
noncomputable def e0A (R : Ending → Mem → Prop) : ACode := (.code (body))
theorem e0_eq (n_0 : Int) (R : Ending → Mem → Prop) (m : Mem) : e0 n_0 R m = acpt P od (panicR R) (e0A R) (bodyQ P fn R) (argE (#[.int .i64 n_0] : Array Value).toList) m := by kernel_rfl
theorem ok (n_0 : Int) (R : Ending → Mem → Prop) (m : Mem) (h : e0 n_0 R m) : HC P id #[.int .i64 n_0] m R := by
  refine HC_of (fn := fn) (c := body) (od := od) (tb := tb) Go.Proofs.Try.func10 (by kernel_rfl) (by kernel_rfl) follows (by kernel_rfl) (of_decide_eq_true (by kernel_rfl)) ?_
  have he : (e0A R).erase = body := by kernel_rfl
  rw [← he]
  refine acpt_sound (P := P) (e0A R) _ _ _ True.intro ?_
  exact Eq.mp (e0_eq n_0 R m) h
end piece_New

/-! ### eyot/eyotlaw0.Place -/
namespace eyotlaw0_Place
noncomputable def fn : Func := Go.Proofs.Try.f11
noncomputable def body : Code := fn.body.getD .skip
def od : Nat → Ord := fun _ => .done
def tb : Nat → Tab := fun _ => (0, [], [])
def e0 (k_0 : Int) (n_1 : Int) (R : Ending → Mem → Prop) (m : Mem) : Prop :=
  Br (decide (n_1 < 1)) (
    R (.returned (.int .i64 0)) m) (
    NzI n_1 (
      Br (decide ((Int.tmod k_0 n_1) < 0)) (
        R (.returned (.int .i64 (IntKind.i64.wrap ((Int.tmod k_0 n_1) + n_1)))) m) (
        R (.returned (.int .i64 (Int.tmod k_0 n_1))) m)))
noncomputable def e0A (R : Ending → Mem → Prop) : ACode := (.code (body))
theorem e0_eq (k_0 : Int) (n_1 : Int) (R : Ending → Mem → Prop) (m : Mem) : e0 k_0 n_1 R m = acpt P od (panicR R) (e0A R) (bodyQ P fn R) (argE (#[.int .i64 k_0, .int .i64 n_1] : Array Value).toList) m := by kernel_rfl
theorem ok (k_0 : Int) (n_1 : Int) (R : Ending → Mem → Prop) (m : Mem) (h : e0 k_0 n_1 R m) : HC P id #[.int .i64 k_0, .int .i64 n_1] m R := by
  refine HC_of (fn := fn) (c := body) (od := od) (tb := tb) Go.Proofs.Try.func11 (by kernel_rfl) (by kernel_rfl) follows (by kernel_rfl) (of_decide_eq_true (by kernel_rfl)) ?_
  have he : (e0A R).erase = body := by kernel_rfl
  rw [← he]
  refine acpt_sound (P := P) (e0A R) _ _ _ True.intro ?_
  exact Eq.mp (e0_eq k_0 n_1 R m) h
end eyotlaw0_Place

/-! ### (*eyot/piece.Text).Edit -/
namespace piece_Text_Edit
noncomputable def fn : Func := Go.Proofs.Try.f12
noncomputable def body : Code := fn.body.getD .skip
def od : Nat → Ord := fun | 11 => ordL [(0, 3), (1, 3), (2, 3), (3, 3), (4, 1), (5, 3), (6, 3), (7, 3), (8, 3), (9, 1), (10, 3), (11, 3), (12, 3), (13, 3), (14, 3), (15, 2), (16, 2), (17, 3)] .done | _ => .done
def tb : Nat → Tab := fun | 11 => (98304, [0, 0, 2, 6, 14, 30, 0, 64, 192, 448, 960, 0, 2048, 8128, 16382, 32766, 65535, 131071], [(0, 1024, 38), (0, 1, 39), (2, 274877906944, 40), (4, 549755813888, 41), (8, 1099511627776, 42), (16, 2199023255552, 43), (0, 1, 44), (64, 8796093022208, 45), (128, 17592186044416, 46), (256, 35184372088832, 47), (512, 70368744177664, 48), (0, 8, 49), (2048, 281474976710656, 50), (5120, 703687441776640, 51), (8224, 1130297953353728, 52), (16384, 2251799813685248, 53), (32769, 4503737066323968, 54), (131071, 9007199254740992, 11)]) | _ => (0, [], [])
def k2E (K : Option Addr → Int → Option Addr → Nat → Nat → Int → Option Addr → Nat → Nat → Mem → Prop) : Env → Mem → Prop := fun ρ m => UnP (ρ 0) fun x0 => UnI (ρ 2) .i64 fun x2 => UnS (ρ 3) fun x3a x3l x3c => UnI (ρ 9) .i64 fun x9 => UnS (ρ 10) fun x10a x10l x10c => K x0 x2 x3a x3l x3c x9 x10a x10l x10c m
def k2  (x0 : Option Addr) (x2 : Int) (x3a : Option Addr) (x3l : Nat) (x3c : Nat) (x9 : Int) (x10a : Option Addr) (x10l : Nat) (x10c : Nat) (R : Ending → Mem → Prop) (m : Mem) : Prop :=
  NilC x0 (fun x57b x57o =>
    LdV m x57b x57o fun v =>
    UnS v fun x59a x59l x59c =>
    HC P piece_cut.id #[.slice x59a x59l x59c, .int .i64 x2, .int .i64 x9] m (Cont (fun v m1 =>
        UnS v fun x62a x62l x62c =>
        BiN P .append #[T_sl_api_Piece, T_sl_api_Piece] T_sl_api_Piece #[false, false] #[.slice x10a x10l x10c, .slice x62a x62l x62c] m1 (fun w m2 =>
          UnS w fun x63a x63l x63c =>
          HC P piece_joined.id #[.slice x63a x63l x63c] m2 (Cont (fun v m3 =>
              UnS v fun x64a x64l x64c =>
              NilC x0 (fun x65b x65o =>
                St1 m3 x65b x65o (.slice x64a x64l x64c) fun m4 =>
                NilC x0 (fun x69b x69o =>
                  LdV m4 x69b (x69o + 1) fun v =>
                  UnS v fun x71a x71l x71c =>
                  BiN P .append #[T_sl_uint8, T_sl_uint8] T_sl_uint8 #[false, false] #[.slice x71a x71l x71c, .slice x3a x3l x3c] m4 (fun w m5 =>
                    UnS w fun x73a x73l x73c =>
                    NilC x0 (fun x74b x74o =>
                      St1 m5 x74b (x74o + 1) (.slice x73a x73l x73c) fun m6 =>
                      R (.returned (.int .i64 0)) m6) (R (.panicked (nilPanic P)) m5)) (panicR R)) (R (.panicked (nilPanic P)) m4)) (R (.panicked (nilPanic P)) m3)) (panicR R))) (panicR R)) (panicR R))) (R (.panicked (nilPanic P)) m)
noncomputable def k2A  (R : Ending → Mem → Prop) : ACode := (.code (sR (sR (sR (sR (sR (body)))))))
def k1E (K : Option Addr → Int → Int → Option Addr → Nat → Nat → Int → Bool → Mem → Prop) : Env → Mem → Prop := fun ρ m => UnP (ρ 0) fun x0 => UnI (ρ 1) .i64 fun x1 => UnI (ρ 2) .i64 fun x2 => UnS (ρ 3) fun x3a x3l x3c => UnI (ρ 9) .i64 fun x9 => UnB (ρ 13) fun x13 => K x0 x1 x2 x3a x3l x3c x9 x13 m
def k1  (x0 : Option Addr) (x1 : Int) (x2 : Int) (x3a : Option Addr) (x3l : Nat) (x3c : Nat) (x9 : Int) (x13 : Bool) (R : Ending → Mem → Prop) (m : Mem) : Prop :=
  Br x13 (
    R (.returned (.int .i64 1)) m) (
    Br (decide (((x3l : Nat) : Int) > 300)) (
      R (.returned (.int .i64 10)) m) (
      NilC x0 (fun x29b x29o =>
        LdV m x29b x29o fun v =>
        UnS v fun x31a x31l x31c =>
        HC P piece_cut.id #[.slice x31a x31l x31c, .int .i64 0, .int .i64 x1] m (Cont (fun v m1 =>
            UnS v fun x33a x33l x33c =>
            Br (decide (((x3l : Nat) : Int) > 0)) (
              Sub m1 fun r2 =>
              NilC x0 (fun x39b x39o =>
                LdV r2 x39b (x39o + 1) fun v =>
                UnS v fun x41a x41l x41c =>
                NilC x0 (fun x44b x44o =>
                  LdV r2 x44b (x44o + 1) fun v =>
                  UnS v fun x46a x46l x46c =>
                  NewC m1 #[.bool true, .int .i64 ((x41l : Nat) : Int), .int .i64 (IntKind.i64.wrap (((x46l : Nat) : Int) + ((x3l : Nat) : Int)))] T_api_Piece fun b52 m3 =>
                  BiN P .append #[T_sl_api_Piece, T_sl_api_Piece] T_sl_api_Piece #[false, false] #[.slice x33a x33l x33c, .slice (some ⟨b52, 0, none⟩) 1 1] m3 (fun w m4 =>
                    UnS w fun x53a x53l x53c =>
                    k2  x0 x2 x3a x3l x3c x9 x53a x53l x53c R m4) (panicR R)) (False)) (False)) (
              k2  x0 x2 x3a x3l x3c x9 x33a x33l x33c R m1)) (panicR R))) (R (.panicked (nilPanic P)) m)))
noncomputable def k1A  (R : Ending → Mem → Prop) : ACode := (.code (sR (bB (sL (sR (sR (body)))))))
def e0 (a0 : Option Addr) (a1 : Int) (a2 : Int) (a3a : Option Addr) (a3l : Nat) (a3c : Nat) (R : Ending → Mem → Prop) (m : Mem) : Prop :=
  HC P piece_Text_Len.id #[.pointer a0] m (Cont (fun v m1 =>
      UnI v .i64 fun x12 =>
      Br a0.isNone (
        k1  a0 a1 a2 a3a a3l a3c x12 true R m1) (
        Br (decide (a1 < 0)) (
          k1  a0 a1 a2 a3a a3l a3c x12 true R m1) (
          Br (decide (a1 > a2)) (
            k1  a0 a1 a2 a3a a3l a3c x12 true R m1) (
            k1  a0 a1 a2 a3a a3l a3c x12 (decide (a2 > x12)) R m1)))) (panicR R))
noncomputable def e0A (R : Ending → Mem → Prop) : ACode := (.seq (.code (sL (body))) (.seq (.code (sL (sR (body)))) (.seq (.block 0 (.seq (.code (sL (bB (sL (sR (sR (body))))))) (.cut (k1E fun x0 x1 x2 x3a x3l x3c x9 x13 m => k1  x0 x1 x2 x3a x3l x3c x9 x13 R m) (sR (bB (sL (sR (sR (body))))))))) (.seq (.code (sL (sR (sR (sR (body)))))) (.seq (.code (sL (sR (sR (sR (sR (body))))))) (.cut (k2E fun x0 x2 x3a x3l x3c x9 x10a x10l x10c m => k2  x0 x2 x3a x3l x3c x9 x10a x10l x10c R m) (sR (sR (sR (sR (sR (body))))))))))))
theorem k2_eq  (R : Ending → Mem → Prop) (x0 : Option Addr) (x2 : Int) (x3a : Option Addr) (x3l : Nat) (x3c : Nat) (x9 : Int) (x10a : Option Addr) (x10l : Nat) (x10c : Nat) (ρ : Env) (m : Mem) : k2  x0 x2 x3a x3l x3c x9 x10a x10l x10c R m = acpt P od (panicR R) (k2A  R) (bodyQ P fn R) (upd (upd (upd (upd (upd ρ 10 (.slice x10a x10l x10c)) 9 (.int .i64 x9)) 3 (.slice x3a x3l x3c)) 2 (.int .i64 x2)) 0 (.pointer x0)) m := by kernel_rfl
theorem k2_er  (R : Ending → Mem → Prop) : (k2A  R).erase = sR (sR (sR (sR (sR (body))))) := by kernel_rfl
theorem k2_ok  (R : Ending → Mem → Prop) (ρ : Env) (m : Mem) (h : (k2E fun x0 x2 x3a x3l x3c x9 x10a x10l x10c m => k2  x0 x2 x3a x3l x3c x9 x10a x10l x10c R m) ρ m) : cpt P od (panicR R) (sR (sR (sR (sR (sR (body)))))) (bodyQ P fn R) ρ m := by
  unfold k2E at h
  obtain ⟨x0, e0, h⟩ := h.ex
  obtain ⟨x2, e2, h⟩ := h.ex
  obtain ⟨x3a, x3l, x3c, e3, h⟩ := h.ex
  obtain ⟨x9, e9, h⟩ := h.ex
  obtain ⟨x10a, x10l, x10c, e10, h⟩ := h.ex
  rw [← upd_self e0, ← upd_self e2, ← upd_self e3, ← upd_self e9, ← upd_self e10]
  rw [← k2_er  R]
  refine acpt_sound (P := P) (k2A  R) _ _ _ True.intro ?_
  exact Eq.mp (k2_eq  R x0 x2 x3a x3l x3c x9 x10a x10l x10c ρ m) h
theorem k1_eq  (R : Ending → Mem → Prop) (x0 : Option Addr) (x1 : Int) (x2 : Int) (x3a : Option Addr) (x3l : Nat) (x3c : Nat) (x9 : Int) (x13 : Bool) (ρ : Env) (m : Mem) : k1  x0 x1 x2 x3a x3l x3c x9 x13 R m = acpt P od (panicR R) (k1A  R) (blockQ 0 (thenQ (acpt P od (panicR R) (.seq (.code (sL (sR (sR (sR (body)))))) (.seq (.code (sL (sR (sR (sR (sR (body))))))) (.cut (k2E fun x0 x2 x3a x3l x3c x9 x10a x10l x10c m => k2  x0 x2 x3a x3l x3c x9 x10a x10l x10c R m) (sR (sR (sR (sR (sR (body))))))))) (bodyQ P fn R)) (bodyQ P fn R))) (upd (upd (upd (upd (upd (upd ρ 13 (.bool x13)) 9 (.int .i64 x9)) 3 (.slice x3a x3l x3c)) 2 (.int .i64 x2)) 1 (.int .i64 x1)) 0 (.pointer x0)) m := by kernel_rfl
theorem k1_er  (R : Ending → Mem → Prop) : (k1A  R).erase = sR (bB (sL (sR (sR (body))))) := by kernel_rfl
theorem k1_ok  (R : Ending → Mem → Prop) (ρ : Env) (m : Mem) (h : (k1E fun x0 x1 x2 x3a x3l x3c x9 x13 m => k1  x0 x1 x2 x3a x3l x3c x9 x13 R m) ρ m) : cpt P od (panicR R) (sR (bB (sL (sR (sR (body)))))) (blockQ 0 (thenQ (acpt P od (panicR R) (.seq (.code (sL (sR (sR (sR (body)))))) (.seq (.code (sL (sR (sR (sR (sR (body))))))) (.cut (k2E fun x0 x2 x3a x3l x3c x9 x10a x10l x10c m => k2  x0 x2 x3a x3l x3c x9 x10a x10l x10c R m) (sR (sR (sR (sR (sR (body))))))))) (bodyQ P fn R)) (bodyQ P fn R))) ρ m := by
  unfold k1E at h
  obtain ⟨x0, e0, h⟩ := h.ex
  obtain ⟨x1, e1, h⟩ := h.ex
  obtain ⟨x2, e2, h⟩ := h.ex
  obtain ⟨x3a, x3l, x3c, e3, h⟩ := h.ex
  obtain ⟨x9, e9, h⟩ := h.ex
  obtain ⟨x13, e13, h⟩ := h.ex
  rw [← upd_self e0, ← upd_self e1, ← upd_self e2, ← upd_self e3, ← upd_self e9, ← upd_self e13]
  rw [← k1_er  R]
  refine acpt_sound (P := P) (k1A  R) _ _ _ True.intro ?_
  exact Eq.mp (k1_eq  R x0 x1 x2 x3a x3l x3c x9 x13 ρ m) h
theorem e0_eq (a0 : Option Addr) (a1 : Int) (a2 : Int) (a3a : Option Addr) (a3l : Nat) (a3c : Nat) (R : Ending → Mem → Prop) (m : Mem) : e0 a0 a1 a2 a3a a3l a3c R m = acpt P od (panicR R) (e0A R) (bodyQ P fn R) (argE (#[.pointer a0, .int .i64 a1, .int .i64 a2, .slice a3a a3l a3c] : Array Value).toList) m := by kernel_rfl
theorem ok (a0 : Option Addr) (a1 : Int) (a2 : Int) (a3a : Option Addr) (a3l : Nat) (a3c : Nat) (R : Ending → Mem → Prop) (m : Mem) (h : e0 a0 a1 a2 a3a a3l a3c R m) : HC P id #[.pointer a0, .int .i64 a1, .int .i64 a2, .slice a3a a3l a3c] m R := by
  refine HC_of (fn := fn) (c := body) (od := od) (tb := tb) Go.Proofs.Try.func12 (by kernel_rfl) (by kernel_rfl) follows (by kernel_rfl) (of_decide_eq_true (by kernel_rfl)) ?_
  have he : (e0A R).erase = body := by kernel_rfl
  rw [← he]
  refine acpt_sound (P := P) (e0A R) _ _ _ ⟨⟨⟨⟨⟨(fun ρ m h => k2_ok  R ρ m h), True.intro⟩, True.intro⟩, ⟨(fun ρ m h => k1_ok  R ρ m h), True.intro⟩⟩, True.intro⟩, True.intro⟩ ?_
  exact Eq.mp (e0_eq a0 a1 a2 a3a a3l a3c R m) h
end piece_Text_Edit

/-! ### (*eyot/piece.Text).Pieces -/
namespace piece_Text_Pieces
noncomputable def fn : Func := Go.Proofs.Try.f13
noncomputable def body : Code := fn.body.getD .skip
def od : Nat → Ord := fun _ => .done
def tb : Nat → Tab := fun _ => (0, [], [])
def e0 (t_0 : Option Addr) (R : Ending → Mem → Prop) (m : Mem) : Prop :=
  Br t_0.isNone (
    R (.returned (.slice none 0 0)) m) (
    NilC t_0 (fun x6b x6o =>
      LdV m x6b x6o fun v =>
      UnS v fun x8a x8l x8c =>
      HC P slices_Clone_s_api_Piece_api_Piece.id #[.slice x8a x8l x8c] m (Cont (fun v m1 =>
          UnS v fun x9a x9l x9c =>
          R (.returned (.slice x9a x9l x9c)) m1) (panicR R))) (R (.panicked (nilPanic P)) m))
noncomputable def e0A (R : Ending → Mem → Prop) : ACode := (.code (body))
theorem e0_eq (t_0 : Option Addr) (R : Ending → Mem → Prop) (m : Mem) : e0 t_0 R m = acpt P od (panicR R) (e0A R) (bodyQ P fn R) (argE (#[.pointer t_0] : Array Value).toList) m := by kernel_rfl
theorem ok (t_0 : Option Addr) (R : Ending → Mem → Prop) (m : Mem) (h : e0 t_0 R m) : HC P id #[.pointer t_0] m R := by
  refine HC_of (fn := fn) (c := body) (od := od) (tb := tb) Go.Proofs.Try.func13 (by kernel_rfl) (by kernel_rfl) follows (by kernel_rfl) (of_decide_eq_true (by kernel_rfl)) ?_
  have he : (e0A R).erase = body := by kernel_rfl
  rw [← he]
  refine acpt_sound (P := P) (e0A R) _ _ _ True.intro ?_
  exact Eq.mp (e0_eq t_0 R m) h
end piece_Text_Pieces

/-! ### (*eyot/piece.Text).Added -/
namespace piece_Text_Added
noncomputable def fn : Func := Go.Proofs.Try.f14
noncomputable def body : Code := fn.body.getD .skip
def od : Nat → Ord := fun _ => .done
def tb : Nat → Tab := fun _ => (0, [], [])
def e0 (t_0 : Option Addr) (R : Ending → Mem → Prop) (m : Mem) : Prop :=
  Br t_0.isNone (
    R (.returned (.slice none 0 0)) m) (
    NilC t_0 (fun x6b x6o =>
      LdV m x6b (x6o + 1) fun v =>
      UnS v fun x8a x8l x8c =>
      HC P slices_Clone_s_byte_byte.id #[.slice x8a x8l x8c] m (Cont (fun v m1 =>
          UnS v fun x9a x9l x9c =>
          R (.returned (.slice x9a x9l x9c)) m1) (panicR R))) (R (.panicked (nilPanic P)) m))
noncomputable def e0A (R : Ending → Mem → Prop) : ACode := (.code (body))
theorem e0_eq (t_0 : Option Addr) (R : Ending → Mem → Prop) (m : Mem) : e0 t_0 R m = acpt P od (panicR R) (e0A R) (bodyQ P fn R) (argE (#[.pointer t_0] : Array Value).toList) m := by kernel_rfl
theorem ok (t_0 : Option Addr) (R : Ending → Mem → Prop) (m : Mem) (h : e0 t_0 R m) : HC P id #[.pointer t_0] m R := by
  refine HC_of (fn := fn) (c := body) (od := od) (tb := tb) Go.Proofs.Try.func14 (by kernel_rfl) (by kernel_rfl) follows (by kernel_rfl) (of_decide_eq_true (by kernel_rfl)) ?_
  have he : (e0A R).erase = body := by kernel_rfl
  rw [← he]
  refine acpt_sound (P := P) (e0A R) _ _ _ True.intro ?_
  exact Eq.mp (e0_eq t_0 R m) h
end piece_Text_Added

/-! ### (*eyot/piece.Text).Len -/
namespace piece_Text_Len
noncomputable def fn : Func := Go.Proofs.Try.f15
noncomputable def body : Code := fn.body.getD .skip
def od : Nat → Ord := fun _ => .done
def tb : Nat → Tab := fun _ => (0, [], [])
def l1E (K : Int → Option Addr → Nat → Nat → Int → Int → Mem → Prop) : Env → Mem → Prop := fun ρ m => UnI (ρ 3) .i64 fun n_3 => UnS (ρ 11) fun x11a x11l x11c => UnI (ρ 12) .i64 fun x12 => UnI (ρ 13) .i64 fun x13 => K n_3 x11a x11l x11c x12 x13 m
def l1B  (K1 : Int → Option Addr → Nat → Nat → Int → Int → Mem → Prop) (n_3 : Int) (x11a : Option Addr) (x11l : Nat) (x11c : Nat) (x12 : Int) (x13 : Int) (R : Ending → Mem → Prop) (m : Mem) : Prop :=
  Br (decide (x13 < x12)) (
    IxS x11a x11l x13 3 fun x15b x15o =>
    LdV m x15b x15o fun v =>
    UnB v fun x16_0 =>
    LdV m x15b (x15o + 1) fun v =>
    UnI v .i64 fun x16_1 =>
    LdV m x15b (x15o + 2) fun v =>
    UnI v .i64 fun x16_2 =>
    NewC m #[.bool false, .int .i64 0, .int .i64 0] T_api_Piece fun b_p_5 m1 =>
    St1 m1 b_p_5 0 (.bool x16_0) fun m2 =>
    St1 m2 b_p_5 1 (.int .i64 x16_1) fun m3 =>
    St1 m3 b_p_5 2 (.int .i64 x16_2) fun m4 =>
    LdV m4 b_p_5 0 fun v =>
    UnB v fun x18_0 =>
    LdV m4 b_p_5 1 fun v =>
    UnI v .i64 fun x18_1 =>
    LdV m4 b_p_5 2 fun v =>
    UnI v .i64 fun x18_2 =>
    HC P piece_size.id #[.agg #[.bool x18_0, .int .i64 x18_1, .int .i64 x18_2]] m4 (Cont (fun v m5 =>
        UnI v .i64 fun x19 =>
        K1 (IntKind.i64.wrap (n_3 + x19)) x11a x11l x11c x12 (IntKind.i64.wrap (x13 + 1)) m5) (panicR R))) (
    R (.returned (.int .i64 n_3)) m)
def l1  (n_3 : Int) (x11a : Option Addr) (x11l : Nat) (x11c : Nat) (x12 : Int) (x13 : Int) (R : Ending → Mem → Prop) (m : Mem) : Prop :=
  ∃ (I : Nat → Int → Option Addr → Nat → Nat → Int → Int → Mem → Prop) (N : Nat), I N n_3 x11a x11l x11c x12 x13 m ∧ ∀ N n_3 x11a x11l x11c x12 x13 m, I N n_3 x11a x11l x11c x12 x13 m → l1B  (fun n_3 x11a x11l x11c x12 x13 m => ∃ N1, N1 < N ∧ I N1 n_3 x11a x11l x11c x12 x13 m) n_3 x11a x11l x11c x12 x13 R m
noncomputable def l1A  (K1 : Int → Option Addr → Nat → Nat → Int → Int → Mem → Prop) (R : Ending → Mem → Prop) : ACode := (.code (lP (bB (sR (sL (sR (sR (sR (body)))))))))
def e0 (t_0 : Option Addr) (R : Ending → Mem → Prop) (m : Mem) : Prop :=
  Br t_0.isNone (
    R (.returned (.int .i64 0)) m) (
    NilC t_0 (fun x9b x9o =>
      LdV m x9b x9o fun v =>
      UnS v fun x11a x11l x11c =>
      l1  0 x11a x11l x11c ((x11l : Nat) : Int) 0 R m) (R (.panicked (nilPanic P)) m))
noncomputable def e0A (R : Ending → Mem → Prop) : ACode := (.seq (.code (sL (body))) (.seq (.code (sL (sR (body)))) (.seq (.code (sL (sR (sR (body))))) (.seq (.seq (.code (sL (sL (sR (sR (sR (body))))))) (.block 0 (.cut (l1E fun n_3 x11a x11l x11c x12 x13 m => l1  n_3 x11a x11l x11c x12 x13 R m) (.loop (lP (bB (sR (sL (sR (sR (sR (body)))))))))))) (.code (sR (sR (sR (sR (body))))))))))
theorem l1_eq  (K1 : Int → Option Addr → Nat → Nat → Int → Int → Mem → Prop) (R : Ending → Mem → Prop) (n_3 : Int) (x11a : Option Addr) (x11l : Nat) (x11c : Nat) (x12 : Int) (x13 : Int) (ρ : Env) (m : Mem) : l1B  K1 n_3 x11a x11l x11c x12 x13 R m = acpt P od (panicR R) (l1A  K1 R) (thenQ (l1E K1) (blockQ 0 (thenQ (acpt P od (panicR R) (.code (sR (sR (sR (sR (body)))))) (bodyQ P fn R)) (bodyQ P fn R)))) (upd (upd (upd (upd ρ 13 (.int .i64 x13)) 12 (.int .i64 x12)) 11 (.slice x11a x11l x11c)) 3 (.int .i64 n_3)) m := by kernel_rfl
theorem l1_er  (K1 : Int → Option Addr → Nat → Nat → Int → Int → Mem → Prop) (R : Ending → Mem → Prop) : (l1A  K1 R).erase = lP (bB (sR (sL (sR (sR (sR (body))))))) := by kernel_rfl
theorem l1_ok  (R : Ending → Mem → Prop) (ρ : Env) (m : Mem) (h : (l1E fun n_3 x11a x11l x11c x12 x13 m => l1  n_3 x11a x11l x11c x12 x13 R m) ρ m) : cpt P od (panicR R) (.loop (lP (bB (sR (sL (sR (sR (sR (body))))))))) (blockQ 0 (thenQ (acpt P od (panicR R) (.code (sR (sR (sR (sR (body)))))) (bodyQ P fn R)) (bodyQ P fn R))) ρ m := by
  unfold l1E at h
  obtain ⟨n_3, e3, h⟩ := h.ex
  obtain ⟨x11a, x11l, x11c, e11, h⟩ := h.ex
  obtain ⟨x12, e12, h⟩ := h.ex
  obtain ⟨x13, e13, h⟩ := h.ex
  obtain ⟨I, N, h0, hs⟩ := h
  refine ⟨fun N => l1E (I N), N, (by show l1E (I N) ρ m; unfold l1E; rw [e3, e11, e12, e13]; exact h0), ?_⟩
  clear h0 e3 e11 e12 e13
  intro N ρ m h
  unfold l1E at h
  obtain ⟨n_3, e3, h⟩ := h.ex
  obtain ⟨x11a, x11l, x11c, e11, h⟩ := h.ex
  obtain ⟨x12, e12, h⟩ := h.ex
  obtain ⟨x13, e13, h⟩ := h.ex
  refine cpt_mono (P := P) (lP (bB (sR (sL (sR (sR (sR (body)))))))) (Q := thenQ (l1E fun n_3 x11a x11l x11c x12 x13 m => ∃ N1, N1 < N ∧ I N1 n_3 x11a x11l x11c x12 x13 m) (blockQ 0 (thenQ (acpt P od (panicR R) (.code (sR (sR (sR (sR (body)))))) (bodyQ P fn R)) (bodyQ P fn R)))) (fun e ρ m h => ?_) ρ m ?_
  · cases e with
    | normal =>
      have h : l1E (fun n_3 x11a x11l x11c x12 x13 m => ∃ N1, N1 < N ∧ I N1 n_3 x11a x11l x11c x12 x13 m) ρ m := h
      unfold l1E at h
      obtain ⟨n_3, e3, h⟩ := h.ex
      obtain ⟨x11a, x11l, x11c, e11, h⟩ := h.ex
      obtain ⟨x12, e12, h⟩ := h.ex
      obtain ⟨x13, e13, h⟩ := h.ex
      obtain ⟨N1, hlt, h⟩ := h
      exact ⟨N1, hlt, (by show l1E (I N1) ρ m; unfold l1E; rw [e3, e11, e12, e13]; exact h)⟩
    | _ => exact h
  have hh := hs N n_3 x11a x11l x11c x12 x13 m h
  generalize (fun n_3 x11a x11l x11c x12 x13 m => ∃ N1, N1 < N ∧ I N1 n_3 x11a x11l x11c x12 x13 m : Int → Option Addr → Nat → Nat → Int → Int → Mem → Prop) = K1 at hh ⊢
  rw [← upd_self e3, ← upd_self e11, ← upd_self e12, ← upd_self e13]
  rw [← l1_er  K1 R]
  refine acpt_sound (P := P) (l1A  K1 R) _ _ _ True.intro ?_
  exact Eq.mp (l1_eq  K1 R n_3 x11a x11l x11c x12 x13 ρ m) hh
theorem e0_eq (t_0 : Option Addr) (R : Ending → Mem → Prop) (m : Mem) : e0 t_0 R m = acpt P od (panicR R) (e0A R) (bodyQ P fn R) (argE (#[.pointer t_0] : Array Value).toList) m := by kernel_rfl
theorem ok (t_0 : Option Addr) (R : Ending → Mem → Prop) (m : Mem) (h : e0 t_0 R m) : HC P id #[.pointer t_0] m R := by
  refine HC_of (fn := fn) (c := body) (od := od) (tb := tb) Go.Proofs.Try.func15 (by kernel_rfl) (by kernel_rfl) follows (by kernel_rfl) (of_decide_eq_true (by kernel_rfl)) ?_
  have he : (e0A R).erase = body := by kernel_rfl
  rw [← he]
  refine acpt_sound (P := P) (e0A R) _ _ _ ⟨⟨⟨⟨True.intro, ⟨(fun ρ m h => l1_ok  R ρ m h), True.intro⟩⟩, True.intro⟩, True.intro⟩, True.intro⟩ ?_
  exact Eq.mp (e0_eq t_0 R m) h
end piece_Text_Len

/-! ### eyot/eyotlaw6.spell -/
namespace eyotlaw6_spell
noncomputable def fn : Func := Go.Proofs.Try.f16
noncomputable def body : Code := fn.body.getD .skip
def od : Nat → Ord := fun _ => .done
def tb : Nat → Tab := fun _ => (0, [], [])
def k3E (K : Option Addr → Nat → Nat → Option Addr → Nat → Nat → Option Addr → Nat → Nat → Int → Int → Bool → Mem → Prop) : Env → Mem → Prop := fun ρ m => UnS (ρ 3) fun out_3a out_3l out_3c => UnS (ρ 4) fun l_4a l_4l l_4c => UnS (ρ 5) fun added_5a added_5l added_5c => UnI (ρ 6) .i64 fun i_6 => UnI (ρ 7) .i64 fun k_7 => UnB (ρ 50) fun x50 => K out_3a out_3l out_3c l_4a l_4l l_4c added_5a added_5l added_5c i_6 k_7 x50 m
def k3 (K1 : Option Addr → Nat → Nat → Option Addr → Nat → Nat → Option Addr → Nat → Nat → Int → Mem → Prop) (K2 : Option Addr → Nat → Nat → Option Addr → Nat → Nat → Option Addr → Nat → Nat → Int → Int → Mem → Prop) (out_3a : Option Addr) (out_3l : Nat) (out_3c : Nat) (l_4a : Option Addr) (l_4l : Nat) (l_4c : Nat) (added_5a : Option Addr) (added_5l : Nat) (added_5c : Nat) (i_6 : Int) (k_7 : Int) (x50 : Bool) (R : Ending → Mem → Prop) (m : Mem) : Prop :=
  Br x50 (
    IxS added_5a added_5l k_7 1 fun x54b x54o =>
    LdV m x54b x54o fun v =>
    UnI v .u8 fun x55 =>
    NewC m #[.int .u8 x55] T_uint8 fun b56 m1 =>
    BiN P .append #[T_sl_uint8, T_sl_uint8] T_sl_uint8 #[false, false] #[.slice out_3a out_3l out_3c, .slice (some ⟨b56, 0, none⟩) 1 1] m1 (fun w m2 =>
      UnS w fun x57a x57l x57c =>
      K2 x57a x57l x57c l_4a l_4l l_4c added_5a added_5l added_5c i_6 (IntKind.i64.wrap (k_7 + 1)) m2) (panicR R)) (
    K2 out_3a out_3l out_3c l_4a l_4l l_4c added_5a added_5l added_5c i_6 (IntKind.i64.wrap (k_7 + 1)) m)
noncomputable def k3A (K1 : Option Addr → Nat → Nat → Option Addr → Nat → Nat → Option Addr → Nat → Nat → Int → Mem → Prop) (K2 : Option Addr → Nat → Nat → Option Addr → Nat → Nat → Option Addr → Nat → Nat → Int → Int → Mem → Prop) (R : Ending → Mem → Prop) : ACode := (.code (sR (cE (sR (bB (sL (sR (lP (bB (sR (bB (sL (sR (lP (bB (sR (sL (sR (sR (sR (body)))))))))))))))))))))
def l2E (K : Option Addr → Nat → Nat → Option Addr → Nat → Nat → Option Addr → Nat → Nat → Int → Int → Mem → Prop) : Env → Mem → Prop := fun ρ m => UnS (ρ 3) fun out_3a out_3l out_3c => UnS (ρ 4) fun l_4a l_4l l_4c => UnS (ρ 5) fun added_5a added_5l added_5c => UnI (ρ 6) .i64 fun i_6 => UnI (ρ 7) .i64 fun k_7 => K out_3a out_3l out_3c l_4a l_4l l_4c added_5a added_5l added_5c i_6 k_7 m
def l2B (K1 : Option Addr → Nat → Nat → Option Addr → Nat → Nat → Option Addr → Nat → Nat → Int → Mem → Prop) (K2 : Option Addr → Nat → Nat → Option Addr → Nat → Nat → Option Addr → Nat → Nat → Int → Int → Mem → Prop) (out_3a : Option Addr) (out_3l : Nat) (out_3c : Nat) (l_4a : Option Addr) (l_4l : Nat) (l_4c : Nat) (added_5a : Option Addr) (added_5l : Nat) (added_5c : Nat) (i_6 : Int) (k_7 : Int) (R : Ending → Mem → Prop) (m : Mem) : Prop :=
  IxS l_4a l_4l i_6 3 fun x26b x26o =>
  LdV m x26b (x26o + 2) fun v =>
  UnI v .i64 fun x28 =>
  Br (decide (k_7 < x28)) (
    IxS l_4a l_4l i_6 3 fun x34b x34o =>
    LdV m x34b x34o fun v =>
    UnB v fun x36 =>
    Br (!x36) (
      NewC m #[.int .u8 (IntKind.u8.wrap k_7)] T_uint8 fun b41 m1 =>
      BiN P .append #[T_sl_uint8, T_sl_uint8] T_sl_uint8 #[false, false] #[.slice out_3a out_3l out_3c, .slice (some ⟨b41, 0, none⟩) 1 1] m1 (fun w m2 =>
        UnS w fun x42a x42l x42c =>
        K2 x42a x42l x42c l_4a l_4l l_4c added_5a added_5l added_5c i_6 (IntKind.i64.wrap (k_7 + 1)) m2) (panicR R)) (
      Br (decide (k_7 ≥ 0)) (
        k3 K1 K2 out_3a out_3l out_3c l_4a l_4l l_4c added_5a added_5l added_5c i_6 k_7 (decide (k_7 < ((added_5l : Nat) : Int))) R m) (
        k3 K1 K2 out_3a out_3l out_3c l_4a l_4l l_4c added_5a added_5l added_5c i_6 k_7 false R m))) (
    K1 out_3a out_3l out_3c l_4a l_4l l_4c added_5a added_5l added_5c (IntKind.i64.wrap (i_6 + 1)) m)
def l2 (K1 : Option Addr → Nat → Nat → Option Addr → Nat → Nat → Option Addr → Nat → Nat → Int → Mem → Prop) (out_3a : Option Addr) (out_3l : Nat) (out_3c : Nat) (l_4a : Option Addr) (l_4l : Nat) (l_4c : Nat) (added_5a : Option Addr) (added_5l : Nat) (added_5c : Nat) (i_6 : Int) (k_7 : Int) (R : Ending → Mem → Prop) (m : Mem) : Prop :=
  ∃ (I : Nat → Option Addr → Nat → Nat → Option Addr → Nat → Nat → Option Addr → Nat → Nat → Int → Int → Mem → Prop) (N : Nat), I N out_3a out_3l out_3c l_4a l_4l l_4c added_5a added_5l added_5c i_6 k_7 m ∧ ∀ N out_3a out_3l out_3c l_4a l_4l l_4c added_5a added_5l added_5c i_6 k_7 m, I N out_3a out_3l out_3c l_4a l_4l l_4c added_5a added_5l added_5c i_6 k_7 m → l2B K1 (fun out_3a out_3l out_3c l_4a l_4l l_4c added_5a added_5l added_5c i_6 k_7 m => ∃ N1, N1 < N ∧ I N1 out_3a out_3l out_3c l_4a l_4l l_4c added_5a added_5l added_5c i_6 k_7 m) out_3a out_3l out_3c l_4a l_4l l_4c added_5a added_5l added_5c i_6 k_7 R m
noncomputable def l2A (K1 : Option Addr → Nat → Nat → Option Addr → Nat → Nat → Option Addr → Nat → Nat → Int → Mem → Prop) (K2 : Option Addr → Nat → Nat → Option Addr → Nat → Nat → Option Addr → Nat → Nat → Int → Int → Mem → Prop) (R : Ending → Mem → Prop) : ACode := (.seq (.code (sL (lP (bB (sR (bB (sL (sR (lP (bB (sR (sL (sR (sR (sR (body)))))))))))))))) (.seq (.block 3 (.seq (.code (sL (bB (sL (sR (lP (bB (sR (bB (sL (sR (lP (bB (sR (sL (sR (sR (sR (body))))))))))))))))))) (.cond (.tmp 37) (.code (cT (sR (bB (sL (sR (lP (bB (sR (bB (sL (sR (lP (bB (sR (sL (sR (sR (sR (body)))))))))))))))))))) (.seq (.code (sL (cE (sR (bB (sL (sR (lP (bB (sR (bB (sL (sR (lP (bB (sR (sL (sR (sR (sR (body))))))))))))))))))))) (.cut (k3E fun out_3a out_3l out_3c l_4a l_4l l_4c added_5a added_5l added_5c i_6 k_7 x50 m => k3 K1 K2 out_3a out_3l out_3c l_4a l_4l l_4c added_5a added_5l added_5c i_6 k_7 x50 R m) (sR (cE (sR (bB (sL (sR (lP (bB (sR (bB (sL (sR (lP (bB (sR (sL (sR (sR (sR (body))))))))))))))))))))))))) (.code (sR (sR (lP (bB (sR (bB (sL (sR (lP (bB (sR (sL (sR (sR (sR (body)))))))))))))))))))
def l1E (K : Option Addr → Nat → Nat → Option Addr → Nat → Nat → Option Addr → Nat → Nat → Int → Mem → Prop) : Env → Mem → Prop := fun ρ m => UnS (ρ 3) fun out_3a out_3l out_3c => UnS (ρ 4) fun l_4a l_4l l_4c => UnS (ρ 5) fun added_5a added_5l added_5c => UnI (ρ 6) .i64 fun i_6 => K out_3a out_3l out_3c l_4a l_4l l_4c added_5a added_5l added_5c i_6 m
def l1B  (K1 : Option Addr → Nat → Nat → Option Addr → Nat → Nat → Option Addr → Nat → Nat → Int → Mem → Prop) (out_3a : Option Addr) (out_3l : Nat) (out_3c : Nat) (l_4a : Option Addr) (l_4l : Nat) (l_4c : Nat) (added_5a : Option Addr) (added_5l : Nat) (added_5c : Nat) (i_6 : Int) (R : Ending → Mem → Prop) (m : Mem) : Prop :=
  Br (decide (i_6 < ((l_4l : Nat) : Int))) (
    IxS l_4a l_4l i_6 3 fun x20b x20o =>
    LdV m x20b (x20o + 1) fun v =>
    UnI v .i64 fun x22 =>
    l2 K1 out_3a out_3l out_3c l_4a l_4l l_4c added_5a added_5l added_5c i_6 x22 R m) (
    B2S m out_3a out_3l fun s59 =>
    R (.returned (.string s59)) m)
def l1  (out_3a : Option Addr) (out_3l : Nat) (out_3c : Nat) (l_4a : Option Addr) (l_4l : Nat) (l_4c : Nat) (added_5a : Option Addr) (added_5l : Nat) (added_5c : Nat) (i_6 : Int) (R : Ending → Mem → Prop) (m : Mem) : Prop :=
  ∃ (I : Nat → Option Addr → Nat → Nat → Option Addr → Nat → Nat → Option Addr → Nat → Nat → Int → Mem → Prop) (N : Nat), I N out_3a out_3l out_3c l_4a l_4l l_4c added_5a added_5l added_5c i_6 m ∧ ∀ N out_3a out_3l out_3c l_4a l_4l l_4c added_5a added_5l added_5c i_6 m, I N out_3a out_3l out_3c l_4a l_4l l_4c added_5a added_5l added_5c i_6 m → l1B  (fun out_3a out_3l out_3c l_4a l_4l l_4c added_5a added_5l added_5c i_6 m => ∃ N1, N1 < N ∧ I N1 out_3a out_3l out_3c l_4a l_4l l_4c added_5a added_5l added_5c i_6 m) out_3a out_3l out_3c l_4a l_4l l_4c added_5a added_5l added_5c i_6 R m
noncomputable def l1A  (K1 : Option Addr → Nat → Nat → Option Addr → Nat → Nat → Option Addr → Nat → Nat → Int → Mem → Prop) (R : Ending → Mem → Prop) : ACode := (.seq (.code (sL (lP (bB (sR (sL (sR (sR (sR (body)))))))))) (.seq (.block 1 (.seq (.code (sL (bB (sL (sR (lP (bB (sR (sL (sR (sR (sR (body))))))))))))) (.block 2 (.cut (l2E fun out_3a out_3l out_3c l_4a l_4l l_4c added_5a added_5l added_5c i_6 k_7 m => l2 K1 out_3a out_3l out_3c l_4a l_4l l_4c added_5a added_5l added_5c i_6 k_7 R m) (.loop (lP (bB (sR (bB (sL (sR (lP (bB (sR (sL (sR (sR (sR (body))))))))))))))))))) (.code (sR (sR (lP (bB (sR (sL (sR (sR (sR (body)))))))))))))
def e0 (t_0 : Option Addr) (R : Ending → Mem → Prop) (m : Mem) : Prop :=
  HC P piece_Text_Pieces.id #[.pointer t_0] m (Cont (fun v m1 =>
      UnS v fun x9a x9l x9c =>
      HC P piece_Text_Added.id #[.pointer t_0] m1 (Cont (fun v m2 =>
          UnS v fun x11a x11l x11c =>
          l1  none 0 0 x9a x9l x9c x11a x11l x11c 0 R m2) (panicR R))) (panicR R))
noncomputable def e0A (R : Ending → Mem → Prop) : ACode := (.seq (.code (sL (body))) (.seq (.code (sL (sR (body)))) (.seq (.code (sL (sR (sR (body))))) (.seq (.seq (.code (sL (sL (sR (sR (sR (body))))))) (.block 0 (.cut (l1E fun out_3a out_3l out_3c l_4a l_4l l_4c added_5a added_5l added_5c i_6 m => l1  out_3a out_3l out_3c l_4a l_4l l_4c added_5a added_5l added_5c i_6 R m) (.loop (lP (bB (sR (sL (sR (sR (sR (body)))))))))))) (.code (sR (sR (sR (sR (body))))))))))
theorem k3_eq (K1 : Option Addr → Nat → Nat → Option Addr → Nat → Nat → Option Addr → Nat → Nat → Int → Mem → Prop) (K2 : Option Addr → Nat → Nat → Option Addr → Nat → Nat → Option Addr → Nat → Nat → Int → Int → Mem → Prop) (R : Ending → Mem → Prop) (out_3a : Option Addr) (out_3l : Nat) (out_3c : Nat) (l_4a : Option Addr) (l_4l : Nat) (l_4c : Nat) (added_5a : Option Addr) (added_5l : Nat) (added_5c : Nat) (i_6 : Int) (k_7 : Int) (x50 : Bool) (ρ : Env) (m : Mem) : k3 K1 K2 out_3a out_3l out_3c l_4a l_4l l_4c added_5a added_5l added_5c i_6 k_7 x50 R m = acpt P od (panicR R) (k3A K1 K2 R) (blockQ 3 (thenQ (acpt P od (panicR R) (.code (sR (sR (lP (bB (sR (bB (sL (sR (lP (bB (sR (sL (sR (sR (sR (body))))))))))))))))) (thenQ (l2E K2) (blockQ 2 (blockQ 1 (thenQ (acpt P od (panicR R) (.code (sR (sR (lP (bB (sR (sL (sR (sR (sR (body))))))))))) (thenQ (l1E K1) (blockQ 0 (thenQ (acpt P od (panicR R) (.code (sR (sR (sR (sR (body)))))) (bodyQ P fn R)) (bodyQ P fn R))))) (thenQ (l1E K1) (blockQ 0 (thenQ (acpt P od (panicR R) (.code (sR (sR (sR (sR (body)))))) (bodyQ P fn R)) (bodyQ P fn R))))))))) (thenQ (l2E K2) (blockQ 2 (blockQ 1 (thenQ (acpt P od (panicR R) (.code (sR (sR (lP (bB (sR (sL (sR (sR (sR (body))))))))))) (thenQ (l1E K1) (blockQ 0 (thenQ (acpt P od (panicR R) (.code (sR (sR (sR (sR (body)))))) (bodyQ P fn R)) (bodyQ P fn R))))) (thenQ (l1E K1) (blockQ 0 (thenQ (acpt P od (panicR R) (.code (sR (sR (sR (sR (body)))))) (bodyQ P fn R)) (bodyQ P fn R)))))))))) (upd (upd (upd (upd (upd (upd ρ 50 (.bool x50)) 7 (.int .i64 k_7)) 6 (.int .i64 i_6)) 5 (.slice added_5a added_5l added_5c)) 4 (.slice l_4a l_4l l_4c)) 3 (.slice out_3a out_3l out_3c)) m := by kernel_rfl
theorem k3_er (K1 : Option Addr → Nat → Nat → Option Addr → Nat → Nat → Option Addr → Nat → Nat → Int → Mem → Prop) (K2 : Option Addr → Nat → Nat → Option Addr → Nat → Nat → Option Addr → Nat → Nat → Int → Int → Mem → Prop) (R : Ending → Mem → Prop) : (k3A K1 K2 R).erase = sR (cE (sR (bB (sL (sR (lP (bB (sR (bB (sL (sR (lP (bB (sR (sL (sR (sR (sR (body))))))))))))))))))) := by kernel_rfl
theorem k3_ok (K1 : Option Addr → Nat → Nat → Option Addr → Nat → Nat → Option Addr → Nat → Nat → Int → Mem → Prop) (K2 : Option Addr → Nat → Nat → Option Addr → Nat → Nat → Option Addr → Nat → Nat → Int → Int → Mem → Prop) (R : Ending → Mem → Prop) (ρ : Env) (m : Mem) (h : (k3E fun out_3a out_3l out_3c l_4a l_4l l_4c added_5a added_5l added_5c i_6 k_7 x50 m => k3 K1 K2 out_3a out_3l out_3c l_4a l_4l l_4c added_5a added_5l added_5c i_6 k_7 x50 R m) ρ m) : cpt P od (panicR R) (sR (cE (sR (bB (sL (sR (lP (bB (sR (bB (sL (sR (lP (bB (sR (sL (sR (sR (sR (body)))))))))))))))))))) (blockQ 3 (thenQ (acpt P od (panicR R) (.code (sR (sR (lP (bB (sR (bB (sL (sR (lP (bB (sR (sL (sR (sR (sR (body))))))))))))))))) (thenQ (l2E K2) (blockQ 2 (blockQ 1 (thenQ (acpt P od (panicR R) (.code (sR (sR (lP (bB (sR (sL (sR (sR (sR (body))))))))))) (thenQ (l1E K1) (blockQ 0 (thenQ (acpt P od (panicR R) (.code (sR (sR (sR (sR (body)))))) (bodyQ P fn R)) (bodyQ P fn R))))) (thenQ (l1E K1) (blockQ 0 (thenQ (acpt P od (panicR R) (.code (sR (sR (sR (sR (body)))))) (bodyQ P fn R)) (bodyQ P fn R))))))))) (thenQ (l2E K2) (blockQ 2 (blockQ 1 (thenQ (acpt P od (panicR R) (.code (sR (sR (lP (bB (sR (sL (sR (sR (sR (body))))))))))) (thenQ (l1E K1) (blockQ 0 (thenQ (acpt P od (panicR R) (.code (sR (sR (sR (sR (body)))))) (bodyQ P fn R)) (bodyQ P fn R))))) (thenQ (l1E K1) (blockQ 0 (thenQ (acpt P od (panicR R) (.code (sR (sR (sR (sR (body)))))) (bodyQ P fn R)) (bodyQ P fn R)))))))))) ρ m := by
  unfold k3E at h
  obtain ⟨out_3a, out_3l, out_3c, e3, h⟩ := h.ex
  obtain ⟨l_4a, l_4l, l_4c, e4, h⟩ := h.ex
  obtain ⟨added_5a, added_5l, added_5c, e5, h⟩ := h.ex
  obtain ⟨i_6, e6, h⟩ := h.ex
  obtain ⟨k_7, e7, h⟩ := h.ex
  obtain ⟨x50, e50, h⟩ := h.ex
  rw [← upd_self e3, ← upd_self e4, ← upd_self e5, ← upd_self e6, ← upd_self e7, ← upd_self e50]
  rw [← k3_er K1 K2 R]
  refine acpt_sound (P := P) (k3A K1 K2 R) _ _ _ True.intro ?_
  exact Eq.mp (k3_eq K1 K2 R out_3a out_3l out_3c l_4a l_4l l_4c added_5a added_5l added_5c i_6 k_7 x50 ρ m) h
theorem l2_eq (K1 : Option Addr → Nat → Nat → Option Addr → Nat → Nat → Option Addr → Nat → Nat → Int → Mem → Prop) (K2 : Option Addr → Nat → Nat → Option Addr → Nat → Nat → Option Addr → Nat → Nat → Int → Int → Mem → Prop) (R : Ending → Mem → Prop) (out_3a : Option Addr) (out_3l : Nat) (out_3c : Nat) (l_4a : Option Addr) (l_4l : Nat) (l_4c : Nat) (added_5a : Option Addr) (added_5l : Nat) (added_5c : Nat) (i_6 : Int) (k_7 : Int) (ρ : Env) (m : Mem) : l2B K1 K2 out_3a out_3l out_3c l_4a l_4l l_4c added_5a added_5l added_5c i_6 k_7 R m = acpt P od (panicR R) (l2A K1 K2 R) (thenQ (l2E K2) (blockQ 2 (blockQ 1 (thenQ (acpt P od (panicR R) (.code (sR (sR (lP (bB (sR (sL (sR (sR (sR (body))))))))))) (thenQ (l1E K1) (blockQ 0 (thenQ (acpt P od (panicR R) (.code (sR (sR (sR (sR (body)))))) (bodyQ P fn R)) (bodyQ P fn R))))) (thenQ (l1E K1) (blockQ 0 (thenQ (acpt P od (panicR R) (.code (sR (sR (sR (sR (body)))))) (bodyQ P fn R)) (bodyQ P fn R)))))))) (upd (upd (upd (upd (upd ρ 7 (.int .i64 k_7)) 6 (.int .i64 i_6)) 5 (.slice added_5a added_5l added_5c)) 4 (.slice l_4a l_4l l_4c)) 3 (.slice out_3a out_3l out_3c)) m := by kernel_rfl
theorem l2_er (K1 : Option Addr → Nat → Nat → Option Addr → Nat → Nat → Option Addr → Nat → Nat → Int → Mem → Prop) (K2 : Option Addr → Nat → Nat → Option Addr → Nat → Nat → Option Addr → Nat → Nat → Int → Int → Mem → Prop) (R : Ending → Mem → Prop) : (l2A K1 K2 R).erase = lP (bB (sR (bB (sL (sR (lP (bB (sR (sL (sR (sR (sR (body))))))))))))) := by kernel_rfl
theorem l2_ok (K1 : Option Addr → Nat → Nat → Option Addr → Nat → Nat → Option Addr → Nat → Nat → Int → Mem → Prop) (R : Ending → Mem → Prop) (ρ : Env) (m : Mem) (h : (l2E fun out_3a out_3l out_3c l_4a l_4l l_4c added_5a added_5l added_5c i_6 k_7 m => l2 K1 out_3a out_3l out_3c l_4a l_4l l_4c added_5a added_5l added_5c i_6 k_7 R m) ρ m) : cpt P od (panicR R) (.loop (lP (bB (sR (bB (sL (sR (lP (bB (sR (sL (sR (sR (sR (body))))))))))))))) (blockQ 2 (blockQ 1 (thenQ (acpt P od (panicR R) (.code (sR (sR (lP (bB (sR (sL (sR (sR (sR (body))))))))))) (thenQ (l1E K1) (blockQ 0 (thenQ (acpt P od (panicR R) (.code (sR (sR (sR (sR (body)))))) (bodyQ P fn R)) (bodyQ P fn R))))) (thenQ (l1E K1) (blockQ 0 (thenQ (acpt P od (panicR R) (.code (sR (sR (sR (sR (body)))))) (bodyQ P fn R)) (bodyQ P fn R))))))) ρ m := by
  unfold l2E at h
  obtain ⟨out_3a, out_3l, out_3c, e3, h⟩ := h.ex
  obtain ⟨l_4a, l_4l, l_4c, e4, h⟩ := h.ex
  obtain ⟨added_5a, added_5l, added_5c, e5, h⟩ := h.ex
  obtain ⟨i_6, e6, h⟩ := h.ex
  obtain ⟨k_7, e7, h⟩ := h.ex
  obtain ⟨I, N, h0, hs⟩ := h
  refine ⟨fun N => l2E (I N), N, (by show l2E (I N) ρ m; unfold l2E; rw [e3, e4, e5, e6, e7]; exact h0), ?_⟩
  clear h0 e3 e4 e5 e6 e7
  intro N ρ m h
  unfold l2E at h
  obtain ⟨out_3a, out_3l, out_3c, e3, h⟩ := h.ex
  obtain ⟨l_4a, l_4l, l_4c, e4, h⟩ := h.ex
  obtain ⟨added_5a, added_5l, added_5c, e5, h⟩ := h.ex
  obtain ⟨i_6, e6, h⟩ := h.ex
  obtain ⟨k_7, e7, h⟩ := h.ex
  refine cpt_mono (P := P) (lP (bB (sR (bB (sL (sR (lP (bB (sR (sL (sR (sR (sR (body)))))))))))))) (Q := thenQ (l2E fun out_3a out_3l out_3c l_4a l_4l l_4c added_5a added_5l added_5c i_6 k_7 m => ∃ N1, N1 < N ∧ I N1 out_3a out_3l out_3c l_4a l_4l l_4c added_5a added_5l added_5c i_6 k_7 m) (blockQ 2 (blockQ 1 (thenQ (acpt P od (panicR R) (.code (sR (sR (lP (bB (sR (sL (sR (sR (sR (body))))))))))) (thenQ (l1E K1) (blockQ 0 (thenQ (acpt P od (panicR R) (.code (sR (sR (sR (sR (body)))))) (bodyQ P fn R)) (bodyQ P fn R))))) (thenQ (l1E K1) (blockQ 0 (thenQ (acpt P od (panicR R) (.code (sR (sR (sR (sR (body)))))) (bodyQ P fn R)) (bodyQ P fn R)))))))) (fun e ρ m h => ?_) ρ m ?_
  · cases e with
    | normal =>
      have h : l2E (fun out_3a out_3l out_3c l_4a l_4l l_4c added_5a added_5l added_5c i_6 k_7 m => ∃ N1, N1 < N ∧ I N1 out_3a out_3l out_3c l_4a l_4l l_4c added_5a added_5l added_5c i_6 k_7 m) ρ m := h
      unfold l2E at h
      obtain ⟨out_3a, out_3l, out_3c, e3, h⟩ := h.ex
      obtain ⟨l_4a, l_4l, l_4c, e4, h⟩ := h.ex
      obtain ⟨added_5a, added_5l, added_5c, e5, h⟩ := h.ex
      obtain ⟨i_6, e6, h⟩ := h.ex
      obtain ⟨k_7, e7, h⟩ := h.ex
      obtain ⟨N1, hlt, h⟩ := h
      exact ⟨N1, hlt, (by show l2E (I N1) ρ m; unfold l2E; rw [e3, e4, e5, e6, e7]; exact h)⟩
    | _ => exact h
  have hh := hs N out_3a out_3l out_3c l_4a l_4l l_4c added_5a added_5l added_5c i_6 k_7 m h
  generalize (fun out_3a out_3l out_3c l_4a l_4l l_4c added_5a added_5l added_5c i_6 k_7 m => ∃ N1, N1 < N ∧ I N1 out_3a out_3l out_3c l_4a l_4l l_4c added_5a added_5l added_5c i_6 k_7 m : Option Addr → Nat → Nat → Option Addr → Nat → Nat → Option Addr → Nat → Nat → Int → Int → Mem → Prop) = K2 at hh ⊢
  rw [← upd_self e3, ← upd_self e4, ← upd_self e5, ← upd_self e6, ← upd_self e7]
  rw [← l2_er K1 K2 R]
  refine acpt_sound (P := P) (l2A K1 K2 R) _ _ _ ⟨⟨True.intro, ⟨⟨True.intro, ⟨(fun ρ m h => k3_ok K1 K2 R ρ m h), True.intro⟩⟩, True.intro⟩⟩, True.intro⟩ ?_
  exact Eq.mp (l2_eq K1 K2 R out_3a out_3l out_3c l_4a l_4l l_4c added_5a added_5l added_5c i_6 k_7 ρ m) hh
theorem l1_eq  (K1 : Option Addr → Nat → Nat → Option Addr → Nat → Nat → Option Addr → Nat → Nat → Int → Mem → Prop) (R : Ending → Mem → Prop) (out_3a : Option Addr) (out_3l : Nat) (out_3c : Nat) (l_4a : Option Addr) (l_4l : Nat) (l_4c : Nat) (added_5a : Option Addr) (added_5l : Nat) (added_5c : Nat) (i_6 : Int) (ρ : Env) (m : Mem) : l1B  K1 out_3a out_3l out_3c l_4a l_4l l_4c added_5a added_5l added_5c i_6 R m = acpt P od (panicR R) (l1A  K1 R) (thenQ (l1E K1) (blockQ 0 (thenQ (acpt P od (panicR R) (.code (sR (sR (sR (sR (body)))))) (bodyQ P fn R)) (bodyQ P fn R)))) (upd (upd (upd (upd ρ 6 (.int .i64 i_6)) 5 (.slice added_5a added_5l added_5c)) 4 (.slice l_4a l_4l l_4c)) 3 (.slice out_3a out_3l out_3c)) m := by kernel_rfl
theorem l1_er  (K1 : Option Addr → Nat → Nat → Option Addr → Nat → Nat → Option Addr → Nat → Nat → Int → Mem → Prop) (R : Ending → Mem → Prop) : (l1A  K1 R).erase = lP (bB (sR (sL (sR (sR (sR (body))))))) := by kernel_rfl
theorem l1_ok  (R : Ending → Mem → Prop) (ρ : Env) (m : Mem) (h : (l1E fun out_3a out_3l out_3c l_4a l_4l l_4c added_5a added_5l added_5c i_6 m => l1  out_3a out_3l out_3c l_4a l_4l l_4c added_5a added_5l added_5c i_6 R m) ρ m) : cpt P od (panicR R) (.loop (lP (bB (sR (sL (sR (sR (sR (body))))))))) (blockQ 0 (thenQ (acpt P od (panicR R) (.code (sR (sR (sR (sR (body)))))) (bodyQ P fn R)) (bodyQ P fn R))) ρ m := by
  unfold l1E at h
  obtain ⟨out_3a, out_3l, out_3c, e3, h⟩ := h.ex
  obtain ⟨l_4a, l_4l, l_4c, e4, h⟩ := h.ex
  obtain ⟨added_5a, added_5l, added_5c, e5, h⟩ := h.ex
  obtain ⟨i_6, e6, h⟩ := h.ex
  obtain ⟨I, N, h0, hs⟩ := h
  refine ⟨fun N => l1E (I N), N, (by show l1E (I N) ρ m; unfold l1E; rw [e3, e4, e5, e6]; exact h0), ?_⟩
  clear h0 e3 e4 e5 e6
  intro N ρ m h
  unfold l1E at h
  obtain ⟨out_3a, out_3l, out_3c, e3, h⟩ := h.ex
  obtain ⟨l_4a, l_4l, l_4c, e4, h⟩ := h.ex
  obtain ⟨added_5a, added_5l, added_5c, e5, h⟩ := h.ex
  obtain ⟨i_6, e6, h⟩ := h.ex
  refine cpt_mono (P := P) (lP (bB (sR (sL (sR (sR (sR (body)))))))) (Q := thenQ (l1E fun out_3a out_3l out_3c l_4a l_4l l_4c added_5a added_5l added_5c i_6 m => ∃ N1, N1 < N ∧ I N1 out_3a out_3l out_3c l_4a l_4l l_4c added_5a added_5l added_5c i_6 m) (blockQ 0 (thenQ (acpt P od (panicR R) (.code (sR (sR (sR (sR (body)))))) (bodyQ P fn R)) (bodyQ P fn R)))) (fun e ρ m h => ?_) ρ m ?_
  · cases e with
    | normal =>
      have h : l1E (fun out_3a out_3l out_3c l_4a l_4l l_4c added_5a added_5l added_5c i_6 m => ∃ N1, N1 < N ∧ I N1 out_3a out_3l out_3c l_4a l_4l l_4c added_5a added_5l added_5c i_6 m) ρ m := h
      unfold l1E at h
      obtain ⟨out_3a, out_3l, out_3c, e3, h⟩ := h.ex
      obtain ⟨l_4a, l_4l, l_4c, e4, h⟩ := h.ex
      obtain ⟨added_5a, added_5l, added_5c, e5, h⟩ := h.ex
      obtain ⟨i_6, e6, h⟩ := h.ex
      obtain ⟨N1, hlt, h⟩ := h
      exact ⟨N1, hlt, (by show l1E (I N1) ρ m; unfold l1E; rw [e3, e4, e5, e6]; exact h)⟩
    | _ => exact h
  have hh := hs N out_3a out_3l out_3c l_4a l_4l l_4c added_5a added_5l added_5c i_6 m h
  generalize (fun out_3a out_3l out_3c l_4a l_4l l_4c added_5a added_5l added_5c i_6 m => ∃ N1, N1 < N ∧ I N1 out_3a out_3l out_3c l_4a l_4l l_4c added_5a added_5l added_5c i_6 m : Option Addr → Nat → Nat → Option Addr → Nat → Nat → Option Addr → Nat → Nat → Int → Mem → Prop) = K1 at hh ⊢
  rw [← upd_self e3, ← upd_self e4, ← upd_self e5, ← upd_self e6]
  rw [← l1_er  K1 R]
  refine acpt_sound (P := P) (l1A  K1 R) _ _ _ ⟨⟨True.intro, ⟨(fun ρ m h => l2_ok K1 R ρ m h), True.intro⟩⟩, True.intro⟩ ?_
  exact Eq.mp (l1_eq  K1 R out_3a out_3l out_3c l_4a l_4l l_4c added_5a added_5l added_5c i_6 ρ m) hh
theorem e0_eq (t_0 : Option Addr) (R : Ending → Mem → Prop) (m : Mem) : e0 t_0 R m = acpt P od (panicR R) (e0A R) (bodyQ P fn R) (argE (#[.pointer t_0] : Array Value).toList) m := by kernel_rfl
theorem ok (t_0 : Option Addr) (R : Ending → Mem → Prop) (m : Mem) (h : e0 t_0 R m) : HC P id #[.pointer t_0] m R := by
  refine HC_of (fn := fn) (c := body) (od := od) (tb := tb) Go.Proofs.Try.func16 (by kernel_rfl) (by kernel_rfl) follows (by kernel_rfl) (of_decide_eq_true (by kernel_rfl)) ?_
  have he : (e0A R).erase = body := by kernel_rfl
  rw [← he]
  refine acpt_sound (P := P) (e0A R) _ _ _ ⟨⟨⟨⟨True.intro, ⟨(fun ρ m h => l1_ok  R ρ m h), True.intro⟩⟩, True.intro⟩, True.intro⟩, True.intro⟩ ?_
  exact Eq.mp (e0_eq t_0 R m) h
end eyotlaw6_spell

/-! ### (*eyot/piece.Text).Find -/
namespace piece_Text_Find
noncomputable def fn : Func := Go.Proofs.Try.f17
noncomputable def body : Code := fn.body.getD .skip
def od : Nat → Ord := fun _ => .done
def tb : Nat → Tab := fun _ => (0, [], [])
def k2E (K : Int → Int → Mem → Prop) : Env → Mem → Prop := fun ρ m => UnI (ρ 1) .i64 fun at_1 => UnI (ρ 4) .i64 fun piece_4 => K at_1 piece_4 m
def k2  (at_1 : Int) (piece_4 : Int) (R : Ending → Mem → Prop) (m : Mem) : Prop :=
  R (.returned (.tuple #[.int .i64 piece_4, .int .i64 at_1, .int .i64 0])) m
noncomputable def k2A  (R : Ending → Mem → Prop) : ACode := (.code (sR (sR (sR (body)))))
def l1E (K : Option Addr → Int → Int → Mem → Prop) : Env → Mem → Prop := fun ρ m => UnP (ρ 0) fun t_0 => UnI (ρ 1) .i64 fun at_1 => UnI (ρ 4) .i64 fun piece_4 => K t_0 at_1 piece_4 m
def l1B  (K1 : Option Addr → Int → Int → Mem → Prop) (t_0 : Option Addr) (at_1 : Int) (piece_4 : Int) (R : Ending → Mem → Prop) (m : Mem) : Prop :=
  NilC t_0 (fun x17b x17o =>
    LdV m x17b x17o fun v =>
    UnS v fun x19a x19l x19c =>
    IxS x19a x19l piece_4 3 fun x21b x21o =>
    LdV m x21b x21o fun v =>
    UnB v fun x22_0 =>
    LdV m x21b (x21o + 1) fun v =>
    UnI v .i64 fun x22_1 =>
    LdV m x21b (x21o + 2) fun v =>
    UnI v .i64 fun x22_2 =>
    HC P piece_size.id #[.agg #[.bool x22_0, .int .i64 x22_1, .int .i64 x22_2]] m (Cont (fun v m1 =>
        UnI v .i64 fun x23 =>
        Br (decide (at_1 ≥ x23)) (
          NilC t_0 (fun x27b x27o =>
            LdV m1 x27b x27o fun v =>
            UnS v fun x29a x29l x29c =>
            IxS x29a x29l piece_4 3 fun x31b x31o =>
            LdV m1 x31b x31o fun v =>
            UnB v fun x32_0 =>
            LdV m1 x31b (x31o + 1) fun v =>
            UnI v .i64 fun x32_1 =>
            LdV m1 x31b (x31o + 2) fun v =>
            UnI v .i64 fun x32_2 =>
            HC P piece_size.id #[.agg #[.bool x32_0, .int .i64 x32_1, .int .i64 x32_2]] m1 (Cont (fun v m2 =>
                UnI v .i64 fun x33 =>
                K1 t_0 (IntKind.i64.wrap (at_1 - x33)) (IntKind.i64.wrap (piece_4 + 1)) m2) (panicR R))) (R (.panicked (nilPanic P)) m1)) (
          k2  at_1 piece_4 R m1)) (panicR R))) (R (.panicked (nilPanic P)) m)
def l1  (t_0 : Option Addr) (at_1 : Int) (piece_4 : Int) (R : Ending → Mem → Prop) (m : Mem) : Prop :=
  ∃ (I : Nat → Option Addr → Int → Int → Mem → Prop) (N : Nat), I N t_0 at_1 piece_4 m ∧ ∀ N t_0 at_1 piece_4 m, I N t_0 at_1 piece_4 m → l1B  (fun t_0 at_1 piece_4 m => ∃ N1, N1 < N ∧ I N1 t_0 at_1 piece_4 m) t_0 at_1 piece_4 R m
noncomputable def l1A  (K1 : Option Addr → Int → Int → Mem → Prop) (R : Ending → Mem → Prop) : ACode := (.code (lP (bB (sL (sR (sR (body)))))))
def e0 (t_0 : Option Addr) (at_1 : Int) (R : Ending → Mem → Prop) (m : Mem) : Prop :=
  Br (decide (at_1 < 0)) (
    R (.returned (.tuple #[.int .i64 0, .int .i64 0, .int .i64 1])) m) (
    HC P piece_Text_Len.id #[.pointer t_0] m (Cont (fun v m1 =>
        UnI v .i64 fun x12 =>
        Br (decide (at_1 ≥ x12)) (
          R (.returned (.tuple #[.int .i64 0, .int .i64 0, .int .i64 1])) m1) (
          l1  t_0 at_1 0 R m1)) (panicR R)))
noncomputable def e0A (R : Ending → Mem → Prop) : ACode := (.seq (.code (sL (body))) (.seq (.code (sL (sR (body)))) (.seq (.block 0 (.cut (l1E fun t_0 at_1 piece_4 m => l1  t_0 at_1 piece_4 R m) (.loop (lP (bB (sL (sR (sR (body))))))))) (.cut (k2E fun at_1 piece_4 m => k2  at_1 piece_4 R m) (sR (sR (sR (body))))))))
theorem k2_eq  (R : Ending → Mem → Prop) (at_1 : Int) (piece_4 : Int) (ρ : Env) (m : Mem) : k2  at_1 piece_4 R m = acpt P od (panicR R) (k2A  R) (bodyQ P fn R) (upd (upd ρ 4 (.int .i64 piece_4)) 1 (.int .i64 at_1)) m := by kernel_rfl
theorem k2_er  (R : Ending → Mem → Prop) : (k2A  R).erase = sR (sR (sR (body))) := by kernel_rfl
theorem k2_ok  (R : Ending → Mem → Prop) (ρ : Env) (m : Mem) (h : (k2E fun at_1 piece_4 m => k2  at_1 piece_4 R m) ρ m) : cpt P od (panicR R) (sR (sR (sR (body)))) (bodyQ P fn R) ρ m := by
  unfold k2E at h
  obtain ⟨at_1, e1, h⟩ := h.ex
  obtain ⟨piece_4, e4, h⟩ := h.ex
  rw [← upd_self e1, ← upd_self e4]
  rw [← k2_er  R]
  refine acpt_sound (P := P) (k2A  R) _ _ _ True.intro ?_
  exact Eq.mp (k2_eq  R at_1 piece_4 ρ m) h
theorem l1_eq  (K1 : Option Addr → Int → Int → Mem → Prop) (R : Ending → Mem → Prop) (t_0 : Option Addr) (at_1 : Int) (piece_4 : Int) (ρ : Env) (m : Mem) : l1B  K1 t_0 at_1 piece_4 R m = acpt P od (panicR R) (l1A  K1 R) (thenQ (l1E K1) (blockQ 0 (thenQ (acpt P od (panicR R) (.cut (k2E fun at_1 piece_4 m => k2  at_1 piece_4 R m) (sR (sR (sR (body))))) (bodyQ P fn R)) (bodyQ P fn R)))) (upd (upd (upd ρ 4 (.int .i64 piece_4)) 1 (.int .i64 at_1)) 0 (.pointer t_0)) m := by kernel_rfl
theorem l1_er  (K1 : Option Addr → Int → Int → Mem → Prop) (R : Ending → Mem → Prop) : (l1A  K1 R).erase = lP (bB (sL (sR (sR (body))))) := by kernel_rfl
theorem l1_ok  (R : Ending → Mem → Prop) (ρ : Env) (m : Mem) (h : (l1E fun t_0 at_1 piece_4 m => l1  t_0 at_1 piece_4 R m) ρ m) : cpt P od (panicR R) (.loop (lP (bB (sL (sR (sR (body))))))) (blockQ 0 (thenQ (acpt P od (panicR R) (.cut (k2E fun at_1 piece_4 m => k2  at_1 piece_4 R m) (sR (sR (sR (body))))) (bodyQ P fn R)) (bodyQ P fn R))) ρ m := by
  unfold l1E at h
  obtain ⟨t_0, e0, h⟩ := h.ex
  obtain ⟨at_1, e1, h⟩ := h.ex
  obtain ⟨piece_4, e4, h⟩ := h.ex
  obtain ⟨I, N, h0, hs⟩ := h
  refine ⟨fun N => l1E (I N), N, (by show l1E (I N) ρ m; unfold l1E; rw [e0, e1, e4]; exact h0), ?_⟩
  clear h0 e0 e1 e4
  intro N ρ m h
  unfold l1E at h
  obtain ⟨t_0, e0, h⟩ := h.ex
  obtain ⟨at_1, e1, h⟩ := h.ex
  obtain ⟨piece_4, e4, h⟩ := h.ex
  refine cpt_mono (P := P) (lP (bB (sL (sR (sR (body)))))) (Q := thenQ (l1E fun t_0 at_1 piece_4 m => ∃ N1, N1 < N ∧ I N1 t_0 at_1 piece_4 m) (blockQ 0 (thenQ (acpt P od (panicR R) (.cut (k2E fun at_1 piece_4 m => k2  at_1 piece_4 R m) (sR (sR (sR (body))))) (bodyQ P fn R)) (bodyQ P fn R)))) (fun e ρ m h => ?_) ρ m ?_
  · cases e with
    | normal =>
      have h : l1E (fun t_0 at_1 piece_4 m => ∃ N1, N1 < N ∧ I N1 t_0 at_1 piece_4 m) ρ m := h
      unfold l1E at h
      obtain ⟨t_0, e0, h⟩ := h.ex
      obtain ⟨at_1, e1, h⟩ := h.ex
      obtain ⟨piece_4, e4, h⟩ := h.ex
      obtain ⟨N1, hlt, h⟩ := h
      exact ⟨N1, hlt, (by show l1E (I N1) ρ m; unfold l1E; rw [e0, e1, e4]; exact h)⟩
    | _ => exact h
  have hh := hs N t_0 at_1 piece_4 m h
  generalize (fun t_0 at_1 piece_4 m => ∃ N1, N1 < N ∧ I N1 t_0 at_1 piece_4 m : Option Addr → Int → Int → Mem → Prop) = K1 at hh ⊢
  rw [← upd_self e0, ← upd_self e1, ← upd_self e4]
  rw [← l1_er  K1 R]
  refine acpt_sound (P := P) (l1A  K1 R) _ _ _ True.intro ?_
  exact Eq.mp (l1_eq  K1 R t_0 at_1 piece_4 ρ m) hh
theorem e0_eq (t_0 : Option Addr) (at_1 : Int) (R : Ending → Mem → Prop) (m : Mem) : e0 t_0 at_1 R m = acpt P od (panicR R) (e0A R) (bodyQ P fn R) (argE (#[.pointer t_0, .int .i64 at_1] : Array Value).toList) m := by kernel_rfl
theorem ok (t_0 : Option Addr) (at_1 : Int) (R : Ending → Mem → Prop) (m : Mem) (h : e0 t_0 at_1 R m) : HC P id #[.pointer t_0, .int .i64 at_1] m R := by
  refine HC_of (fn := fn) (c := body) (od := od) (tb := tb) Go.Proofs.Try.func17 (by kernel_rfl) (by kernel_rfl) follows (by kernel_rfl) (of_decide_eq_true (by kernel_rfl)) ?_
  have he : (e0A R).erase = body := by kernel_rfl
  rw [← he]
  refine acpt_sound (P := P) (e0A R) _ _ _ ⟨⟨⟨(fun ρ m h => k2_ok  R ρ m h), (fun ρ m h => l1_ok  R ρ m h)⟩, True.intro⟩, True.intro⟩ ?_
  exact Eq.mp (e0_eq t_0 at_1 R m) h
end piece_Text_Find

/-! ### eyot/eyotref3.NewText -/
namespace eyotref3_NewText
noncomputable def fn : Func := Go.Proofs.Try.f18
noncomputable def body : Code := fn.body.getD .skip
def od : Nat → Ord := fun _ => .done
def tb : Nat → Tab := fun _ => (0, [], [])
def l1E (K : Int → Nat → Nat → Int → Mem → Prop) : Env → Mem → Prop := fun ρ m => UnI (ρ 0) .i64 fun n_0 => UnPA (ρ 3) fun t_3b t_3o => UnI (ρ 4) .i64 fun i_4 => K n_0 t_3b t_3o i_4 m
def l1B  (K1 : Int → Nat → Nat → Int → Mem → Prop) (n_0 : Int) (t_3b : Nat) (t_3o : Nat) (i_4 : Int) (R : Ending → Mem → Prop) (m : Mem) : Prop :=
  Br (decide (i_4 < n_0)) (
    LdV m t_3b t_3o fun v =>
    UnS v fun x16a x16l x16c =>
    NewC m #[.bool false, .int .i64 i_4] T_eyotref3_Byte fun b19 m1 =>
    BiN P .append #[T_sl_eyotref3_Byte, T_sl_eyotref3_Byte] T_sl_eyotref3_Byte #[false, false] #[.slice x16a x16l x16c, .slice (some ⟨b19, 0, none⟩) 1 1] m1 (fun w m2 =>
      UnS w fun x20a x20l x20c =>
      St1 m2 t_3b t_3o (.slice x20a x20l x20c) fun m3 =>
      K1 n_0 t_3b t_3o (IntKind.i64.wrap (i_4 + 1)) m3) (panicR R)) (
    R (.returned (.pointer (some ⟨t_3b, t_3o, none⟩))) m)
def l1  (n_0 : Int) (t_3b : Nat) (t_3o : Nat) (i_4 : Int) (R : Ending → Mem → Prop) (m : Mem) : Prop :=
  ∃ (I : Nat → Int → Nat → Nat → Int → Mem → Prop) (N : Nat), I N n_0 t_3b t_3o i_4 m ∧ ∀ N n_0 t_3b t_3o i_4 m, I N n_0 t_3b t_3o i_4 m → l1B  (fun n_0 t_3b t_3o i_4 m => ∃ N1, N1 < N ∧ I N1 n_0 t_3b t_3o i_4 m) n_0 t_3b t_3o i_4 R m
noncomputable def l1A  (K1 : Int → Nat → Nat → Int → Mem → Prop) (R : Ending → Mem → Prop) : ACode := (.code (lP (bB (sR (sL (sR (sR (body))))))))
def e0 (n_0 : Int) (R : Ending → Mem → Prop) (m : Mem) : Prop :=
  NewC m #[.slice none 0 0, .slice none 0 0] T_eyotref3_Text fun b6 m1 =>
  l1  n_0 b6 0 0 R m1
noncomputable def e0A (R : Ending → Mem → Prop) : ACode := (.seq (.code (sL (body))) (.seq (.code (sL (sR (body)))) (.seq (.seq (.code (sL (sL (sR (sR (body)))))) (.block 0 (.cut (l1E fun n_0 t_3b t_3o i_4 m => l1  n_0 t_3b t_3o i_4 R m) (.loop (lP (bB (sR (sL (sR (sR (body))))))))))) (.code (sR (sR (sR (body))))))))
theorem l1_eq  (K1 : Int → Nat → Nat → Int → Mem → Prop) (R : Ending → Mem → Prop) (n_0 : Int) (t_3b : Nat) (t_3o : Nat) (i_4 : Int) (ρ : Env) (m : Mem) : l1B  K1 n_0 t_3b t_3o i_4 R m = acpt P od (panicR R) (l1A  K1 R) (thenQ (l1E K1) (blockQ 0 (thenQ (acpt P od (panicR R) (.code (sR (sR (sR (body))))) (bodyQ P fn R)) (bodyQ P fn R)))) (upd (upd (upd ρ 4 (.int .i64 i_4)) 3 (.pointer (some ⟨t_3b, t_3o, none⟩))) 0 (.int .i64 n_0)) m := by kernel_rfl
theorem l1_er  (K1 : Int → Nat → Nat → Int → Mem → Prop) (R : Ending → Mem → Prop) : (l1A  K1 R).erase = lP (bB (sR (sL (sR (sR (body)))))) := by kernel_rfl
theorem l1_ok  (R : Ending → Mem → Prop) (ρ : Env) (m : Mem) (h : (l1E fun n_0 t_3b t_3o i_4 m => l1  n_0 t_3b t_3o i_4 R m) ρ m) : cpt P od (panicR R) (.loop (lP (bB (sR (sL (sR (sR (body)))))))) (blockQ 0 (thenQ (acpt P od (panicR R) (.code (sR (sR (sR (body))))) (bodyQ P fn R)) (bodyQ P fn R))) ρ m := by
  unfold l1E at h
  obtain ⟨n_0, e0, h⟩ := h.ex
  obtain ⟨t_3b, t_3o, e3, h⟩ := h.ex
  obtain ⟨i_4, e4, h⟩ := h.ex
  obtain ⟨I, N, h0, hs⟩ := h
  refine ⟨fun N => l1E (I N), N, (by show l1E (I N) ρ m; unfold l1E; rw [e0, e3, e4]; exact h0), ?_⟩
  clear h0 e0 e3 e4
  intro N ρ m h
  unfold l1E at h
  obtain ⟨n_0, e0, h⟩ := h.ex
  obtain ⟨t_3b, t_3o, e3, h⟩ := h.ex
  obtain ⟨i_4, e4, h⟩ := h.ex
  refine cpt_mono (P := P) (lP (bB (sR (sL (sR (sR (body))))))) (Q := thenQ (l1E fun n_0 t_3b t_3o i_4 m => ∃ N1, N1 < N ∧ I N1 n_0 t_3b t_3o i_4 m) (blockQ 0 (thenQ (acpt P od (panicR R) (.code (sR (sR (sR (body))))) (bodyQ P fn R)) (bodyQ P fn R)))) (fun e ρ m h => ?_) ρ m ?_
  · cases e with
    | normal =>
      have h : l1E (fun n_0 t_3b t_3o i_4 m => ∃ N1, N1 < N ∧ I N1 n_0 t_3b t_3o i_4 m) ρ m := h
      unfold l1E at h
      obtain ⟨n_0, e0, h⟩ := h.ex
      obtain ⟨t_3b, t_3o, e3, h⟩ := h.ex
      obtain ⟨i_4, e4, h⟩ := h.ex
      obtain ⟨N1, hlt, h⟩ := h
      exact ⟨N1, hlt, (by show l1E (I N1) ρ m; unfold l1E; rw [e0, e3, e4]; exact h)⟩
    | _ => exact h
  have hh := hs N n_0 t_3b t_3o i_4 m h
  generalize (fun n_0 t_3b t_3o i_4 m => ∃ N1, N1 < N ∧ I N1 n_0 t_3b t_3o i_4 m : Int → Nat → Nat → Int → Mem → Prop) = K1 at hh ⊢
  rw [← upd_self e0, ← upd_self e3, ← upd_self e4]
  rw [← l1_er  K1 R]
  refine acpt_sound (P := P) (l1A  K1 R) _ _ _ True.intro ?_
  exact Eq.mp (l1_eq  K1 R n_0 t_3b t_3o i_4 ρ m) hh
theorem e0_eq (n_0 : Int) (R : Ending → Mem → Prop) (m : Mem) : e0 n_0 R m = acpt P od (panicR R) (e0A R) (bodyQ P fn R) (argE (#[.int .i64 n_0] : Array Value).toList) m := by kernel_rfl
theorem ok (n_0 : Int) (R : Ending → Mem → Prop) (m : Mem) (h : e0 n_0 R m) : HC P id #[.int .i64 n_0] m R := by
  refine HC_of (fn := fn) (c := body) (od := od) (tb := tb) Go.Proofs.Try.func18 (by kernel_rfl) (by kernel_rfl) follows (by kernel_rfl) (of_decide_eq_true (by kernel_rfl)) ?_
  have he : (e0A R).erase = body := by kernel_rfl
  rw [← he]
  refine acpt_sound (P := P) (e0A R) _ _ _ ⟨⟨⟨True.intro, ⟨(fun ρ m h => l1_ok  R ρ m h), True.intro⟩⟩, True.intro⟩, True.intro⟩ ?_
  exact Eq.mp (e0_eq n_0 R m) h
end eyotref3_NewText

/-! ### eyot/eyotlaw0.Twin -/
namespace eyotlaw0_Twin
noncomputable def fn : Func := Go.Proofs.Try.f19
noncomputable def body : Code := fn.body.getD .skip
def od : Nat → Ord := fun _ => .done
def tb : Nat → Tab := fun _ => (0, [], [])
def k2E (K : Option Addr → Nat → Nat → Option Addr → Nat → Nat → Mem → Prop) : Env → Mem → Prop := fun ρ m => UnS (ρ 0) fun b_0a b_0l b_0c => UnS (ρ 3) fun x_3a x_3l x_3c => K b_0a b_0l b_0c x_3a x_3l x_3c m
def k2  (b_0a : Option Addr) (b_0l : Nat) (b_0c : Nat) (x_3a : Option Addr) (x_3l : Nat) (x_3c : Nat) (R : Ending → Mem → Prop) (m : Mem) : Prop :=
  SlS x_3a x_3c 0 ((b_0l : Nat) : Int) 1 fun x26a x26l x26c =>
  R (.returned (.slice x26a x26l x26c)) m
noncomputable def k2A  (R : Ending → Mem → Prop) : ACode := (.code (sR (sR (sR (sR (body))))))
def l1E (K : Option Addr → Nat → Nat → Option Addr → Nat → Nat → Int → Mem → Prop) : Env → Mem → Prop := fun ρ m => UnS (ρ 0) fun b_0a b_0l b_0c => UnS (ρ 3) fun x_3a x_3l x_3c => UnI (ρ 4) .i64 fun i_4 => K b_0a b_0l b_0c x_3a x_3l x_3c i_4 m
def l1B  (K1 : Option Addr → Nat → Nat → Option Addr → Nat → Nat → Int → Mem → Prop) (b_0a : Option Addr) (b_0l : Nat) (b_0c : Nat) (x_3a : Option Addr) (x_3l : Nat) (x_3c : Nat) (i_4 : Int) (R : Ending → Mem → Prop) (m : Mem) : Prop :=
  Br (decide (i_4 < ((x_3l : Nat) : Int))) (
    IxS x_3a x_3l i_4 1 fun x22b x22o =>
    St1 m x22b x22o (.int .u8 229) fun m1 =>
    K1 b_0a b_0l b_0c x_3a x_3l x_3c (IntKind.i64.wrap (i_4 + 1)) m1) (
    k2  b_0a b_0l b_0c x_3a x_3l x_3c R m)
def l1  (b_0a : Option Addr) (b_0l : Nat) (b_0c : Nat) (x_3a : Option Addr) (x_3l : Nat) (x_3c : Nat) (i_4 : Int) (R : Ending → Mem → Prop) (m : Mem) : Prop :=
  ∃ (I : Nat → Option Addr → Nat → Nat → Option Addr → Nat → Nat → Int → Mem → Prop) (N : Nat), I N b_0a b_0l b_0c x_3a x_3l x_3c i_4 m ∧ ∀ N b_0a b_0l b_0c x_3a x_3l x_3c i_4 m, I N b_0a b_0l b_0c x_3a x_3l x_3c i_4 m → l1B  (fun b_0a b_0l b_0c x_3a x_3l x_3c i_4 m => ∃ N1, N1 < N ∧ I N1 b_0a b_0l b_0c x_3a x_3l x_3c i_4 m) b_0a b_0l b_0c x_3a x_3l x_3c i_4 R m
noncomputable def l1A  (K1 : Option Addr → Nat → Nat → Option Addr → Nat → Nat → Int → Mem → Prop) (R : Ending → Mem → Prop) : ACode := (.code (lP (bB (sR (sL (sR (sR (sR (body)))))))))
def e0 (b_0a : Option Addr) (b_0l : Nat) (b_0c : Nat) (R : Ending → Mem → Prop) (m : Mem) : Prop :=
  MkS P m T_sl_uint8 (.int .i64 (IntKind.i64.wrap (((b_0l : Nat) : Int) + 3))) (.int .i64 (IntKind.i64.wrap (((b_0l : Nat) : Int) + 3))) (fun w m1 =>
    UnS w fun x8a x8l x8c =>
    BiN P .copy #[T_sl_uint8, T_sl_uint8] T_int #[false, false] #[.slice x8a x8l x8c, .slice b_0a b_0l b_0c] m1 (fun w m2 =>
      UnI w .i64 fun x11 =>
      l1  b_0a b_0l b_0c x8a x8l x8c ((b_0l : Nat) : Int) R m2) (panicR R)) (panicR R)
noncomputable def e0A (R : Ending → Mem → Prop) : ACode := (.seq (.code (sL (body))) (.seq (.code (sL (sR (body)))) (.seq (.code (sL (sR (sR (body))))) (.seq (.seq (.code (sL (sL (sR (sR (sR (body))))))) (.block 0 (.cut (l1E fun b_0a b_0l b_0c x_3a x_3l x_3c i_4 m => l1  b_0a b_0l b_0c x_3a x_3l x_3c i_4 R m) (.loop (lP (bB (sR (sL (sR (sR (sR (body)))))))))))) (.cut (k2E fun b_0a b_0l b_0c x_3a x_3l x_3c m => k2  b_0a b_0l b_0c x_3a x_3l x_3c R m) (sR (sR (sR (sR (body))))))))))
theorem k2_eq  (R : Ending → Mem → Prop) (b_0a : Option Addr) (b_0l : Nat) (b_0c : Nat) (x_3a : Option Addr) (x_3l : Nat) (x_3c : Nat) (ρ : Env) (m : Mem) : k2  b_0a b_0l b_0c x_3a x_3l x_3c R m = acpt P od (panicR R) (k2A  R) (bodyQ P fn R) (upd (upd ρ 3 (.slice x_3a x_3l x_3c)) 0 (.slice b_0a b_0l b_0c)) m := by kernel_rfl
theorem k2_er  (R : Ending → Mem → Prop) : (k2A  R).erase = sR (sR (sR (sR (body)))) := by kernel_rfl
theorem k2_ok  (R : Ending → Mem → Prop) (ρ : Env) (m : Mem) (h : (k2E fun b_0a b_0l b_0c x_3a x_3l x_3c m => k2  b_0a b_0l b_0c x_3a x_3l x_3c R m) ρ m) : cpt P od (panicR R) (sR (sR (sR (sR (body))))) (bodyQ P fn R) ρ m := by
  unfold k2E at h
  obtain ⟨b_0a, b_0l, b_0c, e0, h⟩ := h.ex
  obtain ⟨x_3a, x_3l, x_3c, e3, h⟩ := h.ex
  rw [← upd_self e0, ← upd_self e3]
  rw [← k2_er  R]
  refine acpt_sound (P := P) (k2A  R) _ _ _ True.intro ?_
  exact Eq.mp (k2_eq  R b_0a b_0l b_0c x_3a x_3l x_3c ρ m) h
theorem l1_eq  (K1 : Option Addr → Nat → Nat → Option Addr → Nat → Nat → Int → Mem → Prop) (R : Ending → Mem → Prop) (b_0a : Option Addr) (b_0l : Nat) (b_0c : Nat) (x_3a : Option Addr) (x_3l : Nat) (x_3c : Nat) (i_4 : Int) (ρ : Env) (m : Mem) : l1B  K1 b_0a b_0l b_0c x_3a x_3l x_3c i_4 R m = acpt P od (panicR R) (l1A  K1 R) (thenQ (l1E K1) (blockQ 0 (thenQ (acpt P od (panicR R) (.cut (k2E fun b_0a b_0l b_0c x_3a x_3l x_3c m => k2  b_0a b_0l b_0c x_3a x_3l x_3c R m) (sR (sR (sR (sR (body)))))) (bodyQ P fn R)) (bodyQ P fn R)))) (upd (upd (upd ρ 4 (.int .i64 i_4)) 3 (.slice x_3a x_3l x_3c)) 0 (.slice b_0a b_0l b_0c)) m := by kernel_rfl
theorem l1_er  (K1 : Option Addr → Nat → Nat → Option Addr → Nat → Nat → Int → Mem → Prop) (R : Ending → Mem → Prop) : (l1A  K1 R).erase = lP (bB (sR (sL (sR (sR (sR (body))))))) := by kernel_rfl
theorem l1_ok  (R : Ending → Mem → Prop) (ρ : Env) (m : Mem) (h : (l1E fun b_0a b_0l b_0c x_3a x_3l x_3c i_4 m => l1  b_0a b_0l b_0c x_3a x_3l x_3c i_4 R m) ρ m) : cpt P od (panicR R) (.loop (lP (bB (sR (sL (sR (sR (sR (body))))))))) (blockQ 0 (thenQ (acpt P od (panicR R) (.cut (k2E fun b_0a b_0l b_0c x_3a x_3l x_3c m => k2  b_0a b_0l b_0c x_3a x_3l x_3c R m) (sR (sR (sR (sR (body)))))) (bodyQ P fn R)) (bodyQ P fn R))) ρ m := by
  unfold l1E at h
  obtain ⟨b_0a, b_0l, b_0c, e0, h⟩ := h.ex
  obtain ⟨x_3a, x_3l, x_3c, e3, h⟩ := h.ex
  obtain ⟨i_4, e4, h⟩ := h.ex
  obtain ⟨I, N, h0, hs⟩ := h
  refine ⟨fun N => l1E (I N), N, (by show l1E (I N) ρ m; unfold l1E; rw [e0, e3, e4]; exact h0), ?_⟩
  clear h0 e0 e3 e4
  intro N ρ m h
  unfold l1E at h
  obtain ⟨b_0a, b_0l, b_0c, e0, h⟩ := h.ex
  obtain ⟨x_3a, x_3l, x_3c, e3, h⟩ := h.ex
  obtain ⟨i_4, e4, h⟩ := h.ex
  refine cpt_mono (P := P) (lP (bB (sR (sL (sR (sR (sR (body)))))))) (Q := thenQ (l1E fun b_0a b_0l b_0c x_3a x_3l x_3c i_4 m => ∃ N1, N1 < N ∧ I N1 b_0a b_0l b_0c x_3a x_3l x_3c i_4 m) (blockQ 0 (thenQ (acpt P od (panicR R) (.cut (k2E fun b_0a b_0l b_0c x_3a x_3l x_3c m => k2  b_0a b_0l b_0c x_3a x_3l x_3c R m) (sR (sR (sR (sR (body)))))) (bodyQ P fn R)) (bodyQ P fn R)))) (fun e ρ m h => ?_) ρ m ?_
  · cases e with
    | normal =>
      have h : l1E (fun b_0a b_0l b_0c x_3a x_3l x_3c i_4 m => ∃ N1, N1 < N ∧ I N1 b_0a b_0l b_0c x_3a x_3l x_3c i_4 m) ρ m := h
      unfold l1E at h
      obtain ⟨b_0a, b_0l, b_0c, e0, h⟩ := h.ex
      obtain ⟨x_3a, x_3l, x_3c, e3, h⟩ := h.ex
      obtain ⟨i_4, e4, h⟩ := h.ex
      obtain ⟨N1, hlt, h⟩ := h
      exact ⟨N1, hlt, (by show l1E (I N1) ρ m; unfold l1E; rw [e0, e3, e4]; exact h)⟩
    | _ => exact h
  have hh := hs N b_0a b_0l b_0c x_3a x_3l x_3c i_4 m h
  generalize (fun b_0a b_0l b_0c x_3a x_3l x_3c i_4 m => ∃ N1, N1 < N ∧ I N1 b_0a b_0l b_0c x_3a x_3l x_3c i_4 m : Option Addr → Nat → Nat → Option Addr → Nat → Nat → Int → Mem → Prop) = K1 at hh ⊢
  rw [← upd_self e0, ← upd_self e3, ← upd_self e4]
  rw [← l1_er  K1 R]
  refine acpt_sound (P := P) (l1A  K1 R) _ _ _ True.intro ?_
  exact Eq.mp (l1_eq  K1 R b_0a b_0l b_0c x_3a x_3l x_3c i_4 ρ m) hh
theorem e0_eq (b_0a : Option Addr) (b_0l : Nat) (b_0c : Nat) (R : Ending → Mem → Prop) (m : Mem) : e0 b_0a b_0l b_0c R m = acpt P od (panicR R) (e0A R) (bodyQ P fn R) (argE (#[.slice b_0a b_0l b_0c] : Array Value).toList) m := by kernel_rfl
theorem ok (b_0a : Option Addr) (b_0l : Nat) (b_0c : Nat) (R : Ending → Mem → Prop) (m : Mem) (h : e0 b_0a b_0l b_0c R m) : HC P id #[.slice b_0a b_0l b_0c] m R := by
  refine HC_of (fn := fn) (c := body) (od := od) (tb := tb) Go.Proofs.Try.func19 (by kernel_rfl) (by kernel_rfl) follows (by kernel_rfl) (of_decide_eq_true (by kernel_rfl)) ?_
  have he : (e0A R).erase = body := by kernel_rfl
  rw [← he]
  refine acpt_sound (P := P) (e0A R) _ _ _ ⟨⟨⟨⟨(fun ρ m h => k2_ok  R ρ m h), ⟨(fun ρ m h => l1_ok  R ρ m h), True.intro⟩⟩, True.intro⟩, True.intro⟩, True.intro⟩ ?_
  exact Eq.mp (e0_eq b_0a b_0l b_0c R m) h
end eyotlaw0_Twin

/-! ### (*eyot/eyotref3.Text).Edit -/
namespace eyotref3_Text_Edit
noncomputable def fn : Func := Go.Proofs.Try.f20
noncomputable def body : Code := fn.body.getD .skip
def od : Nat → Ord := fun | 10 => ordL [(0, 3), (1, 3), (2, 3), (3, 3), (4, 3), (5, 3), (6, 1), (7, 3), (8, 3), (11, 3), (12, 3), (13, 3), (14, 1), (16, 3)] (.alt 9 0 (ordL [(10, 0), (15, 2), (17, 2), (18, 3), (19, 3), (20, 2), (21, 3), (22, 3), (23, 2)] .done) 10 0 (ordL [(9, 0), (15, 2), (17, 2), (18, 3), (19, 3), (20, 2), (21, 3), (22, 3), (23, 2)] .done)) | _ => .done
def tb : Nat → Tab := fun | 10 => (9601024, [0, 0, 0, 0, 8, 24, 56, 0, 248, 508, 0, 0, 2048, 6144, 14336, 32764, 0, 131068, 262141, 524285, 1048573, 2097151, 4194303, 8388607], [(0, 1, 56), (0, 1, 57), (0, 512, 58), (0, 1, 59), (8, 288230376151711744, 60), (16, 576460752303423488, 61), (32, 1152921504606846976, 62), (0, 4, 63), (192, 6917529027641081856, 64), (260, 9367487224930631680, 65), (0, 0, 66), (0, 1, 67), (2048, 73786976294838206464, 68), (4096, 147573952589676412928, 69), (8192, 295147905179352825856, 70), (17920, 627189298506124754944, 71), (0, 8, 72), (98304, 3541774862152233910272, 73), (181245, 36028797018963968, 74), (443389, 9444732965739290427392, 75), (705533, 18907912675552290406400, 0), (2097151, 72057594037927936, 76), (4194303, 37778931862957161709568, 77), (6291455, 80280230208783968632832, 0)]) | _ => (0, [], [])
def k2E (K : Option Addr → Int → Option Addr → Nat → Nat → Option Addr → Nat → Nat → Mem → Prop) : Env → Mem → Prop := fun ρ m => UnP (ρ 0) fun x0 => UnI (ρ 2) .i64 fun x2 => UnS (ρ 3) fun x3a x3l x3c => UnS (ρ 9) fun x9a x9l x9c => K x0 x2 x3a x3l x3c x9a x9l x9c m
def k2  (x0 : Option Addr) (x2 : Int) (x3a : Option Addr) (x3l : Nat) (x3c : Nat) (x9a : Option Addr) (x9l : Nat) (x9c : Nat) (R : Ending → Mem → Prop) (m : Mem) : Prop :=
  Sub m fun r1 =>
  NilC x0 (fun x59b x59o =>
    LdV r1 x59b x59o fun v =>
    UnS v fun x61a x61l x61c =>
    SlS x61a x61c x2 x61l 2 fun x63a x63l x63c =>
    NilC x0 (fun x67b x67o =>
      LdV r1 x67b (x67o + 1) fun v =>
      UnS v fun x69a x69l x69c =>
      (
        BiN P .append #[T_sl_eyotref3_Byte, T_sl_eyotref3_Byte] T_sl_eyotref3_Byte #[false, false] #[.slice x9a x9l x9c, .slice x63a x63l x63c] m (fun w m2 =>
          UnS w fun x64a x64l x64c =>
          Lk r1 m2 fun r3 =>
          NewC m2 #[] T_uint8 fun b65 m4 =>
          Lk r3 m4 fun r5 =>
          BiN P .append #[T_sl_uint8, T_sl_uint8] T_sl_uint8 #[false, false] #[.slice (some ⟨b65, 0, none⟩) 0 0, .slice x69a x69l x69c] m4 (fun w m6 =>
            UnS w fun x70a x70l x70c =>
            BiN P .append #[T_sl_uint8, T_sl_uint8] T_sl_uint8 #[false, false] #[.slice x70a x70l x70c, .slice x3a x3l x3c] m6 (fun w m7 =>
              UnS w fun x72a x72l x72c =>
              NilC x0 (fun x73b x73o =>
                St1 m7 x73b x73o (.slice x64a x64l x64c) fun m8 =>
                NilC x0 (fun x75b x75o =>
                  St1 m8 x75b (x75o + 1) (.slice x72a x72l x72c) fun m9 =>
                  R (.returned (.int .i64 0)) m9) (False)) (False)) (panicR R)) (panicR R)) (panicR R)) ∧ (
        NewC m #[] T_uint8 fun b65 m2 =>
        Lk r1 m2 fun r3 =>
        BiN P .append #[T_sl_eyotref3_Byte, T_sl_eyotref3_Byte] T_sl_eyotref3_Byte #[false, false] #[.slice x9a x9l x9c, .slice x63a x63l x63c] m2 (fun w m4 =>
          UnS w fun x64a x64l x64c =>
          Lk r3 m4 fun r5 =>
          BiN P .append #[T_sl_uint8, T_sl_uint8] T_sl_uint8 #[false, false] #[.slice (some ⟨b65, 0, none⟩) 0 0, .slice x69a x69l x69c] m4 (fun w m6 =>
            UnS w fun x70a x70l x70c =>
            BiN P .append #[T_sl_uint8, T_sl_uint8] T_sl_uint8 #[false, false] #[.slice x70a x70l x70c, .slice x3a x3l x3c] m6 (fun w m7 =>
              UnS w fun x72a x72l x72c =>
              NilC x0 (fun x73b x73o =>
                St1 m7 x73b x73o (.slice x64a x64l x64c) fun m8 =>
                NilC x0 (fun x75b x75o =>
                  St1 m8 x75b (x75o + 1) (.slice x72a x72l x72c) fun m9 =>
                  R (.returned (.int .i64 0)) m9) (False)) (False)) (panicR R)) (panicR R)) (panicR R))) (False)) (False)
noncomputable def k2A  (R : Ending → Mem → Prop) : ACode := (.code (sR (sR (sR (sR (sR (body)))))))
def l1E (K : Option Addr → Int → Option Addr → Nat → Nat → Option Addr → Nat → Nat → Int → Mem → Prop) : Env → Mem → Prop := fun ρ m => UnP (ρ 0) fun x0 => UnI (ρ 2) .i64 fun x2 => UnS (ρ 3) fun x3a x3l x3c => UnS (ρ 9) fun x9a x9l x9c => UnI (ρ 10) .i64 fun x10 => K x0 x2 x3a x3l x3c x9a x9l x9c x10 m
def l1B  (K1 : Option Addr → Int → Option Addr → Nat → Nat → Option Addr → Nat → Nat → Int → Mem → Prop) (x0 : Option Addr) (x2 : Int) (x3a : Option Addr) (x3l : Nat) (x3c : Nat) (x9a : Option Addr) (x9l : Nat) (x9c : Nat) (x10 : Int) (R : Ending → Mem → Prop) (m : Mem) : Prop :=
  Br (decide (x10 < ((x3l : Nat) : Int))) (
    NilC x0 (fun x46b x46o =>
      LdV m x46b (x46o + 1) fun v =>
      UnS v fun x48a x48l x48c =>
      NewC m #[.bool true, .int .i64 (IntKind.i64.wrap (((x48l : Nat) : Int) + x10))] T_eyotref3_Byte fun b53 m1 =>
      BiN P .append #[T_sl_eyotref3_Byte, T_sl_eyotref3_Byte] T_sl_eyotref3_Byte #[false, false] #[.slice x9a x9l x9c, .slice (some ⟨b53, 0, none⟩) 1 1] m1 (fun w m2 =>
        UnS w fun x54a x54l x54c =>
        K1 x0 x2 x3a x3l x3c x54a x54l x54c (IntKind.i64.wrap (x10 + 1)) m2) (panicR R)) (R (.panicked (nilPanic P)) m)) (
    k2  x0 x2 x3a x3l x3c x9a x9l x9c R m)
def l1  (x0 : Option Addr) (x2 : Int) (x3a : Option Addr) (x3l : Nat) (x3c : Nat) (x9a : Option Addr) (x9l : Nat) (x9c : Nat) (x10 : Int) (R : Ending → Mem → Prop) (m : Mem) : Prop :=
  ∃ (I : Nat → Option Addr → Int → Option Addr → Nat → Nat → Option Addr → Nat → Nat → Int → Mem → Prop) (N : Nat), I N x0 x2 x3a x3l x3c x9a x9l x9c x10 m ∧ ∀ N x0 x2 x3a x3l x3c x9a x9l x9c x10 m, I N x0 x2 x3a x3l x3c x9a x9l x9c x10 m → l1B  (fun x0 x2 x3a x3l x3c x9a x9l x9c x10 m => ∃ N1, N1 < N ∧ I N1 x0 x2 x3a x3l x3c x9a x9l x9c x10 m) x0 x2 x3a x3l x3c x9a x9l x9c x10 R m
noncomputable def l1A  (K1 : Option Addr → Int → Option Addr → Nat → Nat → Option Addr → Nat → Nat → Int → Mem → Prop) (R : Ending → Mem → Prop) : ACode := (.code (lP (bB (sR (sL (sR (sR (sR (sR (body))))))))))
def e0 (a0 : Option Addr) (a1 : Int) (a2 : Int) (a3a : Option Addr) (a3l : Nat) (a3c : Nat) (R : Ending → Mem → Prop) (m : Mem) : Prop :=
  Br (decide (a1 < 0)) (
    R (.returned (.int .i64 1)) m) (
    Br (decide (a1 > a2)) (
      R (.returned (.int .i64 1)) m) (
      NilC a0 (fun x21b x21o =>
        LdV m x21b x21o fun v =>
        UnS v fun x23a x23l x23c =>
        Br (decide (a2 > ((x23l : Nat) : Int))) (
          R (.returned (.int .i64 1)) m) (
          Br (decide (((a3l : Nat) : Int) > 300)) (
            R (.returned (.int .i64 10)) m) (
            NewC m #[] T_eyotref3_Byte fun b30 m1 =>
            NilC a0 (fun x32b x32o =>
              LdV m1 x32b x32o fun v =>
              UnS v fun x34a x34l x34c =>
              SlS x34a x34c 0 a1 2 fun x36a x36l x36c =>
              BiN P .append #[T_sl_eyotref3_Byte, T_sl_eyotref3_Byte] T_sl_eyotref3_Byte #[false, false] #[.slice (some ⟨b30, 0, none⟩) 0 0, .slice x36a x36l x36c] m1 (fun w m2 =>
                UnS w fun x37a x37l x37c =>
                l1  a0 a2 a3a a3l a3c x37a x37l x37c 0 R m2) (panicR R)) (R (.panicked (nilPanic P)) m1)))) (R (.panicked (nilPanic P)) m)))
noncomputable def e0A (R : Ending → Mem → Prop) : ACode := (.seq (.code (sL (body))) (.seq (.code (sL (sR (body)))) (.seq (.code (sL (sR (sR (body))))) (.seq (.code (sL (sR (sR (sR (body)))))) (.seq (.seq (.code (sL (sL (sR (sR (sR (sR (body)))))))) (.block 0 (.cut (l1E fun x0 x2 x3a x3l x3c x9a x9l x9c x10 m => l1  x0 x2 x3a x3l x3c x9a x9l x9c x10 R m) (.loop (lP (bB (sR (sL (sR (sR (sR (sR (body))))))))))))) (.cut (k2E fun x0 x2 x3a x3l x3c x9a x9l x9c m => k2  x0 x2 x3a x3l x3c x9a x9l x9c R m) (sR (sR (sR (sR (sR (body))))))))))))
theorem k2_eq  (R : Ending → Mem → Prop) (x0 : Option Addr) (x2 : Int) (x3a : Option Addr) (x3l : Nat) (x3c : Nat) (x9a : Option Addr) (x9l : Nat) (x9c : Nat) (ρ : Env) (m : Mem) : k2  x0 x2 x3a x3l x3c x9a x9l x9c R m = acpt P od (panicR R) (k2A  R) (bodyQ P fn R) (upd (upd (upd (upd ρ 9 (.slice x9a x9l x9c)) 3 (.slice x3a x3l x3c)) 2 (.int .i64 x2)) 0 (.pointer x0)) m := by kernel_rfl
theorem k2_er  (R : Ending → Mem → Prop) : (k2A  R).erase = sR (sR (sR (sR (sR (body))))) := by kernel_rfl
theorem k2_ok  (R : Ending → Mem → Prop) (ρ : Env) (m : Mem) (h : (k2E fun x0 x2 x3a x3l x3c x9a x9l x9c m => k2  x0 x2 x3a x3l x3c x9a x9l x9c R m) ρ m) : cpt P od (panicR R) (sR (sR (sR (sR (sR (body)))))) (bodyQ P fn R) ρ m := by
  unfold k2E at h
  obtain ⟨x0, e0, h⟩ := h.ex
  obtain ⟨x2, e2, h⟩ := h.ex
  obtain ⟨x3a, x3l, x3c, e3, h⟩ := h.ex
  obtain ⟨x9a, x9l, x9c, e9, h⟩ := h.ex
  rw [← upd_self e0, ← upd_self e2, ← upd_self e3, ← upd_self e9]
  rw [← k2_er  R]
  refine acpt_sound (P := P) (k2A  R) _ _ _ True.intro ?_
  exact Eq.mp (k2_eq  R x0 x2 x3a x3l x3c x9a x9l x9c ρ m) h
theorem l1_eq  (K1 : Option Addr → Int → Option Addr → Nat → Nat → Option Addr → Nat → Nat → Int → Mem → Prop) (R : Ending → Mem → Prop) (x0 : Option Addr) (x2 : Int) (x3a : Option Addr) (x3l : Nat) (x3c : Nat) (x9a : Option Addr) (x9l : Nat) (x9c : Nat) (x10 : Int) (ρ : Env) (m : Mem) : l1B  K1 x0 x2 x3a x3l x3c x9a x9l x9c x10 R m = acpt P od (panicR R) (l1A  K1 R) (thenQ (l1E K1) (blockQ 0 (thenQ (acpt P od (panicR R) (.cut (k2E fun x0 x2 x3a x3l x3c x9a x9l x9c m => k2  x0 x2 x3a x3l x3c x9a x9l x9c R m) (sR (sR (sR (sR (sR (body))))))) (bodyQ P fn R)) (bodyQ P fn R)))) (upd (upd (upd (upd (upd ρ 10 (.int .i64 x10)) 9 (.slice x9a x9l x9c)) 3 (.slice x3a x3l x3c)) 2 (.int .i64 x2)) 0 (.pointer x0)) m := by kernel_rfl
theorem l1_er  (K1 : Option Addr → Int → Option Addr → Nat → Nat → Option Addr → Nat → Nat → Int → Mem → Prop) (R : Ending → Mem → Prop) : (l1A  K1 R).erase = lP (bB (sR (sL (sR (sR (sR (sR (body)))))))) := by kernel_rfl
theorem l1_ok  (R : Ending → Mem → Prop) (ρ : Env) (m : Mem) (h : (l1E fun x0 x2 x3a x3l x3c x9a x9l x9c x10 m => l1  x0 x2 x3a x3l x3c x9a x9l x9c x10 R m) ρ m) : cpt P od (panicR R) (.loop (lP (bB (sR (sL (sR (sR (sR (sR (body)))))))))) (blockQ 0 (thenQ (acpt P od (panicR R) (.cut (k2E fun x0 x2 x3a x3l x3c x9a x9l x9c m => k2  x0 x2 x3a x3l x3c x9a x9l x9c R m) (sR (sR (sR (sR (sR (body))))))) (bodyQ P fn R)) (bodyQ P fn R))) ρ m := by
  unfold l1E at h
  obtain ⟨x0, e0, h⟩ := h.ex
  obtain ⟨x2, e2, h⟩ := h.ex
  obtain ⟨x3a, x3l, x3c, e3, h⟩ := h.ex
  obtain ⟨x9a, x9l, x9c, e9, h⟩ := h.ex
  obtain ⟨x10, e10, h⟩ := h.ex
  obtain ⟨I, N, h0, hs⟩ := h
  refine ⟨fun N => l1E (I N), N, (by show l1E (I N) ρ m; unfold l1E; rw [e0, e2, e3, e9, e10]; exact h0), ?_⟩
  clear h0 e0 e2 e3 e9 e10
  intro N ρ m h
  unfold l1E at h
  obtain ⟨x0, e0, h⟩ := h.ex
  obtain ⟨x2, e2, h⟩ := h.ex
  obtain ⟨x3a, x3l, x3c, e3, h⟩ := h.ex
  obtain ⟨x9a, x9l, x9c, e9, h⟩ := h.ex
  obtain ⟨x10, e10, h⟩ := h.ex
  refine cpt_mono (P := P) (lP (bB (sR (sL (sR (sR (sR (sR (body))))))))) (Q := thenQ (l1E fun x0 x2 x3a x3l x3c x9a x9l x9c x10 m => ∃ N1, N1 < N ∧ I N1 x0 x2 x3a x3l x3c x9a x9l x9c x10 m) (blockQ 0 (thenQ (acpt P od (panicR R) (.cut (k2E fun x0 x2 x3a x3l x3c x9a x9l x9c m => k2  x0 x2 x3a x3l x3c x9a x9l x9c R m) (sR (sR (sR (sR (sR (body))))))) (bodyQ P fn R)) (bodyQ P fn R)))) (fun e ρ m h => ?_) ρ m ?_
  · cases e with
    | normal =>
      have h : l1E (fun x0 x2 x3a x3l x3c x9a x9l x9c x10 m => ∃ N1, N1 < N ∧ I N1 x0 x2 x3a x3l x3c x9a x9l x9c x10 m) ρ m := h
      unfold l1E at h
      obtain ⟨x0, e0, h⟩ := h.ex
      obtain ⟨x2, e2, h⟩ := h.ex
      obtain ⟨x3a, x3l, x3c, e3, h⟩ := h.ex
      obtain ⟨x9a, x9l, x9c, e9, h⟩ := h.ex
      obtain ⟨x10, e10, h⟩ := h.ex
      obtain ⟨N1, hlt, h⟩ := h
      exact ⟨N1, hlt, (by show l1E (I N1) ρ m; unfold l1E; rw [e0, e2, e3, e9, e10]; exact h)⟩
    | _ => exact h
  have hh := hs N x0 x2 x3a x3l x3c x9a x9l x9c x10 m h
  generalize (fun x0 x2 x3a x3l x3c x9a x9l x9c x10 m => ∃ N1, N1 < N ∧ I N1 x0 x2 x3a x3l x3c x9a x9l x9c x10 m : Option Addr → Int → Option Addr → Nat → Nat → Option Addr → Nat → Nat → Int → Mem → Prop) = K1 at hh ⊢
  rw [← upd_self e0, ← upd_self e2, ← upd_self e3, ← upd_self e9, ← upd_self e10]
  rw [← l1_er  K1 R]
  refine acpt_sound (P := P) (l1A  K1 R) _ _ _ True.intro ?_
  exact Eq.mp (l1_eq  K1 R x0 x2 x3a x3l x3c x9a x9l x9c x10 ρ m) hh
theorem e0_eq (a0 : Option Addr) (a1 : Int) (a2 : Int) (a3a : Option Addr) (a3l : Nat) (a3c : Nat) (R : Ending → Mem → Prop) (m : Mem) : e0 a0 a1 a2 a3a a3l a3c R m = acpt P od (panicR R) (e0A R) (bodyQ P fn R) (argE (#[.pointer a0, .int .i64 a1, .int .i64 a2, .slice a3a a3l a3c] : Array Value).toList) m := by kernel_rfl
theorem ok (a0 : Option Addr) (a1 : Int) (a2 : Int) (a3a : Option Addr) (a3l : Nat) (a3c : Nat) (R : Ending → Mem → Prop) (m : Mem) (h : e0 a0 a1 a2 a3a a3l a3c R m) : HC P id #[.pointer a0, .int .i64 a1, .int .i64 a2, .slice a3a a3l a3c] m R := by
  refine HC_of (fn := fn) (c := body) (od := od) (tb := tb) Go.Proofs.Try.func20 (by kernel_rfl) (by kernel_rfl) follows (by kernel_rfl) (of_decide_eq_true (by kernel_rfl)) ?_
  have he : (e0A R).erase = body := by kernel_rfl
  rw [← he]
  refine acpt_sound (P := P) (e0A R) _ _ _ ⟨⟨⟨⟨⟨(fun ρ m h => k2_ok  R ρ m h), ⟨(fun ρ m h => l1_ok  R ρ m h), True.intro⟩⟩, True.intro⟩, True.intro⟩, True.intro⟩, True.intro⟩ ?_
  exact Eq.mp (e0_eq a0 a1 a2 a3a a3l a3c R m) h
end eyotref3_Text_Edit

/-! ### eyot/eyotlaw0.Kept -/
namespace eyotlaw0_Kept
noncomputable def fn : Func := Go.Proofs.Try.f21
noncomputable def body : Code := fn.body.getD .skip
def od : Nat → Ord := fun _ => .done
def tb : Nat → Tab := fun _ => (0, [], [])
def l1E (K : Option Addr → Nat → Nat → Option Addr → Nat → Nat → Int → Mem → Prop) : Env → Mem → Prop := fun ρ m => UnS (ρ 1) fun b_1a b_1l b_1c => UnS (ρ 5) fun y_5a y_5l y_5c => UnI (ρ 6) .i64 fun i_6 => K b_1a b_1l b_1c y_5a y_5l y_5c i_6 m
def l1B  (K1 : Option Addr → Nat → Nat → Option Addr → Nat → Nat → Int → Mem → Prop) (b_1a : Option Addr) (b_1l : Nat) (b_1c : Nat) (y_5a : Option Addr) (y_5l : Nat) (y_5c : Nat) (i_6 : Int) (R : Ending → Mem → Prop) (m : Mem) : Prop :=
  Br (decide (i_6 < (IntKind.i64.wrap (((b_1l : Nat) : Int) + 3)))) (
    IxS y_5a y_5l i_6 1 fun x35b x35o =>
    LdV m x35b x35o fun v =>
    UnI v .u8 fun x36 =>
    Br (x36 != 229) (
      R (.returned (.bool false)) m) (
      K1 b_1a b_1l b_1c y_5a y_5l y_5c (IntKind.i64.wrap (i_6 + 1)) m)) (
    R (.returned (.bool true)) m)
def l1  (b_1a : Option Addr) (b_1l : Nat) (b_1c : Nat) (y_5a : Option Addr) (y_5l : Nat) (y_5c : Nat) (i_6 : Int) (R : Ending → Mem → Prop) (m : Mem) : Prop :=
  ∃ (I : Nat → Option Addr → Nat → Nat → Option Addr → Nat → Nat → Int → Mem → Prop) (N : Nat), I N b_1a b_1l b_1c y_5a y_5l y_5c i_6 m ∧ ∀ N b_1a b_1l b_1c y_5a y_5l y_5c i_6 m, I N b_1a b_1l b_1c y_5a y_5l y_5c i_6 m → l1B  (fun b_1a b_1l b_1c y_5a y_5l y_5c i_6 m => ∃ N1, N1 < N ∧ I N1 b_1a b_1l b_1c y_5a y_5l y_5c i_6 m) b_1a b_1l b_1c y_5a y_5l y_5c i_6 R m
noncomputable def l1A  (K1 : Option Addr → Nat → Nat → Option Addr → Nat → Nat → Int → Mem → Prop) (R : Ending → Mem → Prop) : ACode := (.code (lP (bB (sR (sL (sR (sR (sR (body)))))))))
def e0 (x_0a : Option Addr) (x_0l : Nat) (x_0c : Nat) (b_1a : Option Addr) (b_1l : Nat) (b_1c : Nat) (R : Ending → Mem → Prop) (m : Mem) : Prop :=
  SlS x_0a x_0c 0 ((x_0c : Nat) : Int) 1 fun x10a x10l x10c =>
  B2S m x_0a x_0l fun s12 =>
  B2S m b_1a b_1l fun s14 =>
  Br (!(s12.toList == s14.toList)) (
    R (.returned (.bool false)) m) (
    Br (decide (((x10l : Nat) : Int) < (IntKind.i64.wrap (((b_1l : Nat) : Int) + 3)))) (
      R (.returned (.bool false)) m) (
      l1  b_1a b_1l b_1c x10a x10l x10c ((b_1l : Nat) : Int) R m))
noncomputable def e0A (R : Ending → Mem → Prop) : ACode := (.seq (.code (sL (body))) (.seq (.code (sL (sR (body)))) (.seq (.code (sL (sR (sR (body))))) (.seq (.seq (.code (sL (sL (sR (sR (sR (body))))))) (.block 0 (.cut (l1E fun b_1a b_1l b_1c y_5a y_5l y_5c i_6 m => l1  b_1a b_1l b_1c y_5a y_5l y_5c i_6 R m) (.loop (lP (bB (sR (sL (sR (sR (sR (body)))))))))))) (.code (sR (sR (sR (sR (body))))))))))
theorem l1_eq  (K1 : Option Addr → Nat → Nat → Option Addr → Nat → Nat → Int → Mem → Prop) (R : Ending → Mem → Prop) (b_1a : Option Addr) (b_1l : Nat) (b_1c : Nat) (y_5a : Option Addr) (y_5l : Nat) (y_5c : Nat) (i_6 : Int) (ρ : Env) (m : Mem) : l1B  K1 b_1a b_1l b_1c y_5a y_5l y_5c i_6 R m = acpt P od (panicR R) (l1A  K1 R) (thenQ (l1E K1) (blockQ 0 (thenQ (acpt P od (panicR R) (.code (sR (sR (sR (sR (body)))))) (bodyQ P fn R)) (bodyQ P fn R)))) (upd (upd (upd ρ 6 (.int .i64 i_6)) 5 (.slice y_5a y_5l y_5c)) 1 (.slice b_1a b_1l b_1c)) m := by kernel_rfl
theorem l1_er  (K1 : Option Addr → Nat → Nat → Option Addr → Nat → Nat → Int → Mem → Prop) (R : Ending → Mem → Prop) : (l1A  K1 R).erase = lP (bB (sR (sL (sR (sR (sR (body))))))) := by kernel_rfl
theorem l1_ok  (R : Ending → Mem → Prop) (ρ : Env) (m : Mem) (h : (l1E fun b_1a b_1l b_1c y_5a y_5l y_5c i_6 m => l1  b_1a b_1l b_1c y_5a y_5l y_5c i_6 R m) ρ m) : cpt P od (panicR R) (.loop (lP (bB (sR (sL (sR (sR (sR (body))))))))) (blockQ 0 (thenQ (acpt P od (panicR R) (.code (sR (sR (sR (sR (body)))))) (bodyQ P fn R)) (bodyQ P fn R))) ρ m := by
  unfold l1E at h
  obtain ⟨b_1a, b_1l, b_1c, e1, h⟩ := h.ex
  obtain ⟨y_5a, y_5l, y_5c, e5, h⟩ := h.ex
  obtain ⟨i_6, e6, h⟩ := h.ex
  obtain ⟨I, N, h0, hs⟩ := h
  refine ⟨fun N => l1E (I N), N, (by show l1E (I N) ρ m; unfold l1E; rw [e1, e5, e6]; exact h0), ?_⟩
  clear h0 e1 e5 e6
  intro N ρ m h
  unfold l1E at h
  obtain ⟨b_1a, b_1l, b_1c, e1, h⟩ := h.ex
  obtain ⟨y_5a, y_5l, y_5c, e5, h⟩ := h.ex
  obtain ⟨i_6, e6, h⟩ := h.ex
  refine cpt_mono (P := P) (lP (bB (sR (sL (sR (sR (sR (body)))))))) (Q := thenQ (l1E fun b_1a b_1l b_1c y_5a y_5l y_5c i_6 m => ∃ N1, N1 < N ∧ I N1 b_1a b_1l b_1c y_5a y_5l y_5c i_6 m) (blockQ 0 (thenQ (acpt P od (panicR R) (.code (sR (sR (sR (sR (body)))))) (bodyQ P fn R)) (bodyQ P fn R)))) (fun e ρ m h => ?_) ρ m ?_
  · cases e with
    | normal =>
      have h : l1E (fun b_1a b_1l b_1c y_5a y_5l y_5c i_6 m => ∃ N1, N1 < N ∧ I N1 b_1a b_1l b_1c y_5a y_5l y_5c i_6 m) ρ m := h
      unfold l1E at h
      obtain ⟨b_1a, b_1l, b_1c, e1, h⟩ := h.ex
      obtain ⟨y_5a, y_5l, y_5c, e5, h⟩ := h.ex
      obtain ⟨i_6, e6, h⟩ := h.ex
      obtain ⟨N1, hlt, h⟩ := h
      exact ⟨N1, hlt, (by show l1E (I N1) ρ m; unfold l1E; rw [e1, e5, e6]; exact h)⟩
    | _ => exact h
  have hh := hs N b_1a b_1l b_1c y_5a y_5l y_5c i_6 m h
  generalize (fun b_1a b_1l b_1c y_5a y_5l y_5c i_6 m => ∃ N1, N1 < N ∧ I N1 b_1a b_1l b_1c y_5a y_5l y_5c i_6 m : Option Addr → Nat → Nat → Option Addr → Nat → Nat → Int → Mem → Prop) = K1 at hh ⊢
  rw [← upd_self e1, ← upd_self e5, ← upd_self e6]
  rw [← l1_er  K1 R]
  refine acpt_sound (P := P) (l1A  K1 R) _ _ _ True.intro ?_
  exact Eq.mp (l1_eq  K1 R b_1a b_1l b_1c y_5a y_5l y_5c i_6 ρ m) hh
theorem e0_eq (x_0a : Option Addr) (x_0l : Nat) (x_0c : Nat) (b_1a : Option Addr) (b_1l : Nat) (b_1c : Nat) (R : Ending → Mem → Prop) (m : Mem) : e0 x_0a x_0l x_0c b_1a b_1l b_1c R m = acpt P od (panicR R) (e0A R) (bodyQ P fn R) (argE (#[.slice x_0a x_0l x_0c, .slice b_1a b_1l b_1c] : Array Value).toList) m := by kernel_rfl
theorem ok (x_0a : Option Addr) (x_0l : Nat) (x_0c : Nat) (b_1a : Option Addr) (b_1l : Nat) (b_1c : Nat) (R : Ending → Mem → Prop) (m : Mem) (h : e0 x_0a x_0l x_0c b_1a b_1l b_1c R m) : HC P id #[.slice x_0a x_0l x_0c, .slice b_1a b_1l b_1c] m R := by
  refine HC_of (fn := fn) (c := body) (od := od) (tb := tb) Go.Proofs.Try.func21 (by kernel_rfl) (by kernel_rfl) follows (by kernel_rfl) (of_decide_eq_true (by kernel_rfl)) ?_
  have he : (e0A R).erase = body := by kernel_rfl
  rw [← he]
  refine acpt_sound (P := P) (e0A R) _ _ _ ⟨⟨⟨⟨True.intro, ⟨(fun ρ m h => l1_ok  R ρ m h), True.intro⟩⟩, True.intro⟩, True.intro⟩, True.intro⟩ ?_
  exact Eq.mp (e0_eq x_0a x_0l x_0c b_1a b_1l b_1c R m) h
end eyotlaw0_Kept

end
end Go.E
