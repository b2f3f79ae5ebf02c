/- Printed by this project's own gen.py: the shallow forms of Go functions over the logic H, and that the machine meets them. -/
import Derived.Test.YtjdkdeekniephaaHD2
import Derived.Test.YtjdkdeekniephaaProg
set_option linter.unusedVariables false
set_option maxRecDepth 100000
namespace Go.E
open Go.H
noncomputable section
noncomputable abbrev P : Program := Go.Proofs.Try.prog
theorem follows : P.follows .mixedOrders = true := by kernel_rfl
abbrev T_ : TypeId := 0
abbrev T_api_Errno : TypeId := 27
abbrev T_api_Errno_bool : TypeId := 76
abbrev T_api_Piece : TypeId := 67
abbrev T_arr0_ptr_runtime_PanicNilError : TypeId := 108
abbrev T_bool : TypeId := 4
abbrev T_doc_Doc : TypeId := 71
abbrev T_eyotlaw6_Op : TypeId := 35
abbrev T_eyotref3_Byte : TypeId := 58
abbrev T_eyotref3_Text : TypeId := 39
abbrev T_file_File : TypeId := 75
abbrev T_int : TypeId := 3
abbrev T_int32 : TypeId := 21
abbrev T_int64 : TypeId := 2
abbrev T_int_bool : TypeId := 91
abbrev T_internal_abi_BoundsErrorCode : TypeId := 6
abbrev T_internal_abi_Kind : TypeId := 113
abbrev T_internal_abi_NameOff : TypeId := 116
abbrev T_internal_abi_TFlag : TypeId := 112
abbrev T_internal_abi_Type : TypeId := 119
abbrev T_internal_abi_TypeOff : TypeId := 117
abbrev T_internal_runtime_maps_unhashableTypeError : TypeId := 19
abbrev T_lru_Cache_byte : TypeId := 86
abbrev T_lru_entry_byte : TypeId := 95
abbrev T_map_int_bool : TypeId := 60
abbrev T_page_Pages : TypeId := 62
abbrev T_page_Pages_api_Errno : TypeId := 28
abbrev T_piece_Text : TypeId := 65
abbrev T_ptr_doc_Doc : TypeId := 41
abbrev T_ptr_eyotref3_Text : TypeId := 32
abbrev T_ptr_file_File : TypeId := 43
abbrev T_ptr_internal_abi_Type : TypeId := 17
abbrev T_ptr_lru_Cache_byte : TypeId := 72
abbrev T_ptr_page_Pages : TypeId := 26
abbrev T_ptr_piece_Text : TypeId := 30
abbrev T_ptr_runtime_PanicNilError : TypeId := 16
abbrev T_ptr_runtime_TypeAssertionError : TypeId := 15
abbrev T_ptr_uint8 : TypeId := 115
abbrev T_runtime_PanicNilError : TypeId := 110
abbrev T_runtime_TypeAssertionError : TypeId := 107
abbrev T_runtime_boundsError : TypeId := 8
abbrev T_runtime_errorAddressString : TypeId := 14
abbrev T_runtime_errorString : TypeId := 10
abbrev T_runtime_plainError : TypeId := 11
abbrev T_sl_api_Piece : TypeId := 63
abbrev T_sl_bool : TypeId := 56
abbrev T_sl_eyotlaw6_Op : TypeId := 23
abbrev T_sl_eyotref3_Byte : TypeId := 37
abbrev T_sl_int : TypeId := 24
abbrev T_sl_lru_entry_byte : TypeId := 84
abbrev T_sl_uint8 : TypeId := 22
abbrev T_string : TypeId := 9
abbrev T_struct106 : TypeId := 106
abbrev T_struct109 : TypeId := 109
abbrev T_struct118 : TypeId := 118
abbrev T_struct13 : TypeId := 13
abbrev T_struct18 : TypeId := 18
abbrev T_struct34 : TypeId := 34
abbrev T_struct38 : TypeId := 38
abbrev T_struct57 : TypeId := 57
abbrev T_struct61 : TypeId := 61
abbrev T_struct64 : TypeId := 64
abbrev T_struct66 : TypeId := 66
abbrev T_struct7 : TypeId := 7
abbrev T_struct70 : TypeId := 70
abbrev T_struct74 : TypeId := 74
abbrev T_struct85 : TypeId := 85
abbrev T_struct94 : TypeId := 94
abbrev T_t1 : TypeId := 1
abbrev T_t100 : TypeId := 100
abbrev T_t101 : TypeId := 101
abbrev T_t102 : TypeId := 102
abbrev T_t103 : TypeId := 103
abbrev T_t104 : TypeId := 104
abbrev T_t105 : TypeId := 105
abbrev T_t114 : TypeId := 114
abbrev T_t20 : TypeId := 20
abbrev T_t25 : TypeId := 25
abbrev T_t29 : TypeId := 29
abbrev T_t31 : TypeId := 31
abbrev T_t33 : TypeId := 33
abbrev T_t36 : TypeId := 36
abbrev T_t40 : TypeId := 40
abbrev T_t42 : TypeId := 42
abbrev T_t44 : TypeId := 44
abbrev T_t45 : TypeId := 45
abbrev T_t46 : TypeId := 46
abbrev T_t48 : TypeId := 48
abbrev T_t50 : TypeId := 50
abbrev T_t51 : TypeId := 51
abbrev T_t52 : TypeId := 52
abbrev T_t53 : TypeId := 53
abbrev T_t54 : TypeId := 54
abbrev T_t55 : TypeId := 55
abbrev T_t59 : TypeId := 59
abbrev T_t68 : TypeId := 68
abbrev T_t69 : TypeId := 69
abbrev T_t73 : TypeId := 73
abbrev T_t77 : TypeId := 77
abbrev T_t78 : TypeId := 78
abbrev T_t79 : TypeId := 79
abbrev T_t80 : TypeId := 80
abbrev T_t81 : TypeId := 81
abbrev T_t82 : TypeId := 82
abbrev T_t83 : TypeId := 83
abbrev T_t87 : TypeId := 87
abbrev T_t89 : TypeId := 89
abbrev T_t90 : TypeId := 90
abbrev T_t92 : TypeId := 92
abbrev T_t93 : TypeId := 93
abbrev T_t96 : TypeId := 96
abbrev T_t97 : TypeId := 97
abbrev T_t98 : TypeId := 98
abbrev T_t99 : TypeId := 99
abbrev T_uint32 : TypeId := 111
abbrev T_uint8 : TypeId := 5
abbrev T_uint8_api_Errno : TypeId := 47
abbrev T_uint8_api_Errno_49 : TypeId := 49
abbrev T_uint8_bool : TypeId := 88
abbrev T_uintptr : TypeId := 12
abbrev T_unsafe_Pointer : TypeId := 120
namespace page_safe_int
def id : FuncId := 35
end page_safe_int
namespace page_safe_s_int
def id : FuncId := 37
end page_safe_s_int
namespace page_safe_int_1
def id : FuncId := 46
end page_safe_int_1
namespace page_safe_s_int_1
def id : FuncId := 47
end page_safe_s_int_1
namespace slices_overlaps_lru_entry_s_byte
def id : FuncId := 61
end slices_overlaps_lru_entry_s_byte
def eyotlaw7_DocAll.id : FuncId := 3
def eyotlaw7_DocParts.id : FuncId := 4
def eyotlaw7_DocAdded.id : FuncId := 5
def eyotlaw7_DocReads.id : FuncId := 6
def eyotlaw7_begun.id : FuncId := 7
def page_New.id : FuncId := 8
def piece_New.id : FuncId := 9
def eyotref3_NewText.id : FuncId := 10
def eyotlaw0_Place.id : FuncId := 11
def piece_Text_Edit.id : FuncId := 12
def eyotref3_Text_Edit.id : FuncId := 13
def doc_New.id : FuncId := 14
def file_New.id : FuncId := 15
def eyotref3_Text_Spell.id : FuncId := 16
def doc_Doc_Len.id : FuncId := 17
def doc_Doc_Bytes.id : FuncId := 18
def doc_Doc_At.id : FuncId := 19
def page_Pages_Count.id : FuncId := 20
def page_Pages_Fault.id : FuncId := 21
def page_Pages_Reads.id : FuncId := 22
def page_Pages_Clear.id : FuncId := 23
def slices_Clone_s_byte_byte.id : FuncId := 24
def piece_Text_Len.id : FuncId := 25
def piece_cut.id : FuncId := 26
def piece_joined.id : FuncId := 27
def lru_New_s_byte.id : FuncId := 28
def doc_Doc_none.id : FuncId := 29
def doc_Doc_Bytes_1.id : FuncId := 30
def piece_Text_Added.id : FuncId := 31
def piece_Text_Pieces.id : FuncId := 32
def doc_must.id : FuncId := 33
def file_File_Bytes.id : FuncId := 34
def page_Pages_Count_1.id : FuncId := 36
def page_Pages_Reads_1.id : FuncId := 38
def slices_Clone_s_int_int.id : FuncId := 39
def piece_size.id : FuncId := 40
def slices_Clone_s_api_Piece_api_Piece.id : FuncId := 41
def file_File_Len.id : FuncId := 42
def file_File_Bytes_1.id : FuncId := 43
def page_Pages_Size.id : FuncId := 44
def file_File_page.id : FuncId := 45
def page_Pages_Len.id : FuncId := 48
def page_Pages_Size_1.id : FuncId := 49
def lru_Cache_s_byte_Get.id : FuncId := 50
def page_Pages_Read.id : FuncId := 51
def lru_Cache_s_byte_Put.id : FuncId := 52
def page_Pages_Len_1.id : FuncId := 53
def lru_Cache_s_byte_at.id : FuncId := 54
def slices_Delete_s_lru_entry_s_byte_lru_entry_s_byte.id : FuncId := 55
def lru_Cache_s_byte_front.id : FuncId := 56
def lru_Cache_s_byte_Drop.id : FuncId := 57
def slices_IndexFunc_s_lru_entry_s_byte_lru_entry_s_byte.id : FuncId := 58
def lru_Cache_s_byte_at_1.id : FuncId := 59
def slices_Insert_s_lru_entry_s_byte_lru_entry_s_byte.id : FuncId := 60
def slices_rotateRight_lru_entry_s_byte.id : FuncId := 62
def slices_rotateLeft_lru_entry_s_byte.id : FuncId := 63
def slices_Reverse_s_lru_entry_s_byte_lru_entry_s_byte.id : FuncId := 64
/-! ### eyot/eyotlaw7.DocAll -/
namespace eyotlaw7_DocAll
noncomputable def fn : Func := Go.Proofs.Try.f3
noncomputable def body : Code := fn.body.getD .skip
def od : Nat → Ord := fun | 12 => ordL [(0, 3), (1, 3), (2, 3), (3, 3), (4, 1), (5, 3), (6, 3), (7, 3), (8, 0), (9, 3), (10, 3), (11, 2), (12, 3)] .done | 13 => ordL [(0, 3), (1, 3), (2, 3), (3, 3), (4, 3), (5, 1), (6, 3), (7, 3), (8, 3), (9, 1), (10, 3), (11, 3), (12, 3), (13, 3), (14, 2), (15, 3), (16, 3)] .done | 23 => ordL [(0, 3), (1, 3), (2, 3), (3, 3), (4, 1), (5, 3), (6, 3), (7, 3), (8, 3), (9, 0), (10, 2), (11, 3), (12, 3), (13, 3), (14, 3), (15, 3)] .done | 25 => ordL [(0, 3), (1, 3), (2, 3), (3, 0), (4, 3), (5, 3), (6, 3), (7, 3), (8, 3), (9, 1), (10, 3), (11, 3), (12, 3), (13, 3), (14, 0), (15, 3), (16, 3), (17, 3), (18, 3), (19, 3), (20, 3), (21, 3), (22, 1), (23, 3), (24, 3), (25, 3), (26, 3)] .done | 28 => ordL [(0, 3), (1, 3), (2, 3), (3, 3), (4, 1), (5, 3), (6, 3), (7, 3), (8, 3), (9, 1), (10, 3), (11, 3), (12, 3), (13, 3), (14, 0), (15, 3), (16, 0), (17, 3), (18, 3)] .done | _ => .done
def tb : Nat → Tab := fun | 12 => (2048, [0, 0, 3, 7, 15, 0, 32, 96, 224, 480, 992, 2047, 4095], [(0, 8, 74), (0, 32768, 75), (3, 28334198897217871282176, 76), (4, 37778931862957161709568, 77), (8, 75557863725914323419136, 78), (0, 16384, 79), (32, 302231454903657293676544, 80), (64, 604462909807314587353088, 81), (128, 1208925819614629174706176, 82), (256, 2417851639229258349412352, 83), (512, 4835703278458516698824704, 84), (1040, 9822522284368862044487680, 85), (4095, 19342813113834066795298816, 17)]) | 13 => (16384, [0, 0, 0, 6, 14, 30, 0, 64, 192, 448, 960, 0, 4032, 8128, 16382, 32767, 65535], [(0, 65536, 86), (0, 8, 87), (0, 32768, 88), (6, 232113757366008801543585792, 89), (8, 309485009821345068724781056, 90), (16, 618970019642690137449562112, 91), (0, 16384, 92), (64, 2475880078570760549798248448, 93), (128, 4951760157141521099596496896, 94), (256, 9903520314283042199192993792, 95), (512, 19807040628566084398385987584, 96), (0, 65536, 97), (3072, 118842243771396506390315925504, 98), (4096, 158456325028528675187087900672, 99), (8224, 318150590096342730649074925568, 100), (16385, 633863985740342368881942200320, 101), (65535, 1267650600228229401496703205376, 18)]) | 23 => (1024, [0, 0, 0, 6, 14, 0, 0, 64, 224, 480, 1023, 2047, 4095, 4095, 8191, 32767], [(0, 262144, 147), (0, 16, 148), (0, 1048576, 149), (6, 535217884764734955396857238543560676143529984, 150), (8, 713623846352979940529142984724747568191373312, 151), (0, 16, 152), (0, 1048576, 153), (64, 5708990770823839524233143877797980545530986496, 154), (160, 14272476927059598810582859694494951363827466240, 155), (256, 22835963083295358096932575511191922182123945984, 156), (529, 47188376840090798567489579864923932946654560256, 157), (1024, 91343852333181432387730302044767688728495783936, 146), (2048, 44601490397061246283071436545296723011960832, 158), (2048, 44601490397061246283071436545296723011960832, 159), (8191, 182687704666362864775460604089535377456991567872, 22), (32767, 365375409332725729550921208179070754913983135744, 23)]) | 25 => (0, [0, 0, 3, 7, 15, 31, 63, 63, 255, 511, 63, 63, 2111, 7231, 15423, 32767, 65535, 131071, 262143, 262143, 786431, 2097151, 4194303, 262143, 8650751, 33554431, 67108863], [(0, 16, 169), (0, 1048576, 170), (3, 1122433257470133441180429951526105359095756193005568, 171), (4, 1496577676626844588240573268701473812127674924007424, 172), (8, 2993155353253689176481146537402947624255349848014848, 173), (16, 5986310706507378352962293074805895248510699696029696, 174), (32, 11972621413014756705924586149611790497021399392059408, 175), (32, 11972621413014756705924586149611790497021399393107968, 176), (224, 83808349891103296941472103047282533479149795744415744, 177), (288, 107753592717132810353321275346506114473192594528534528, 178), (32, 11972621413014756705924586149611790497021399392059408, 179), (32, 11972621413014756705924586149611790497021399393107968, 180), (2080, 778220391845959185885098099724766382306390960483860480, 181), (5152, 1927592047495375829653858370087498270020445302121562112, 182), (8224, 3076963703144792473422618640450230157734499643759263744, 183), (16928, 6333516727484806297434106073144637172924320278399418368, 184), (32800, 12271936948340125623572700803352085259446934376860876800, 185), (65568, 24519928653854221733733552434404946937899825954937634816, 186), (131072, 49039857307708443467467104868809893875799651909875269648, 187), (131072, 49039857307708443467467104868809893875799651909876318208, 188), (655360, 245199286538542217337335524344049469378998259549376348160, 189), (1441792, 539438430384792878142138153556908832633796171008627965952, 190), (2228224, 833677574231043538946940782769768195888594082467879583744, 191), (131072, 49039857307708443467467104868809893875799651909875793920, 192), (8519680, 3187590725001048825385361816472643101926977374141892526080, 193), (21102592, 7895417026541059398262203883878392914003743957489918410752, 194), (33685504, 12603243328081069971139045951284142726080510540837944295424, 195)]) | 28 => (0, [0, 1, 3, 7, 15, 7, 7, 7, 199, 455, 7, 7, 2055, 7175, 15367, 32743, 65511, 131071, 262143], [(0, 4194304, 203), (1, 6427752177035961102167848369364650410088811975131171341205504, 204), (2, 12855504354071922204335696738729300820177623950262342682411008, 205), (4, 25711008708143844408671393477458601640355247900524685366919168, 206), (12, 77133026124431533226014180432375804921065743701574056094466048, 207), (4, 25711008708143844408671393477458601640355247900524685365346304, 208), (4, 25711008708143844408671393477458601640355247900524685364822032, 209), (4, 25711008708143844408671393477458601640355247900524685365870592, 210), (196, 1259839426699048376024898280395471480377407147125709582876278784, 211), (260, 1671215566029349886563640576034809106623091113534104548713431040, 212), (4, 25711008708143844408671393477458601640355247900524685364822032, 213), (4, 25711008708143844408671393477458601640355247900524685365870592, 214), (2052, 13189747467277792181648424853936262641502242172969163592153694208, 215), (5124, 32935802155132264687508055044624468701295072560572121952337002496, 216), (8196, 52681856842986737193367685235312674761087902948175080312520310784, 217), (16932, 108834699861572893381906008590082260743623764362920993149291593728, 218), (32772, 210650294345822517240244726760818323239430546048998747193986777088, 219), (65556, 421377721717769466013715467702069022283782157841699068444068020224, 220), (131076, 842524044357165637427752892862840917152801118452293414719852642304, 221)]) | _ => (0, [], [])
def k6E (K : Option Addr → Nat → Nat → Option Addr → Option Addr → Option Addr → Nat → Nat → Int → Int → Int → Bool → Mem → Prop) : Env → Mem → Prop := fun ρ m => UnS (ρ 4) fun x4a x4l x4c => UnP (ρ 13) fun x13 => UnP (ρ 18) fun x18 => UnS (ρ 19) fun x19a x19l x19c => UnI (ρ 20) .i64 fun x20 => UnI (ρ 23) .u8 fun x23 => UnI (ρ 24) .i64 fun x24 => UnB (ρ 234) fun x234 => K x4a x4l x4c x13 x18 x19a x19l x19c x20 x23 x24 x234 m
def k6 (K3 : Option Addr → Nat → Nat → Option Addr → Option Addr → Option Addr → Nat → Nat → Int → Mem → Prop) (x4a : Option Addr) (x4l : Nat) (x4c : Nat) (x13 : Option Addr) (x18 : Option Addr) (x19a : Option Addr) (x19l : Nat) (x19c : Nat) (x20 : Int) (x23 : Int) (x24 : Int) (x234 : Bool) (R : Ending → Mem → Prop) (m : Mem) : Prop :=
  Br x234 (
    Br (x24 != 1) (
      R (.returned (.bool false)) m) (
      Br (x23 != 0) (
        R (.returned (.bool false)) m) (
        K3 x4a x4l x4c x13 x18 x19a x19l x19c (IntKind.i64.wrap (x20 + 2)) m))) (
    Br (x24 != 0) (
      R (.returned (.bool false)) m) (
      IxS x4a x4l x20 1 fun x248b x248o =>
      LdV m x248b x248o fun v =>
      UnI v .i64 fun x249 =>
      IxS x19a x19l x249 1 fun x250b x250o =>
      LdV m x250b x250o fun v =>
      UnI v .u8 fun x251 =>
      Br (x23 != x251) (
        R (.returned (.bool false)) m) (
        K3 x4a x4l x4c x13 x18 x19a x19l x19c (IntKind.i64.wrap (x20 + 2)) m)))
noncomputable def k6A (K3 : Option Addr → Nat → Nat → Option Addr → Option Addr → Option Addr → Nat → Nat → Int → Mem → Prop) (R : Ending → Mem → Prop) : ACode := (.code (sR (sR (sR (sR (bB (sL (sR (lP (bB (sR (sL (sR (sR (sR (sR (sR (sR (sR (sR (sR (body))))))))))))))))))))))
def k5E (K : Option Addr → Nat → Nat → Option Addr → Option Addr → Option Addr → Nat → Nat → Int → Int → Int → Mem → Prop) : Env → Mem → Prop := fun ρ m => UnS (ρ 4) fun x4a x4l x4c => UnP (ρ 13) fun x13 => UnP (ρ 18) fun x18 => UnS (ρ 19) fun x19a x19l x19c => UnI (ρ 20) .i64 fun x20 => UnI (ρ 23) .u8 fun x23 => UnI (ρ 24) .i64 fun x24 => K x4a x4l x4c x13 x18 x19a x19l x19c x20 x23 x24 m
def k5 (K3 : Option Addr → Nat → Nat → Option Addr → Option Addr → Option Addr → Nat → Nat → Int → Mem → Prop) (x4a : Option Addr) (x4l : Nat) (x4c : Nat) (x13 : Option Addr) (x18 : Option Addr) (x19a : Option Addr) (x19l : Nat) (x19c : Nat) (x20 : Int) (x23 : Int) (x24 : Int) (R : Ending → Mem → Prop) (m : Mem) : Prop :=
  IxS x4a x4l x20 1 fun x223b x223o =>
  LdV m x223b x223o fun v =>
  UnI v .i64 fun x224 =>
  Br (decide (x224 < 0)) (
    k6 K3 x4a x4l x4c x13 x18 x19a x19l x19c x20 x23 x24 true R m) (
    IxS x4a x4l x20 1 fun x229b x229o =>
    LdV m x229b x229o fun v =>
    UnI v .i64 fun x230 =>
    k6 K3 x4a x4l x4c x13 x18 x19a x19l x19c x20 x23 x24 (decide (x230 ≥ ((x19l : Nat) : Int))) R m)
noncomputable def k5A (K3 : Option Addr → Nat → Nat → Option Addr → Option Addr → Option Addr → Nat → Nat → Int → Mem → Prop) (R : Ending → Mem → Prop) : ACode := (.seq (.code (sL (sR (sR (sR (bB (sL (sR (lP (bB (sR (sL (sR (sR (sR (sR (sR (sR (sR (sR (sR (body)))))))))))))))))))))) (.cut (k6E fun x4a x4l x4c x13 x18 x19a x19l x19c x20 x23 x24 x234 m => k6 K3 x4a x4l x4c x13 x18 x19a x19l x19c x20 x23 x24 x234 R m) (sR (sR (sR (sR (bB (sL (sR (lP (bB (sR (sL (sR (sR (sR (sR (sR (sR (sR (sR (sR (body)))))))))))))))))))))))
def k4E (K : Option Addr → Nat → Nat → Option Addr → Option Addr → Option Addr → Nat → Nat → Int → Option Addr → Nat → Nat → Int → Int → Int → Bool → Mem → Prop) : Env → Mem → Prop := fun ρ m => UnS (ρ 4) fun x4a x4l x4c => UnP (ρ 13) fun x13 => UnP (ρ 18) fun x18 => UnS (ρ 19) fun x19a x19l x19c => UnI (ρ 20) .i64 fun x20 => UnS (ρ 21) fun x21a x21l x21c => UnI (ρ 22) .i64 fun x22 => UnI (ρ 23) .u8 fun x23 => UnI (ρ 24) .i64 fun x24 => UnB (ρ 194) fun x194 => K x4a x4l x4c x13 x18 x19a x19l x19c x20 x21a x21l x21c x22 x23 x24 x194 m
def k4 (K3 : Option Addr → Nat → Nat → Option Addr → Option Addr → Option Addr → Nat → Nat → Int → Mem → Prop) (x4a : Option Addr) (x4l : Nat) (x4c : Nat) (x13 : Option Addr) (x18 : Option Addr) (x19a : Option Addr) (x19l : Nat) (x19c : Nat) (x20 : Int) (x21a : Option Addr) (x21l : Nat) (x21c : Nat) (x22 : Int) (x23 : Int) (x24 : Int) (x194 : Bool) (R : Ending → Mem → Prop) (m : Mem) : Prop :=
  Br x194 (
    Br (x22 != 1) (
      R (.returned (.bool false)) m) (
      Br (decide (((x21l : Nat) : Int) > 0)) (
        R (.returned (.bool false)) m) (
        k5 K3 x4a x4l x4c x13 x18 x19a x19l x19c x20 x23 x24 R m))) (
    Sub m fun r1 =>
    Br (x22 != 0) (
      R (.returned (.bool false)) m) (
      B2S r1 x21a x21l fun s206 =>
      IxS x4a x4l x20 1 fun x210b x210o =>
      LdV r1 x210b x210o fun v =>
      UnI v .i64 fun x211 =>
      IxS x4a x4l (IntKind.i64.wrap (x20 + 1)) 1 fun x215b x215o =>
      LdV m x215b x215o fun v =>
      UnI v .i64 fun x216 =>
      SlS x19a x19c x211 x216 1 fun x217a x217l x217c =>
      B2S m x217a x217l fun s218 =>
      Br (!(s206.toList == s218.toList)) (
        R (.returned (.bool false)) m) (
        k5 K3 x4a x4l x4c x13 x18 x19a x19l x19c x20 x23 x24 R m)))
noncomputable def k4A (K3 : Option Addr → Nat → Nat → Option Addr → Option Addr → Option Addr → Nat → Nat → Int → Mem → Prop) (R : Ending → Mem → Prop) : ACode := (.code (sR (sL (sR (sR (bB (sL (sR (lP (bB (sR (sL (sR (sR (sR (sR (sR (sR (sR (sR (sR (body))))))))))))))))))))))
def k7E (K : Option Addr → Mem → Prop) : Env → Mem → Prop := fun ρ m => UnP (ρ 13) fun x13 => K x13 m
def k7  (x13 : Option Addr) (R : Ending → Mem → Prop) (m : Mem) : Prop :=
  HC P doc_Doc_At.id #[.pointer none, .int .i64 0] m (Cont (fun v m1 =>
      UnTup v fun us0 =>
      UnCons us0 fun w us1 =>
      UnI w .u8 fun x256_0 =>
      UnCons us1 fun w us2 =>
      UnI w .i64 fun x256_1 =>
      UnNil us2 (
        HC P doc_New.id #[.pointer none, .pointer x13] m1 (Cont (fun v m2 =>
            UnP v fun x261 =>
            HC P doc_Doc_Bytes.id #[.pointer x261, .int .i64 0, .int .i64 0] m2 (Cont (fun v m3 =>
                UnTup v fun us0 =>
                UnCons us0 fun w us1 =>
                UnS w fun x262_0a x262_0l x262_0c =>
                UnCons us1 fun w us2 =>
                UnI w .i64 fun x262_1 =>
                UnNil us2 (
                  Br (x256_1 == 1) (
                    Br (x262_1 == 1) (
                      HC P doc_Doc_Len.id #[.pointer none] m3 (Cont (fun v m4 =>
                        UnI v .i64 fun x273 =>
                        R (.returned (.bool (x273 == 0))) m4) (panicR R))) (
                      R (.returned (.bool false)) m3)) (
                    R (.returned (.bool false)) m3))) (panicR R))) (panicR R)))) (panicR R))
noncomputable def k7A  (R : Ending → Mem → Prop) : ACode := (.code (sR (sR (sR (sR (sR (sR (sR (sR (sR (sR (body))))))))))))
def l3E (K : Option Addr → Nat → Nat → Option Addr → Option Addr → Option Addr → Nat → Nat → Int → Mem → Prop) : Env → Mem → Prop := fun ρ m => UnS (ρ 4) fun x4a x4l x4c => UnP (ρ 13) fun x13 => UnP (ρ 18) fun x18 => UnS (ρ 19) fun x19a x19l x19c => UnI (ρ 20) .i64 fun x20 => K x4a x4l x4c x13 x18 x19a x19l x19c x20 m
def l3B  (K3 : Option Addr → Nat → Nat → Option Addr → Option Addr → Option Addr → Nat → Nat → Int → Mem → Prop) (x4a : Option Addr) (x4l : Nat) (x4c : Nat) (x13 : Option Addr) (x18 : Option Addr) (x19a : Option Addr) (x19l : Nat) (x19c : Nat) (x20 : Int) (R : Ending → Mem → Prop) (m : Mem) : Prop :=
  Br (decide ((IntKind.i64.wrap (x20 + 1)) < ((x4l : Nat) : Int))) (
    Sub m fun r1 =>
    IxS x4a x4l x20 1 fun x149b x149o =>
    LdV r1 x149b x149o fun v =>
    UnI v .i64 fun x150 =>
    IxS x4a x4l (IntKind.i64.wrap (x20 + 1)) 1 fun x154b x154o =>
    LdV m x154b x154o fun v =>
    UnI v .i64 fun x155 =>
    HC P doc_Doc_Bytes.id #[.pointer x18, .int .i64 x150, .int .i64 x155] m (Cont (fun v m2 =>
        UnTup v fun us0 =>
        UnCons us0 fun w us1 =>
        UnS w fun x156_0a x156_0l x156_0c =>
        UnCons us1 fun w us2 =>
        UnI w .i64 fun x156_1 =>
        UnNil us2 (
          IxS x4a x4l x20 1 fun x163b x163o =>
          LdV m2 x163b x163o fun v =>
          UnI v .i64 fun x164 =>
          HC P doc_Doc_At.id #[.pointer x18, .int .i64 x164] m2 (Cont (fun v m3 =>
              UnTup v fun us0 =>
              UnCons us0 fun w us1 =>
              UnI w .u8 fun x165_0 =>
              UnCons us1 fun w us2 =>
              UnI w .i64 fun x165_1 =>
              UnNil us2 (
                Sub m3 fun r4 =>
                IxS x4a x4l x20 1 fun x170b x170o =>
                LdV m3 x170b x170o fun v =>
                UnI v .i64 fun x171 =>
                Br (decide (x171 < 0)) (
                  k4 K3 x4a x4l x4c x13 x18 x19a x19l x19c x20 x156_0a x156_0l x156_0c x156_1 x165_0 x165_1 true R m3) (
                  IxS x4a x4l x20 1 fun x176b x176o =>
                  LdV r4 x176b x176o fun v =>
                  UnI v .i64 fun x177 =>
                  IxS x4a x4l (IntKind.i64.wrap (x20 + 1)) 1 fun x181b x181o =>
                  LdV m3 x181b x181o fun v =>
                  UnI v .i64 fun x182 =>
                  Br (decide (x177 > x182)) (
                    k4 K3 x4a x4l x4c x13 x18 x19a x19l x19c x20 x156_0a x156_0l x156_0c x156_1 x165_0 x165_1 true R m3) (
                    IxS x4a x4l (IntKind.i64.wrap (x20 + 1)) 1 fun x189b x189o =>
                    LdV r4 x189b x189o fun v =>
                    UnI v .i64 fun x190 =>
                    k4 K3 x4a x4l x4c x13 x18 x19a x19l x19c x20 x156_0a x156_0l x156_0c x156_1 x165_0 x165_1 (decide (x190 > ((x19l : Nat) : Int))) R m3)))) (panicR R)))) (panicR R))) (
    k7  x13 R m)
def l3  (x4a : Option Addr) (x4l : Nat) (x4c : Nat) (x13 : Option Addr) (x18 : Option Addr) (x19a : Option Addr) (x19l : Nat) (x19c : Nat) (x20 : Int) (R : Ending → Mem → Prop) (m : Mem) : Prop :=
  ∃ (I : Nat → Option Addr → Nat → Nat → Option Addr → Option Addr → Option Addr → Nat → Nat → Int → Mem → Prop) (N : Nat), I N x4a x4l x4c x13 x18 x19a x19l x19c x20 m ∧ ∀ N x4a x4l x4c x13 x18 x19a x19l x19c x20 m, I N x4a x4l x4c x13 x18 x19a x19l x19c x20 m → l3B  (fun x4a x4l x4c x13 x18 x19a x19l x19c x20 m => ∃ N1, N1 < N ∧ I N1 x4a x4l x4c x13 x18 x19a x19l x19c x20 m) x4a x4l x4c x13 x18 x19a x19l x19c x20 R m
noncomputable def l3A  (K3 : Option Addr → Nat → Nat → Option Addr → Option Addr → Option Addr → Nat → Nat → Int → Mem → Prop) (R : Ending → Mem → Prop) : ACode := (.seq (.code (sL (lP (bB (sR (sL (sR (sR (sR (sR (sR (sR (sR (sR (sR (body)))))))))))))))) (.seq (.block 3 (.seq (.code (sL (bB (sL (sR (lP (bB (sR (sL (sR (sR (sR (sR (sR (sR (sR (sR (sR (body))))))))))))))))))) (.seq (.code (sL (sR (bB (sL (sR (lP (bB (sR (sL (sR (sR (sR (sR (sR (sR (sR (sR (sR (body)))))))))))))))))))) (.seq (.seq (.code (sL (sL (sR (sR (bB (sL (sR (lP (bB (sR (sL (sR (sR (sR (sR (sR (sR (sR (sR (sR (body)))))))))))))))))))))) (.cut (k4E fun x4a x4l x4c x13 x18 x19a x19l x19c x20 x21a x21l x21c x22 x23 x24 x194 m => k4 K3 x4a x4l x4c x13 x18 x19a x19l x19c x20 x21a x21l x21c x22 x23 x24 x194 R m) (sR (sL (sR (sR (bB (sL (sR (lP (bB (sR (sL (sR (sR (sR (sR (sR (sR (sR (sR (sR (body))))))))))))))))))))))) (.cut (k5E fun x4a x4l x4c x13 x18 x19a x19l x19c x20 x23 x24 m => k5 K3 x4a x4l x4c x13 x18 x19a x19l x19c x20 x23 x24 R m) (sR (sR (sR (bB (sL (sR (lP (bB (sR (sL (sR (sR (sR (sR (sR (sR (sR (sR (sR (body))))))))))))))))))))))))) (.code (sR (sR (lP (bB (sR (sL (sR (sR (sR (sR (sR (sR (sR (sR (sR (body)))))))))))))))))))
def k2E (K : Option Addr → Nat → Nat → Int → Option Addr → Nat → Nat → Option Addr → Int → Option Addr → Option Addr → Mem → Prop) : Env → Mem → Prop := fun ρ m => UnS (ρ 0) fun x0a x0l x0c => UnI (ρ 2) .u8 fun x2 => UnS (ρ 4) fun x4a x4l x4c => UnP (ρ 11) fun x11 => UnI (ρ 12) .i64 fun x12 => UnP (ρ 13) fun x13 => UnP (ρ 14) fun x14 => K x0a x0l x0c x2 x4a x4l x4c x11 x12 x13 x14 m
def k2  (x0a : Option Addr) (x0l : Nat) (x0c : Nat) (x2 : Int) (x4a : Option Addr) (x4l : Nat) (x4c : Nat) (x11 : Option Addr) (x12 : Int) (x13 : Option Addr) (x14 : Option Addr) (R : Ending → Mem → Prop) (m : Mem) : Prop :=
  HC P file_New.id #[.pointer x11, .int .i64 (IntKind.i64.wrap (Int.tmod x2 4))] m (Cont (fun v m1 =>
      UnP v fun x123 =>
      HC P doc_New.id #[.pointer x123, .pointer x13] m1 (Cont (fun v m2 =>
          UnP v fun x125 =>
          HC P eyotref3_Text_Spell.id #[.pointer x14, .slice x0a x0l x0c] m2 (Cont (fun v m3 =>
              UnS v fun x128a x128l x128c =>
              Br (x12 != 0) (
                R (.returned (.bool false)) m3) (
                HC P doc_Doc_Len.id #[.pointer x125] m3 (Cont (fun v m4 =>
                    UnI v .i64 fun x133 =>
                    Br (x133 != ((x128l : Nat) : Int)) (
                      R (.returned (.bool false)) m4) (
                      l3  x4a x4l x4c x13 x125 x128a x128l x128c 0 R m4)) (panicR R)))) (panicR R))) (panicR R))) (panicR R))
noncomputable def k2A  (R : Ending → Mem → Prop) : ACode := (.seq (.code (sL (sR (sR (sR (sR (sR (sR (body))))))))) (.seq (.code (sL (sR (sR (sR (sR (sR (sR (sR (body)))))))))) (.seq (.code (sL (sR (sR (sR (sR (sR (sR (sR (sR (body))))))))))) (.seq (.seq (.code (sL (sL (sR (sR (sR (sR (sR (sR (sR (sR (sR (body))))))))))))) (.block 2 (.cut (l3E fun x4a x4l x4c x13 x18 x19a x19l x19c x20 m => l3  x4a x4l x4c x13 x18 x19a x19l x19c x20 R m) (.loop (lP (bB (sR (sL (sR (sR (sR (sR (sR (sR (sR (sR (sR (body)))))))))))))))))) (.cut (k7E fun x13 m => k7  x13 R m) (sR (sR (sR (sR (sR (sR (sR (sR (sR (sR (body))))))))))))))))
def l1E (K : Option Addr → Nat → Nat → Int → Option Addr → Nat → Nat → Option Addr → Nat → Nat → Option Addr → Int → Option Addr → Option Addr → Int → Mem → Prop) : Env → Mem → Prop := fun ρ m => UnS (ρ 0) fun x0a x0l x0c => UnI (ρ 2) .u8 fun x2 => UnS (ρ 3) fun x3a x3l x3c => UnS (ρ 4) fun x4a x4l x4c => UnP (ρ 11) fun x11 => UnI (ρ 12) .i64 fun x12 => UnP (ρ 13) fun x13 => UnP (ρ 14) fun x14 => UnI (ρ 15) .i64 fun x15 => K x0a x0l x0c x2 x3a x3l x3c x4a x4l x4c x11 x12 x13 x14 x15 m
def l1B  (K1 : Option Addr → Nat → Nat → Int → Option Addr → Nat → Nat → Option Addr → Nat → Nat → Option Addr → Int → Option Addr → Option Addr → Int → Mem → Prop) (x0a : Option Addr) (x0l : Nat) (x0c : Nat) (x2 : Int) (x3a : Option Addr) (x3l : Nat) (x3c : Nat) (x4a : Option Addr) (x4l : Nat) (x4c : Nat) (x11 : Option Addr) (x12 : Int) (x13 : Option Addr) (x14 : Option Addr) (x15 : Int) (R : Ending → Mem → Prop) (m : Mem) : Prop :=
  Br (decide (x15 < ((x3l : Nat) : Int))) (
    IxS x3a x3l x15 4 fun x68b x68o =>
    LdV m x68b (x68o + 2) fun v =>
    UnS v fun x70a x70l x70c =>
    Br (decide (((x70l : Nat) : Int) > 100)) (
      R (.returned (.bool true)) m) (
      Sub m fun r1 =>
      IxS x3a x3l x15 4 fun x75b x75o =>
      LdV r1 x75b x75o fun v =>
      UnI v .i64 fun x77 =>
      NilC x14 (fun x79b x79o =>
        LdV m x79b x79o fun v =>
        UnS v fun x81a x81l x81c =>
        HC P eyotlaw0_Place.id #[.int .i64 x77, .int .i64 (IntKind.i64.wrap (((x81l : Nat) : Int) + 1))] m (Cont (fun v m2 =>
            UnI v .i64 fun x84 =>
            Sub m2 fun r3 =>
            IxS x3a x3l x15 4 fun x88b x88o =>
            LdV r3 x88b (x88o + 1) fun v =>
            UnI v .i64 fun x90 =>
            NilC x14 (fun x92b x92o =>
              LdV r3 x92b x92o fun v =>
              UnS v fun x94a x94l x94c =>
              HC P eyotlaw0_Place.id #[.int .i64 x90, .int .i64 (IntKind.i64.wrap ((IntKind.i64.wrap (((x94l : Nat) : Int) - x84)) + 1))] m2 (Cont (fun v m4 =>
                  UnI v .i64 fun x99 =>
                  IxS x3a x3l x15 4 fun x106b x106o =>
                  LdV m4 x106b (x106o + 2) fun v =>
                  UnS v fun x108a x108l x108c =>
                  HC P piece_Text_Edit.id #[.pointer x13, .int .i64 x84, .int .i64 (IntKind.i64.wrap (x84 + x99)), .slice x108a x108l x108c] m4 (Cont (fun v m5 =>
                      UnI v .i64 fun x109 =>
                      IxS x3a x3l x15 4 fun x115b x115o =>
                      LdV m5 x115b (x115o + 2) fun v =>
                      UnS v fun x117a x117l x117c =>
                      HC P eyotref3_Text_Edit.id #[.pointer x14, .int .i64 x84, .int .i64 (IntKind.i64.wrap (x84 + x99)), .slice x117a x117l x117c] m5 (Cont (fun v m6 =>
                        UnI v .i64 fun x118 =>
                        K1 x0a x0l x0c x2 x3a x3l x3c x4a x4l x4c x11 x12 x13 x14 (IntKind.i64.wrap (x15 + 1)) m6) (panicR R))) (panicR R))) (panicR R))) (False)) (panicR R))) (False))) (
    k2  x0a x0l x0c x2 x4a x4l x4c x11 x12 x13 x14 R m)
def l1  (x0a : Option Addr) (x0l : Nat) (x0c : Nat) (x2 : Int) (x3a : Option Addr) (x3l : Nat) (x3c : Nat) (x4a : Option Addr) (x4l : Nat) (x4c : Nat) (x11 : Option Addr) (x12 : Int) (x13 : Option Addr) (x14 : Option Addr) (x15 : Int) (R : Ending → Mem → Prop) (m : Mem) : Prop :=
  ∃ (I : Nat → Option Addr → Nat → Nat → Int → Option Addr → Nat → Nat → Option Addr → Nat → Nat → Option Addr → Int → Option Addr → Option Addr → Int → Mem → Prop) (N : Nat), I N x0a x0l x0c x2 x3a x3l x3c x4a x4l x4c x11 x12 x13 x14 x15 m ∧ ∀ N x0a x0l x0c x2 x3a x3l x3c x4a x4l x4c x11 x12 x13 x14 x15 m, I N x0a x0l x0c x2 x3a x3l x3c x4a x4l x4c x11 x12 x13 x14 x15 m → l1B  (fun x0a x0l x0c x2 x3a x3l x3c x4a x4l x4c x11 x12 x13 x14 x15 m => ∃ N1, N1 < N ∧ I N1 x0a x0l x0c x2 x3a x3l x3c x4a x4l x4c x11 x12 x13 x14 x15 m) x0a x0l x0c x2 x3a x3l x3c x4a x4l x4c x11 x12 x13 x14 x15 R m
noncomputable def l1A  (K1 : Option Addr → Nat → Nat → Int → Option Addr → Nat → Nat → Option Addr → Nat → Nat → Option Addr → Int → Option Addr → Option Addr → Int → Mem → Prop) (R : Ending → Mem → Prop) : ACode := (.code (lP (bB (sR (sL (sR (sR (sR (sR (sR (body)))))))))))
def e0 (a0a : Option Addr) (a0l : Nat) (a0c : Nat) (a1 : Int) (a2 : Int) (a3a : Option Addr) (a3l : Nat) (a3c : Nat) (a4a : Option Addr) (a4l : Nat) (a4c : Nat) (R : Ending → Mem → Prop) (m : Mem) : Prop :=
  HC P eyotlaw7_begun.id #[] m (Cont (fun v m1 =>
      UnB v fun x30 =>
      Br (!x30) (
        R (.returned (.bool false)) m1) (
        Br (decide (((a0l : Nat) : Int) > 200)) (
          R (.returned (.bool true)) m1) (
          Br (decide (((a3l : Nat) : Int) > 10)) (
            R (.returned (.bool true)) m1) (
            Br (decide (((a4l : Nat) : Int) > 30)) (
              R (.returned (.bool true)) m1) (
              HC P page_New.id #[.slice a0a a0l a0c, .int .i64 (IntKind.i64.wrap (1 + (Int.tmod (IntKind.i64.wrap a1) 20)))] m1 (Cont (fun v m2 =>
                  UnTup v fun us0 =>
                  UnCons us0 fun w us1 =>
                  UnP w fun x51_0 =>
                  UnCons us1 fun w us2 =>
                  UnI w .i64 fun x51_1 =>
                  UnNil us2 (
                    HC P piece_New.id #[.int .i64 ((a0l : Nat) : Int)] m2 (Cont (fun v m3 =>
                        UnP v fun x56 =>
                        HC P eyotref3_NewText.id #[.int .i64 ((a0l : Nat) : Int)] m3 (Cont (fun v m4 =>
                        UnP v fun x59 =>
                        l1  a0a a0l a0c a2 a3a a3l a3c a4a a4l a4c x51_0 x51_1 x56 x59 0 R m4) (panicR R))) (panicR R)))) (panicR R))))))) (panicR R))
noncomputable def e0A (R : Ending → Mem → Prop) : ACode := (.seq (.code (sL (body))) (.seq (.code (sL (sR (body)))) (.seq (.code (sL (sR (sR (body))))) (.seq (.code (sL (sR (sR (sR (body)))))) (.seq (.code (sL (sR (sR (sR (sR (body))))))) (.seq (.seq (.code (sL (sL (sR (sR (sR (sR (sR (body))))))))) (.block 0 (.cut (l1E fun x0a x0l x0c x2 x3a x3l x3c x4a x4l x4c x11 x12 x13 x14 x15 m => l1  x0a x0l x0c x2 x3a x3l x3c x4a x4l x4c x11 x12 x13 x14 x15 R m) (.loop (lP (bB (sR (sL (sR (sR (sR (sR (sR (body)))))))))))))) (.cut (k2E fun x0a x0l x0c x2 x4a x4l x4c x11 x12 x13 x14 m => k2  x0a x0l x0c x2 x4a x4l x4c x11 x12 x13 x14 R m) (sR (sR (sR (sR (sR (sR (body))))))))))))))
theorem k6_eq (K3 : Option Addr → Nat → Nat → Option Addr → Option Addr → Option Addr → Nat → Nat → Int → Mem → Prop) (R : Ending → Mem → Prop) (x4a : Option Addr) (x4l : Nat) (x4c : Nat) (x13 : Option Addr) (x18 : Option Addr) (x19a : Option Addr) (x19l : Nat) (x19c : Nat) (x20 : Int) (x23 : Int) (x24 : Int) (x234 : Bool) (ρ : Env) (m : Mem) : k6 K3 x4a x4l x4c x13 x18 x19a x19l x19c x20 x23 x24 x234 R m = acpt P od (panicR R) (k6A K3 R) (blockQ 3 (thenQ (acpt P od (panicR R) (.code (sR (sR (lP (bB (sR (sL (sR (sR (sR (sR (sR (sR (sR (sR (sR (body))))))))))))))))) (thenQ (l3E K3) (blockQ 2 (thenQ (acpt P od (panicR R) (.cut (k7E fun x13 m => k7  x13 R m) (sR (sR (sR (sR (sR (sR (sR (sR (sR (sR (body)))))))))))) (bodyQ P fn R)) (bodyQ P fn R))))) (thenQ (l3E K3) (blockQ 2 (thenQ (acpt P od (panicR R) (.cut (k7E fun x13 m => k7  x13 R m) (sR (sR (sR (sR (sR (sR (sR (sR (sR (sR (body)))))))))))) (bodyQ P fn R)) (bodyQ P fn R)))))) (upd (upd (upd (upd (upd (upd (upd (upd ρ 234 (.bool x234)) 24 (.int .i64 x24)) 23 (.int .u8 x23)) 20 (.int .i64 x20)) 19 (.slice x19a x19l x19c)) 18 (.pointer x18)) 13 (.pointer x13)) 4 (.slice x4a x4l x4c)) m := by kernel_rfl
theorem k6_er (K3 : Option Addr → Nat → Nat → Option Addr → Option Addr → Option Addr → Nat → Nat → Int → Mem → Prop) (R : Ending → Mem → Prop) : (k6A K3 R).erase = sR (sR (sR (sR (bB (sL (sR (lP (bB (sR (sL (sR (sR (sR (sR (sR (sR (sR (sR (sR (body)))))))))))))))))))) := by kernel_rfl
theorem k6_ok (K3 : Option Addr → Nat → Nat → Option Addr → Option Addr → Option Addr → Nat → Nat → Int → Mem → Prop) (R : Ending → Mem → Prop) (ρ : Env) (m : Mem) (h : (k6E fun x4a x4l x4c x13 x18 x19a x19l x19c x20 x23 x24 x234 m => k6 K3 x4a x4l x4c x13 x18 x19a x19l x19c x20 x23 x24 x234 R m) ρ m) : cpt P od (panicR R) (sR (sR (sR (sR (bB (sL (sR (lP (bB (sR (sL (sR (sR (sR (sR (sR (sR (sR (sR (sR (body))))))))))))))))))))) (blockQ 3 (thenQ (acpt P od (panicR R) (.code (sR (sR (lP (bB (sR (sL (sR (sR (sR (sR (sR (sR (sR (sR (sR (body))))))))))))))))) (thenQ (l3E K3) (blockQ 2 (thenQ (acpt P od (panicR R) (.cut (k7E fun x13 m => k7  x13 R m) (sR (sR (sR (sR (sR (sR (sR (sR (sR (sR (body)))))))))))) (bodyQ P fn R)) (bodyQ P fn R))))) (thenQ (l3E K3) (blockQ 2 (thenQ (acpt P od (panicR R) (.cut (k7E fun x13 m => k7  x13 R m) (sR (sR (sR (sR (sR (sR (sR (sR (sR (sR (body)))))))))))) (bodyQ P fn R)) (bodyQ P fn R)))))) ρ m := by
  unfold k6E at h
  obtain ⟨x4a, x4l, x4c, e4, h⟩ := h.ex
  obtain ⟨x13, e13, h⟩ := h.ex
  obtain ⟨x18, e18, h⟩ := h.ex
  obtain ⟨x19a, x19l, x19c, e19, h⟩ := h.ex
  obtain ⟨x20, e20, h⟩ := h.ex
  obtain ⟨x23, e23, h⟩ := h.ex
  obtain ⟨x24, e24, h⟩ := h.ex
  obtain ⟨x234, e234, h⟩ := h.ex
  rw [← upd_self e4, ← upd_self e13, ← upd_self e18, ← upd_self e19, ← upd_self e20, ← upd_self e23, ← upd_self e24, ← upd_self e234]
  rw [← k6_er K3 R]
  refine acpt_sound (P := P) (k6A K3 R) _ _ _ True.intro ?_
  exact Eq.mp (k6_eq K3 R x4a x4l x4c x13 x18 x19a x19l x19c x20 x23 x24 x234 ρ m) h
theorem k5_eq (K3 : Option Addr → Nat → Nat → Option Addr → Option Addr → Option Addr → Nat → Nat → Int → Mem → Prop) (R : Ending → Mem → Prop) (x4a : Option Addr) (x4l : Nat) (x4c : Nat) (x13 : Option Addr) (x18 : Option Addr) (x19a : Option Addr) (x19l : Nat) (x19c : Nat) (x20 : Int) (x23 : Int) (x24 : Int) (ρ : Env) (m : Mem) : k5 K3 x4a x4l x4c x13 x18 x19a x19l x19c x20 x23 x24 R m = acpt P od (panicR R) (k5A K3 R) (blockQ 3 (thenQ (acpt P od (panicR R) (.code (sR (sR (lP (bB (sR (sL (sR (sR (sR (sR (sR (sR (sR (sR (sR (body))))))))))))))))) (thenQ (l3E K3) (blockQ 2 (thenQ (acpt P od (panicR R) (.cut (k7E fun x13 m => k7  x13 R m) (sR (sR (sR (sR (sR (sR (sR (sR (sR (sR (body)))))))))))) (bodyQ P fn R)) (bodyQ P fn R))))) (thenQ (l3E K3) (blockQ 2 (thenQ (acpt P od (panicR R) (.cut (k7E fun x13 m => k7  x13 R m) (sR (sR (sR (sR (sR (sR (sR (sR (sR (sR (body)))))))))))) (bodyQ P fn R)) (bodyQ P fn R)))))) (upd (upd (upd (upd (upd (upd (upd ρ 24 (.int .i64 x24)) 23 (.int .u8 x23)) 20 (.int .i64 x20)) 19 (.slice x19a x19l x19c)) 18 (.pointer x18)) 13 (.pointer x13)) 4 (.slice x4a x4l x4c)) m := by kernel_rfl
theorem k5_er (K3 : Option Addr → Nat → Nat → Option Addr → Option Addr → Option Addr → Nat → Nat → Int → Mem → Prop) (R : Ending → Mem → Prop) : (k5A K3 R).erase = sR (sR (sR (bB (sL (sR (lP (bB (sR (sL (sR (sR (sR (sR (sR (sR (sR (sR (sR (body))))))))))))))))))) := by kernel_rfl
theorem k5_ok (K3 : Option Addr → Nat → Nat → Option Addr → Option Addr → Option Addr → Nat → Nat → Int → Mem → Prop) (R : Ending → Mem → Prop) (ρ : Env) (m : Mem) (h : (k5E fun x4a x4l x4c x13 x18 x19a x19l x19c x20 x23 x24 m => k5 K3 x4a x4l x4c x13 x18 x19a x19l x19c x20 x23 x24 R m) ρ m) : cpt P od (panicR R) (sR (sR (sR (bB (sL (sR (lP (bB (sR (sL (sR (sR (sR (sR (sR (sR (sR (sR (sR (body)))))))))))))))))))) (blockQ 3 (thenQ (acpt P od (panicR R) (.code (sR (sR (lP (bB (sR (sL (sR (sR (sR (sR (sR (sR (sR (sR (sR (body))))))))))))))))) (thenQ (l3E K3) (blockQ 2 (thenQ (acpt P od (panicR R) (.cut (k7E fun x13 m => k7  x13 R m) (sR (sR (sR (sR (sR (sR (sR (sR (sR (sR (body)))))))))))) (bodyQ P fn R)) (bodyQ P fn R))))) (thenQ (l3E K3) (blockQ 2 (thenQ (acpt P od (panicR R) (.cut (k7E fun x13 m => k7  x13 R m) (sR (sR (sR (sR (sR (sR (sR (sR (sR (sR (body)))))))))))) (bodyQ P fn R)) (bodyQ P fn R)))))) ρ m := by
  unfold k5E at h
  obtain ⟨x4a, x4l, x4c, e4, h⟩ := h.ex
  obtain ⟨x13, e13, h⟩ := h.ex
  obtain ⟨x18, e18, h⟩ := h.ex
  obtain ⟨x19a, x19l, x19c, e19, h⟩ := h.ex
  obtain ⟨x20, e20, h⟩ := h.ex
  obtain ⟨x23, e23, h⟩ := h.ex
  obtain ⟨x24, e24, h⟩ := h.ex
  rw [← upd_self e4, ← upd_self e13, ← upd_self e18, ← upd_self e19, ← upd_self e20, ← upd_self e23, ← upd_self e24]
  rw [← k5_er K3 R]
  refine acpt_sound (P := P) (k5A K3 R) _ _ _ ⟨(fun ρ m h => k6_ok K3 R ρ m h), True.intro⟩ ?_
  exact Eq.mp (k5_eq K3 R x4a x4l x4c x13 x18 x19a x19l x19c x20 x23 x24 ρ m) h
theorem k4_eq (K3 : Option Addr → Nat → Nat → Option Addr → Option Addr → Option Addr → Nat → Nat → Int → Mem → Prop) (R : Ending → Mem → Prop) (x4a : Option Addr) (x4l : Nat) (x4c : Nat) (x13 : Option Addr) (x18 : Option Addr) (x19a : Option Addr) (x19l : Nat) (x19c : Nat) (x20 : Int) (x21a : Option Addr) (x21l : Nat) (x21c : Nat) (x22 : Int) (x23 : Int) (x24 : Int) (x194 : Bool) (ρ : Env) (m : Mem) : k4 K3 x4a x4l x4c x13 x18 x19a x19l x19c x20 x21a x21l x21c x22 x23 x24 x194 R m = acpt P od (panicR R) (k4A K3 R) (thenQ (acpt P od (panicR R) (.cut (k5E fun x4a x4l x4c x13 x18 x19a x19l x19c x20 x23 x24 m => k5 K3 x4a x4l x4c x13 x18 x19a x19l x19c x20 x23 x24 R m) (sR (sR (sR (bB (sL (sR (lP (bB (sR (sL (sR (sR (sR (sR (sR (sR (sR (sR (sR (body))))))))))))))))))))) (blockQ 3 (thenQ (acpt P od (panicR R) (.code (sR (sR (lP (bB (sR (sL (sR (sR (sR (sR (sR (sR (sR (sR (sR (body))))))))))))))))) (thenQ (l3E K3) (blockQ 2 (thenQ (acpt P od (panicR R) (.cut (k7E fun x13 m => k7  x13 R m) (sR (sR (sR (sR (sR (sR (sR (sR (sR (sR (body)))))))))))) (bodyQ P fn R)) (bodyQ P fn R))))) (thenQ (l3E K3) (blockQ 2 (thenQ (acpt P od (panicR R) (.cut (k7E fun x13 m => k7  x13 R m) (sR (sR (sR (sR (sR (sR (sR (sR (sR (sR (body)))))))))))) (bodyQ P fn R)) (bodyQ P fn R))))))) (blockQ 3 (thenQ (acpt P od (panicR R) (.code (sR (sR (lP (bB (sR (sL (sR (sR (sR (sR (sR (sR (sR (sR (sR (body))))))))))))))))) (thenQ (l3E K3) (blockQ 2 (thenQ (acpt P od (panicR R) (.cut (k7E fun x13 m => k7  x13 R m) (sR (sR (sR (sR (sR (sR (sR (sR (sR (sR (body)))))))))))) (bodyQ P fn R)) (bodyQ P fn R))))) (thenQ (l3E K3) (blockQ 2 (thenQ (acpt P od (panicR R) (.cut (k7E fun x13 m => k7  x13 R m) (sR (sR (sR (sR (sR (sR (sR (sR (sR (sR (body)))))))))))) (bodyQ P fn R)) (bodyQ P fn R))))))) (upd (upd (upd (upd (upd (upd (upd (upd (upd (upd ρ 194 (.bool x194)) 24 (.int .i64 x24)) 23 (.int .u8 x23)) 22 (.int .i64 x22)) 21 (.slice x21a x21l x21c)) 20 (.int .i64 x20)) 19 (.slice x19a x19l x19c)) 18 (.pointer x18)) 13 (.pointer x13)) 4 (.slice x4a x4l x4c)) m := by kernel_rfl
theorem k4_er (K3 : Option Addr → Nat → Nat → Option Addr → Option Addr → Option Addr → Nat → Nat → Int → Mem → Prop) (R : Ending → Mem → Prop) : (k4A K3 R).erase = sR (sL (sR (sR (bB (sL (sR (lP (bB (sR (sL (sR (sR (sR (sR (sR (sR (sR (sR (sR (body)))))))))))))))))))) := by kernel_rfl
theorem k4_ok (K3 : Option Addr → Nat → Nat → Option Addr → Option Addr → Option Addr → Nat → Nat → Int → Mem → Prop) (R : Ending → Mem → Prop) (ρ : Env) (m : Mem) (h : (k4E fun x4a x4l x4c x13 x18 x19a x19l x19c x20 x21a x21l x21c x22 x23 x24 x194 m => k4 K3 x4a x4l x4c x13 x18 x19a x19l x19c x20 x21a x21l x21c x22 x23 x24 x194 R m) ρ m) : cpt P od (panicR R) (sR (sL (sR (sR (bB (sL (sR (lP (bB (sR (sL (sR (sR (sR (sR (sR (sR (sR (sR (sR (body))))))))))))))))))))) (thenQ (acpt P od (panicR R) (.cut (k5E fun x4a x4l x4c x13 x18 x19a x19l x19c x20 x23 x24 m => k5 K3 x4a x4l x4c x13 x18 x19a x19l x19c x20 x23 x24 R m) (sR (sR (sR (bB (sL (sR (lP (bB (sR (sL (sR (sR (sR (sR (sR (sR (sR (sR (sR (body))))))))))))))))))))) (blockQ 3 (thenQ (acpt P od (panicR R) (.code (sR (sR (lP (bB (sR (sL (sR (sR (sR (sR (sR (sR (sR (sR (sR (body))))))))))))))))) (thenQ (l3E K3) (blockQ 2 (thenQ (acpt P od (panicR R) (.cut (k7E fun x13 m => k7  x13 R m) (sR (sR (sR (sR (sR (sR (sR (sR (sR (sR (body)))))))))))) (bodyQ P fn R)) (bodyQ P fn R))))) (thenQ (l3E K3) (blockQ 2 (thenQ (acpt P od (panicR R) (.cut (k7E fun x13 m => k7  x13 R m) (sR (sR (sR (sR (sR (sR (sR (sR (sR (sR (body)))))))))))) (bodyQ P fn R)) (bodyQ P fn R))))))) (blockQ 3 (thenQ (acpt P od (panicR R) (.code (sR (sR (lP (bB (sR (sL (sR (sR (sR (sR (sR (sR (sR (sR (sR (body))))))))))))))))) (thenQ (l3E K3) (blockQ 2 (thenQ (acpt P od (panicR R) (.cut (k7E fun x13 m => k7  x13 R m) (sR (sR (sR (sR (sR (sR (sR (sR (sR (sR (body)))))))))))) (bodyQ P fn R)) (bodyQ P fn R))))) (thenQ (l3E K3) (blockQ 2 (thenQ (acpt P od (panicR R) (.cut (k7E fun x13 m => k7  x13 R m) (sR (sR (sR (sR (sR (sR (sR (sR (sR (sR (body)))))))))))) (bodyQ P fn R)) (bodyQ P fn R))))))) ρ m := by
  unfold k4E at h
  obtain ⟨x4a, x4l, x4c, e4, h⟩ := h.ex
  obtain ⟨x13, e13, h⟩ := h.ex
  obtain ⟨x18, e18, h⟩ := h.ex
  obtain ⟨x19a, x19l, x19c, e19, h⟩ := h.ex
  obtain ⟨x20, e20, h⟩ := h.ex
  obtain ⟨x21a, x21l, x21c, e21, h⟩ := h.ex
  obtain ⟨x22, e22, h⟩ := h.ex
  obtain ⟨x23, e23, h⟩ := h.ex
  obtain ⟨x24, e24, h⟩ := h.ex
  obtain ⟨x194, e194, h⟩ := h.ex
  rw [← upd_self e4, ← upd_self e13, ← upd_self e18, ← upd_self e19, ← upd_self e20, ← upd_self e21, ← upd_self e22, ← upd_self e23, ← upd_self e24, ← upd_self e194]
  rw [← k4_er K3 R]
  refine acpt_sound (P := P) (k4A K3 R) _ _ _ True.intro ?_
  exact Eq.mp (k4_eq K3 R x4a x4l x4c x13 x18 x19a x19l x19c x20 x21a x21l x21c x22 x23 x24 x194 ρ m) h
theorem k7_eq  (R : Ending → Mem → Prop) (x13 : Option Addr) (ρ : Env) (m : Mem) : k7  x13 R m = acpt P od (panicR R) (k7A  R) (bodyQ P fn R) (upd ρ 13 (.pointer x13)) m := by kernel_rfl
theorem k7_er  (R : Ending → Mem → Prop) : (k7A  R).erase = sR (sR (sR (sR (sR (sR (sR (sR (sR (sR (body)))))))))) := by kernel_rfl
theorem k7_ok  (R : Ending → Mem → Prop) (ρ : Env) (m : Mem) (h : (k7E fun x13 m => k7  x13 R m) ρ m) : cpt P od (panicR R) (sR (sR (sR (sR (sR (sR (sR (sR (sR (sR (body))))))))))) (bodyQ P fn R) ρ m := by
  unfold k7E at h
  obtain ⟨x13, e13, h⟩ := h.ex
  rw [← upd_self e13]
  rw [← k7_er  R]
  refine acpt_sound (P := P) (k7A  R) _ _ _ True.intro ?_
  exact Eq.mp (k7_eq  R x13 ρ m) h
theorem l3_eq  (K3 : Option Addr → Nat → Nat → Option Addr → Option Addr → Option Addr → Nat → Nat → Int → Mem → Prop) (R : Ending → Mem → Prop) (x4a : Option Addr) (x4l : Nat) (x4c : Nat) (x13 : Option Addr) (x18 : Option Addr) (x19a : Option Addr) (x19l : Nat) (x19c : Nat) (x20 : Int) (ρ : Env) (m : Mem) : l3B  K3 x4a x4l x4c x13 x18 x19a x19l x19c x20 R m = acpt P od (panicR R) (l3A  K3 R) (thenQ (l3E K3) (blockQ 2 (thenQ (acpt P od (panicR R) (.cut (k7E fun x13 m => k7  x13 R m) (sR (sR (sR (sR (sR (sR (sR (sR (sR (sR (body)))))))))))) (bodyQ P fn R)) (bodyQ P fn R)))) (upd (upd (upd (upd (upd ρ 20 (.int .i64 x20)) 19 (.slice x19a x19l x19c)) 18 (.pointer x18)) 13 (.pointer x13)) 4 (.slice x4a x4l x4c)) m := by kernel_rfl
theorem l3_er  (K3 : Option Addr → Nat → Nat → Option Addr → Option Addr → Option Addr → Nat → Nat → Int → Mem → Prop) (R : Ending → Mem → Prop) : (l3A  K3 R).erase = lP (bB (sR (sL (sR (sR (sR (sR (sR (sR (sR (sR (sR (body))))))))))))) := by kernel_rfl
theorem l3_ok  (R : Ending → Mem → Prop) (ρ : Env) (m : Mem) (h : (l3E fun x4a x4l x4c x13 x18 x19a x19l x19c x20 m => l3  x4a x4l x4c x13 x18 x19a x19l x19c x20 R m) ρ m) : cpt P od (panicR R) (.loop (lP (bB (sR (sL (sR (sR (sR (sR (sR (sR (sR (sR (sR (body))))))))))))))) (blockQ 2 (thenQ (acpt P od (panicR R) (.cut (k7E fun x13 m => k7  x13 R m) (sR (sR (sR (sR (sR (sR (sR (sR (sR (sR (body)))))))))))) (bodyQ P fn R)) (bodyQ P fn R))) ρ m := by
  unfold l3E at h
  obtain ⟨x4a, x4l, x4c, e4, h⟩ := h.ex
  obtain ⟨x13, e13, h⟩ := h.ex
  obtain ⟨x18, e18, h⟩ := h.ex
  obtain ⟨x19a, x19l, x19c, e19, h⟩ := h.ex
  obtain ⟨x20, e20, h⟩ := h.ex
  obtain ⟨I, N, h0, hs⟩ := h
  refine ⟨fun N => l3E (I N), N, (by show l3E (I N) ρ m; unfold l3E; rw [e4, e13, e18, e19, e20]; exact h0), ?_⟩
  clear h0 e4 e13 e18 e19 e20
  intro N ρ m h
  unfold l3E at h
  obtain ⟨x4a, x4l, x4c, e4, h⟩ := h.ex
  obtain ⟨x13, e13, h⟩ := h.ex
  obtain ⟨x18, e18, h⟩ := h.ex
  obtain ⟨x19a, x19l, x19c, e19, h⟩ := h.ex
  obtain ⟨x20, e20, h⟩ := h.ex
  refine cpt_mono (P := P) (lP (bB (sR (sL (sR (sR (sR (sR (sR (sR (sR (sR (sR (body)))))))))))))) (Q := thenQ (l3E fun x4a x4l x4c x13 x18 x19a x19l x19c x20 m => ∃ N1, N1 < N ∧ I N1 x4a x4l x4c x13 x18 x19a x19l x19c x20 m) (blockQ 2 (thenQ (acpt P od (panicR R) (.cut (k7E fun x13 m => k7  x13 R m) (sR (sR (sR (sR (sR (sR (sR (sR (sR (sR (body)))))))))))) (bodyQ P fn R)) (bodyQ P fn R)))) (fun e ρ m h => ?_) ρ m ?_
  · cases e with
    | normal =>
      have h : l3E (fun x4a x4l x4c x13 x18 x19a x19l x19c x20 m => ∃ N1, N1 < N ∧ I N1 x4a x4l x4c x13 x18 x19a x19l x19c x20 m) ρ m := h
      unfold l3E at h
      obtain ⟨x4a, x4l, x4c, e4, h⟩ := h.ex
      obtain ⟨x13, e13, h⟩ := h.ex
      obtain ⟨x18, e18, h⟩ := h.ex
      obtain ⟨x19a, x19l, x19c, e19, h⟩ := h.ex
      obtain ⟨x20, e20, h⟩ := h.ex
      obtain ⟨N1, hlt, h⟩ := h
      exact ⟨N1, hlt, (by show l3E (I N1) ρ m; unfold l3E; rw [e4, e13, e18, e19, e20]; exact h)⟩
    | _ => exact h
  have hh := hs N x4a x4l x4c x13 x18 x19a x19l x19c x20 m h
  generalize (fun x4a x4l x4c x13 x18 x19a x19l x19c x20 m => ∃ N1, N1 < N ∧ I N1 x4a x4l x4c x13 x18 x19a x19l x19c x20 m : Option Addr → Nat → Nat → Option Addr → Option Addr → Option Addr → Nat → Nat → Int → Mem → Prop) = K3 at hh ⊢
  rw [← upd_self e4, ← upd_self e13, ← upd_self e18, ← upd_self e19, ← upd_self e20]
  rw [← l3_er  K3 R]
  refine acpt_sound (P := P) (l3A  K3 R) _ _ _ ⟨⟨True.intro, ⟨⟨⟨(fun ρ m h => k5_ok K3 R ρ m h), ⟨(fun ρ m h => k4_ok K3 R ρ m h), True.intro⟩⟩, True.intro⟩, True.intro⟩⟩, True.intro⟩ ?_
  exact Eq.mp (l3_eq  K3 R x4a x4l x4c x13 x18 x19a x19l x19c x20 ρ m) hh
theorem k2_eq  (R : Ending → Mem → Prop) (x0a : Option Addr) (x0l : Nat) (x0c : Nat) (x2 : Int) (x4a : Option Addr) (x4l : Nat) (x4c : Nat) (x11 : Option Addr) (x12 : Int) (x13 : Option Addr) (x14 : Option Addr) (ρ : Env) (m : Mem) : k2  x0a x0l x0c x2 x4a x4l x4c x11 x12 x13 x14 R m = acpt P od (panicR R) (k2A  R) (bodyQ P fn R) (upd (upd (upd (upd (upd (upd (upd ρ 14 (.pointer x14)) 13 (.pointer x13)) 12 (.int .i64 x12)) 11 (.pointer x11)) 4 (.slice x4a x4l x4c)) 2 (.int .u8 x2)) 0 (.slice x0a x0l x0c)) m := by kernel_rfl
theorem k2_er  (R : Ending → Mem → Prop) : (k2A  R).erase = sR (sR (sR (sR (sR (sR (body)))))) := by kernel_rfl
theorem k2_ok  (R : Ending → Mem → Prop) (ρ : Env) (m : Mem) (h : (k2E fun x0a x0l x0c x2 x4a x4l x4c x11 x12 x13 x14 m => k2  x0a x0l x0c x2 x4a x4l x4c x11 x12 x13 x14 R m) ρ m) : cpt P od (panicR R) (sR (sR (sR (sR (sR (sR (body))))))) (bodyQ P fn R) ρ m := by
  unfold k2E at h
  obtain ⟨x0a, x0l, x0c, e0, h⟩ := h.ex
  obtain ⟨x2, e2, h⟩ := h.ex
  obtain ⟨x4a, x4l, x4c, e4, h⟩ := h.ex
  obtain ⟨x11, e11, h⟩ := h.ex
  obtain ⟨x12, e12, h⟩ := h.ex
  obtain ⟨x13, e13, h⟩ := h.ex
  obtain ⟨x14, e14, h⟩ := h.ex
  rw [← upd_self e0, ← upd_self e2, ← upd_self e4, ← upd_self e11, ← upd_self e12, ← upd_self e13, ← upd_self e14]
  rw [← k2_er  R]
  refine acpt_sound (P := P) (k2A  R) _ _ _ ⟨⟨⟨⟨(fun ρ m h => k7_ok  R ρ m h), ⟨(fun ρ m h => l3_ok  R ρ m h), True.intro⟩⟩, True.intro⟩, True.intro⟩, True.intro⟩ ?_
  exact Eq.mp (k2_eq  R x0a x0l x0c x2 x4a x4l x4c x11 x12 x13 x14 ρ m) h
theorem l1_eq  (K1 : Option Addr → Nat → Nat → Int → Option Addr → Nat → Nat → Option Addr → Nat → Nat → Option Addr → Int → Option Addr → Option Addr → Int → Mem → Prop) (R : Ending → Mem → Prop) (x0a : Option Addr) (x0l : Nat) (x0c : Nat) (x2 : Int) (x3a : Option Addr) (x3l : Nat) (x3c : Nat) (x4a : Option Addr) (x4l : Nat) (x4c : Nat) (x11 : Option Addr) (x12 : Int) (x13 : Option Addr) (x14 : Option Addr) (x15 : Int) (ρ : Env) (m : Mem) : l1B  K1 x0a x0l x0c x2 x3a x3l x3c x4a x4l x4c x11 x12 x13 x14 x15 R m = acpt P od (panicR R) (l1A  K1 R) (thenQ (l1E K1) (blockQ 0 (thenQ (acpt P od (panicR R) (.cut (k2E fun x0a x0l x0c x2 x4a x4l x4c x11 x12 x13 x14 m => k2  x0a x0l x0c x2 x4a x4l x4c x11 x12 x13 x14 R m) (sR (sR (sR (sR (sR (sR (body)))))))) (bodyQ P fn R)) (bodyQ P fn R)))) (upd (upd (upd (upd (upd (upd (upd (upd (upd ρ 15 (.int .i64 x15)) 14 (.pointer x14)) 13 (.pointer x13)) 12 (.int .i64 x12)) 11 (.pointer x11)) 4 (.slice x4a x4l x4c)) 3 (.slice x3a x3l x3c)) 2 (.int .u8 x2)) 0 (.slice x0a x0l x0c)) m := by kernel_rfl
theorem l1_er  (K1 : Option Addr → Nat → Nat → Int → Option Addr → Nat → Nat → Option Addr → Nat → Nat → Option Addr → Int → Option Addr → Option Addr → Int → Mem → Prop) (R : Ending → Mem → Prop) : (l1A  K1 R).erase = lP (bB (sR (sL (sR (sR (sR (sR (sR (body))))))))) := by kernel_rfl
theorem l1_ok  (R : Ending → Mem → Prop) (ρ : Env) (m : Mem) (h : (l1E fun x0a x0l x0c x2 x3a x3l x3c x4a x4l x4c x11 x12 x13 x14 x15 m => l1  x0a x0l x0c x2 x3a x3l x3c x4a x4l x4c x11 x12 x13 x14 x15 R m) ρ m) : cpt P od (panicR R) (.loop (lP (bB (sR (sL (sR (sR (sR (sR (sR (body))))))))))) (blockQ 0 (thenQ (acpt P od (panicR R) (.cut (k2E fun x0a x0l x0c x2 x4a x4l x4c x11 x12 x13 x14 m => k2  x0a x0l x0c x2 x4a x4l x4c x11 x12 x13 x14 R m) (sR (sR (sR (sR (sR (sR (body)))))))) (bodyQ P fn R)) (bodyQ P fn R))) ρ m := by
  unfold l1E at h
  obtain ⟨x0a, x0l, x0c, e0, h⟩ := h.ex
  obtain ⟨x2, e2, h⟩ := h.ex
  obtain ⟨x3a, x3l, x3c, e3, h⟩ := h.ex
  obtain ⟨x4a, x4l, x4c, e4, h⟩ := h.ex
  obtain ⟨x11, e11, h⟩ := h.ex
  obtain ⟨x12, e12, h⟩ := h.ex
  obtain ⟨x13, e13, h⟩ := h.ex
  obtain ⟨x14, e14, h⟩ := h.ex
  obtain ⟨x15, e15, h⟩ := h.ex
  obtain ⟨I, N, h0, hs⟩ := h
  refine ⟨fun N => l1E (I N), N, (by show l1E (I N) ρ m; unfold l1E; rw [e0, e2, e3, e4, e11, e12, e13, e14, e15]; exact h0), ?_⟩
  clear h0 e0 e2 e3 e4 e11 e12 e13 e14 e15
  intro N ρ m h
  unfold l1E at h
  obtain ⟨x0a, x0l, x0c, e0, h⟩ := h.ex
  obtain ⟨x2, e2, h⟩ := h.ex
  obtain ⟨x3a, x3l, x3c, e3, h⟩ := h.ex
  obtain ⟨x4a, x4l, x4c, e4, h⟩ := h.ex
  obtain ⟨x11, e11, h⟩ := h.ex
  obtain ⟨x12, e12, h⟩ := h.ex
  obtain ⟨x13, e13, h⟩ := h.ex
  obtain ⟨x14, e14, h⟩ := h.ex
  obtain ⟨x15, e15, h⟩ := h.ex
  refine cpt_mono (P := P) (lP (bB (sR (sL (sR (sR (sR (sR (sR (body)))))))))) (Q := thenQ (l1E fun x0a x0l x0c x2 x3a x3l x3c x4a x4l x4c x11 x12 x13 x14 x15 m => ∃ N1, N1 < N ∧ I N1 x0a x0l x0c x2 x3a x3l x3c x4a x4l x4c x11 x12 x13 x14 x15 m) (blockQ 0 (thenQ (acpt P od (panicR R) (.cut (k2E fun x0a x0l x0c x2 x4a x4l x4c x11 x12 x13 x14 m => k2  x0a x0l x0c x2 x4a x4l x4c x11 x12 x13 x14 R m) (sR (sR (sR (sR (sR (sR (body)))))))) (bodyQ P fn R)) (bodyQ P fn R)))) (fun e ρ m h => ?_) ρ m ?_
  · cases e with
    | normal =>
      have h : l1E (fun x0a x0l x0c x2 x3a x3l x3c x4a x4l x4c x11 x12 x13 x14 x15 m => ∃ N1, N1 < N ∧ I N1 x0a x0l x0c x2 x3a x3l x3c x4a x4l x4c x11 x12 x13 x14 x15 m) ρ m := h
      unfold l1E at h
      obtain ⟨x0a, x0l, x0c, e0, h⟩ := h.ex
      obtain ⟨x2, e2, h⟩ := h.ex
      obtain ⟨x3a, x3l, x3c, e3, h⟩ := h.ex
      obtain ⟨x4a, x4l, x4c, e4, h⟩ := h.ex
      obtain ⟨x11, e11, h⟩ := h.ex
      obtain ⟨x12, e12, h⟩ := h.ex
      obtain ⟨x13, e13, h⟩ := h.ex
      obtain ⟨x14, e14, h⟩ := h.ex
      obtain ⟨x15, e15, h⟩ := h.ex
      obtain ⟨N1, hlt, h⟩ := h
      exact ⟨N1, hlt, (by show l1E (I N1) ρ m; unfold l1E; rw [e0, e2, e3, e4, e11, e12, e13, e14, e15]; exact h)⟩
    | _ => exact h
  have hh := hs N x0a x0l x0c x2 x3a x3l x3c x4a x4l x4c x11 x12 x13 x14 x15 m h
  generalize (fun x0a x0l x0c x2 x3a x3l x3c x4a x4l x4c x11 x12 x13 x14 x15 m => ∃ N1, N1 < N ∧ I N1 x0a x0l x0c x2 x3a x3l x3c x4a x4l x4c x11 x12 x13 x14 x15 m : Option Addr → Nat → Nat → Int → Option Addr → Nat → Nat → Option Addr → Nat → Nat → Option Addr → Int → Option Addr → Option Addr → Int → Mem → Prop) = K1 at hh ⊢
  rw [← upd_self e0, ← upd_self e2, ← upd_self e3, ← upd_self e4, ← upd_self e11, ← upd_self e12, ← upd_self e13, ← upd_self e14, ← upd_self e15]
  rw [← l1_er  K1 R]
  refine acpt_sound (P := P) (l1A  K1 R) _ _ _ True.intro ?_
  exact Eq.mp (l1_eq  K1 R x0a x0l x0c x2 x3a x3l x3c x4a x4l x4c x11 x12 x13 x14 x15 ρ m) hh
theorem e0_eq (a0a : Option Addr) (a0l : Nat) (a0c : Nat) (a1 : Int) (a2 : Int) (a3a : Option Addr) (a3l : Nat) (a3c : Nat) (a4a : Option Addr) (a4l : Nat) (a4c : Nat) (R : Ending → Mem → Prop) (m : Mem) : e0 a0a a0l a0c a1 a2 a3a a3l a3c a4a a4l a4c R m = acpt P od (panicR R) (e0A R) (bodyQ P fn R) (argE (#[.slice a0a a0l a0c, .int .u8 a1, .int .u8 a2, .slice a3a a3l a3c, .slice a4a a4l a4c] : Array Value).toList) m := by kernel_rfl
theorem ok (a0a : Option Addr) (a0l : Nat) (a0c : Nat) (a1 : Int) (a2 : Int) (a3a : Option Addr) (a3l : Nat) (a3c : Nat) (a4a : Option Addr) (a4l : Nat) (a4c : Nat) (R : Ending → Mem → Prop) (m : Mem) (h : e0 a0a a0l a0c a1 a2 a3a a3l a3c a4a a4l a4c R m) : HC P id #[.slice a0a a0l a0c, .int .u8 a1, .int .u8 a2, .slice a3a a3l a3c, .slice a4a a4l a4c] m R := by
  refine HC_of (fn := fn) (c := body) (od := od) (tb := tb) Go.Proofs.Try.func3 (by kernel_rfl) (by kernel_rfl) follows (by kernel_rfl) (of_decide_eq_true (by kernel_rfl)) ?_
  have he : (e0A R).erase = body := by kernel_rfl
  rw [← he]
  refine acpt_sound (P := P) (e0A R) _ _ _ ⟨⟨⟨⟨⟨⟨(fun ρ m h => k2_ok  R ρ m h), ⟨(fun ρ m h => l1_ok  R ρ m h), True.intro⟩⟩, True.intro⟩, True.intro⟩, True.intro⟩, True.intro⟩, True.intro⟩ ?_
  exact Eq.mp (e0_eq a0a a0l a0c a1 a2 a3a a3l a3c a4a a4l a4c R m) h
end eyotlaw7_DocAll

/-! ### eyot/eyotlaw7.DocParts -/
namespace eyotlaw7_DocParts
noncomputable def fn : Func := Go.Proofs.Try.f4
noncomputable def body : Code := fn.body.getD .skip
def od : Nat → Ord := fun _ => .done
def tb : Nat → Tab := fun _ => (0, [], [])
def k1E (K : Int → Int → Option Addr → Int → Int → Int → Mem → Prop) : Env → Mem → Prop := fun ρ m => UnI (ρ 6) .u8 fun x6 => UnI (ρ 16) .i64 fun x16 => UnP (ρ 19) fun x19 => UnI (ρ 20) .i64 fun x20 => UnI (ρ 21) .i64 fun x21 => UnI (ρ 22) .i64 fun x22 => K x6 x16 x19 x20 x21 x22 m
def k1  (x6 : Int) (x16 : Int) (x19 : Option Addr) (x20 : Int) (x21 : Int) (x22 : Int) (R : Ending → Mem → Prop) (m : Mem) : Prop :=
  HC P doc_Doc_Bytes.id #[.pointer x19, .int .i64 x21, .int .i64 x22] m (Cont (fun v m1 =>
      UnTup v fun us0 =>
      UnCons us0 fun w us1 =>
      UnS w fun x104_0a x104_0l x104_0c =>
      UnCons us1 fun w us2 =>
      UnI w .i64 fun x104_1 =>
      UnNil us2 (
        HC P doc_Doc_Bytes.id #[.pointer x19, .int .i64 x22, .int .i64 (if x20 < (IntKind.i64.wrap (x22 + (IntKind.i64.wrap x6))) then x20 else IntKind.i64.wrap (x22 + (IntKind.i64.wrap x6)))] m1 (Cont (fun v m2 =>
            UnTup v fun us0 =>
            UnCons us0 fun w us1 =>
            UnS w fun x111_0a x111_0l x111_0c =>
            UnCons us1 fun w us2 =>
            UnI w .i64 fun x111_1 =>
            UnNil us2 (
              HC P doc_Doc_Bytes.id #[.pointer x19, .int .i64 x21, .int .i64 (if x20 < (IntKind.i64.wrap (x22 + (IntKind.i64.wrap x6))) then x20 else IntKind.i64.wrap (x22 + (IntKind.i64.wrap x6)))] m2 (Cont (fun v m3 =>
                  UnTup v fun us0 =>
                  UnCons us0 fun w us1 =>
                  UnS w fun x118_0a x118_0l x118_0c =>
                  UnCons us1 fun w us2 =>
                  UnI w .i64 fun x118_1 =>
                  UnNil us2 (
                    HC P doc_Doc_At.id #[.pointer x19, .int .i64 x21] m3 (Cont (fun v m4 =>
                        UnTup v fun us0 =>
                        UnCons us0 fun w us1 =>
                        UnI w .u8 fun x124_0 =>
                        UnCons us1 fun w us2 =>
                        UnI w .i64 fun x124_1 =>
                        UnNil us2 (
                        HC P doc_Doc_Bytes.id #[.pointer x19, .int .i64 x21, .int .i64 (IntKind.i64.wrap (x21 + 1))] m4 (Cont (fun v m5 =>
                        UnTup v fun us0 =>
                        UnCons us0 fun w us1 =>
                        UnS w fun x132_0a x132_0l x132_0c =>
                        UnCons us1 fun w us2 =>
                        UnI w .i64 fun x132_1 =>
                        UnNil us2 (
                        Br (x16 == 0) (
                        Br (x104_1 == 0) (
                        Br (x111_1 == 0) (
                        Br (x118_1 == 0) (
                        B2S m5 x104_0a x104_0l fun s151 =>
                        B2S m5 x111_0a x111_0l fun s153 =>
                        CatB s151 s153 (
                        B2S m5 x118_0a x118_0l fun s156 =>
                        Br ((s151 ++ s153).toList == s156.toList) (
                        Br (x124_1 == 0) (
                        Br (x132_1 == 0) (
                        Br (((x132_0l : Nat) : Int) == 1) (
                        IxS x132_0a x132_0l 0 1 fun x174b x174o =>
                        LdV m5 x174b x174o fun v =>
                        UnI v .u8 fun x175 =>
                        R (.returned (.bool (x175 == x124_0))) m5) (
                        R (.returned (.bool false)) m5)) (
                        R (.returned (.bool false)) m5)) (
                        R (.returned (.bool false)) m5)) (
                        R (.returned (.bool false)) m5))) (
                        R (.returned (.bool false)) m5)) (
                        R (.returned (.bool false)) m5)) (
                        R (.returned (.bool false)) m5)) (
                        R (.returned (.bool false)) m5))) (panicR R)))) (panicR R)))) (panicR R)))) (panicR R)))) (panicR R))
noncomputable def k1A  (R : Ending → Mem → Prop) : ACode := (.code (sR (sR (sR (sR (sR (sR (sR (sR (sR (sR (sR (body)))))))))))))
def e0 (a0a : Option Addr) (a0l : Nat) (a0c : Nat) (a1a : Option Addr) (a1l : Nat) (a1c : Nat) (a2 : Int) (a3 : Int) (a4 : Int) (a5 : Int) (a6 : Int) (R : Ending → Mem → Prop) (m : Mem) : Prop :=
  HC P eyotlaw7_begun.id #[] m (Cont (fun v m1 =>
      UnB v fun x34 =>
      Br (!x34) (
        R (.returned (.bool false)) m1) (
        Br (decide (((a0l : Nat) : Int) > 100)) (
          R (.returned (.bool true)) m1) (
          Br (decide (((a1l : Nat) : Int) > 20)) (
            R (.returned (.bool true)) m1) (
            Br ((IntKind.i64.wrap (((a0l : Nat) : Int) + ((a1l : Nat) : Int))) == 0) (
              R (.returned (.bool true)) m1) (
              HC P page_New.id #[.slice a0a a0l a0c, .int .i64 (IntKind.i64.wrap (1 + (Int.tmod (IntKind.i64.wrap a3) 20)))] m1 (Cont (fun v m2 =>
                  UnTup v fun us0 =>
                  UnCons us0 fun w us1 =>
                  UnP w fun x58_0 =>
                  UnCons us1 fun w us2 =>
                  UnI w .i64 fun x58_1 =>
                  UnNil us2 (
                    HC P piece_New.id #[.int .i64 ((a0l : Nat) : Int)] m2 (Cont (fun v m3 =>
                        UnP v fun x63 =>
                        NzI (IntKind.i64.wrap (((a0l : Nat) : Int) + 1)) (
                        HC P piece_Text_Edit.id #[.pointer x63, .int .i64 (Int.tmod (IntKind.i64.wrap a2) (IntKind.i64.wrap (((a0l : Nat) : Int) + 1))), .int .i64 (Int.tmod (IntKind.i64.wrap a2) (IntKind.i64.wrap (((a0l : Nat) : Int) + 1))), .slice a1a a1l a1c] m3 (Cont (fun v m4 =>
                        UnI v .i64 fun x74 =>
                        HC P file_New.id #[.pointer x58_0, .int .i64 2] m4 (Cont (fun v m5 =>
                        UnP v fun x76 =>
                        HC P doc_New.id #[.pointer x76, .pointer x63] m5 (Cont (fun v m6 =>
                        UnP v fun x78 =>
                        NzI (IntKind.i64.wrap (((a0l : Nat) : Int) + ((a1l : Nat) : Int))) (
                        k1  a6 x58_1 x78 (IntKind.i64.wrap (((a0l : Nat) : Int) + ((a1l : Nat) : Int))) (Int.tmod (IntKind.i64.wrap a4) (IntKind.i64.wrap (((a0l : Nat) : Int) + ((a1l : Nat) : Int)))) (if (IntKind.i64.wrap (((a0l : Nat) : Int) + ((a1l : Nat) : Int))) < (IntKind.i64.wrap ((Int.tmod (IntKind.i64.wrap a4) (IntKind.i64.wrap (((a0l : Nat) : Int) + ((a1l : Nat) : Int)))) + (IntKind.i64.wrap a5))) then IntKind.i64.wrap (((a0l : Nat) : Int) + ((a1l : Nat) : Int)) else IntKind.i64.wrap ((Int.tmod (IntKind.i64.wrap a4) (IntKind.i64.wrap (((a0l : Nat) : Int) + ((a1l : Nat) : Int)))) + (IntKind.i64.wrap a5))) R m6)) (panicR R))) (panicR R))) (panicR R)))) (panicR R)))) (panicR R))))))) (panicR R))
noncomputable def e0A (R : Ending → Mem → Prop) : ACode := (.seq (.code (sL (body))) (.seq (.code (sL (sR (body)))) (.seq (.code (sL (sR (sR (body))))) (.seq (.code (sL (sR (sR (sR (body)))))) (.seq (.code (sL (sR (sR (sR (sR (body))))))) (.seq (.code (sL (sR (sR (sR (sR (sR (body)))))))) (.seq (.code (sL (sR (sR (sR (sR (sR (sR (body))))))))) (.seq (.code (sL (sR (sR (sR (sR (sR (sR (sR (body)))))))))) (.seq (.code (sL (sR (sR (sR (sR (sR (sR (sR (sR (body))))))))))) (.seq (.code (sL (sR (sR (sR (sR (sR (sR (sR (sR (sR (body)))))))))))) (.seq (.code (sL (sR (sR (sR (sR (sR (sR (sR (sR (sR (sR (body))))))))))))) (.cut (k1E fun x6 x16 x19 x20 x21 x22 m => k1  x6 x16 x19 x20 x21 x22 R m) (sR (sR (sR (sR (sR (sR (sR (sR (sR (sR (sR (body))))))))))))))))))))))))
theorem k1_eq  (R : Ending → Mem → Prop) (x6 : Int) (x16 : Int) (x19 : Option Addr) (x20 : Int) (x21 : Int) (x22 : Int) (ρ : Env) (m : Mem) : k1  x6 x16 x19 x20 x21 x22 R m = acpt P od (panicR R) (k1A  R) (bodyQ P fn R) (upd (upd (upd (upd (upd (upd ρ 22 (.int .i64 x22)) 21 (.int .i64 x21)) 20 (.int .i64 x20)) 19 (.pointer x19)) 16 (.int .i64 x16)) 6 (.int .u8 x6)) m := by kernel_rfl
theorem k1_er  (R : Ending → Mem → Prop) : (k1A  R).erase = sR (sR (sR (sR (sR (sR (sR (sR (sR (sR (sR (body))))))))))) := by kernel_rfl
theorem k1_ok  (R : Ending → Mem → Prop) (ρ : Env) (m : Mem) (h : (k1E fun x6 x16 x19 x20 x21 x22 m => k1  x6 x16 x19 x20 x21 x22 R m) ρ m) : cpt P od (panicR R) (sR (sR (sR (sR (sR (sR (sR (sR (sR (sR (sR (body)))))))))))) (bodyQ P fn R) ρ m := by
  unfold k1E at h
  obtain ⟨x6, e6, h⟩ := h.ex
  obtain ⟨x16, e16, h⟩ := h.ex
  obtain ⟨x19, e19, h⟩ := h.ex
  obtain ⟨x20, e20, h⟩ := h.ex
  obtain ⟨x21, e21, h⟩ := h.ex
  obtain ⟨x22, e22, h⟩ := h.ex
  rw [← upd_self e6, ← upd_self e16, ← upd_self e19, ← upd_self e20, ← upd_self e21, ← upd_self e22]
  rw [← k1_er  R]
  refine acpt_sound (P := P) (k1A  R) _ _ _ True.intro ?_
  exact Eq.mp (k1_eq  R x6 x16 x19 x20 x21 x22 ρ m) h
theorem e0_eq (a0a : Option Addr) (a0l : Nat) (a0c : Nat) (a1a : Option Addr) (a1l : Nat) (a1c : Nat) (a2 : Int) (a3 : Int) (a4 : Int) (a5 : Int) (a6 : Int) (R : Ending → Mem → Prop) (m : Mem) : e0 a0a a0l a0c a1a a1l a1c a2 a3 a4 a5 a6 R m = acpt P od (panicR R) (e0A R) (bodyQ P fn R) (argE (#[.slice a0a a0l a0c, .slice a1a a1l a1c, .int .u8 a2, .int .u8 a3, .int .u8 a4, .int .u8 a5, .int .u8 a6] : Array Value).toList) m := by kernel_rfl
theorem ok (a0a : Option Addr) (a0l : Nat) (a0c : Nat) (a1a : Option Addr) (a1l : Nat) (a1c : Nat) (a2 : Int) (a3 : Int) (a4 : Int) (a5 : Int) (a6 : Int) (R : Ending → Mem → Prop) (m : Mem) (h : e0 a0a a0l a0c a1a a1l a1c a2 a3 a4 a5 a6 R m) : HC P id #[.slice a0a a0l a0c, .slice a1a a1l a1c, .int .u8 a2, .int .u8 a3, .int .u8 a4, .int .u8 a5, .int .u8 a6] m R := by
  refine HC_of (fn := fn) (c := body) (od := od) (tb := tb) Go.Proofs.Try.func4 (by kernel_rfl) (by kernel_rfl) follows (by kernel_rfl) (of_decide_eq_true (by kernel_rfl)) ?_
  have he : (e0A R).erase = body := by kernel_rfl
  rw [← he]
  refine acpt_sound (P := P) (e0A R) _ _ _ ⟨⟨⟨⟨⟨⟨⟨⟨⟨⟨⟨(fun ρ m h => k1_ok  R ρ m h), True.intro⟩, True.intro⟩, True.intro⟩, True.intro⟩, True.intro⟩, True.intro⟩, True.intro⟩, True.intro⟩, True.intro⟩, True.intro⟩, True.intro⟩ ?_
  exact Eq.mp (e0_eq a0a a0l a0c a1a a1l a1c a2 a3 a4 a5 a6 R m) h
end eyotlaw7_DocParts

/-! ### eyot/eyotlaw7.DocAdded -/
namespace eyotlaw7_DocAdded
noncomputable def fn : Func := Go.Proofs.Try.f5
noncomputable def body : Code := fn.body.getD .skip
def od : Nat → Ord := fun _ => .done
def tb : Nat → Tab := fun _ => (0, [], [])
def k2E (K : Option Addr → Nat → Nat → Option Addr → Nat → Nat → Option Addr → Int → Option Addr → Option Addr → Nat → Nat → Mem → Prop) : Env → Mem → Prop := fun ρ m => UnS (ρ 0) fun x0a x0l x0c => UnS (ρ 1) fun x1a x1l x1c => UnP (ρ 9) fun x9 => UnI (ρ 12) .i64 fun x12 => UnP (ρ 13) fun x13 => UnS (ρ 14) fun x14a x14l x14c => K x0a x0l x0c x1a x1l x1c x9 x12 x13 x14a x14l x14c m
def k2  (x0a : Option Addr) (x0l : Nat) (x0c : Nat) (x1a : Option Addr) (x1l : Nat) (x1c : Nat) (x9 : Option Addr) (x12 : Int) (x13 : Option Addr) (x14a : Option Addr) (x14l : Nat) (x14c : Nat) (R : Ending → Mem → Prop) (m : Mem) : Prop :=
  HC P page_Pages_Fault.id #[.pointer x9, .slice x14a x14l x14c] m (Cont (fun v m1 =>
      UnTup v fun us0 =>
      UnNil us0 (
        HC P doc_Doc_Bytes.id #[.pointer x13, .int .i64 x12, .int .i64 (IntKind.i64.wrap (x12 + ((x1l : Nat) : Int)))] m1 (Cont (fun v m2 =>
            UnTup v fun us0 =>
            UnCons us0 fun w us1 =>
            UnS w fun x96_0a x96_0l x96_0c =>
            UnCons us1 fun w us2 =>
            UnI w .i64 fun x96_1 =>
            UnNil us2 (
              HC P doc_Doc_At.id #[.pointer x13, .int .i64 x12] m2 (Cont (fun v m3 =>
                  UnTup v fun us0 =>
                  UnCons us0 fun w us1 =>
                  UnI w .u8 fun x102_0 =>
                  UnCons us1 fun w us2 =>
                  UnI w .i64 fun x102_1 =>
                  UnNil us2 (
                    HC P page_Pages_Reads.id #[.pointer x9] m3 (Cont (fun v m4 =>
                        UnS v fun x106a x106l x106c =>
                        HC P doc_Doc_Len.id #[.pointer x13] m4 (Cont (fun v m5 =>
                        UnI v .i64 fun x111 =>
                        HC P doc_Doc_Bytes.id #[.pointer x13, .int .i64 0, .int .i64 x111] m5 (Cont (fun v m6 =>
                        UnTup v fun us0 =>
                        UnCons us0 fun w us1 =>
                        UnS w fun x112_0a x112_0l x112_0c =>
                        UnCons us1 fun w us2 =>
                        UnI w .i64 fun x112_1 =>
                        UnNil us2 (
                        Br (x96_1 == 0) (
                        B2S m6 x96_0a x96_0l fun s119 =>
                        B2S m6 x1a x1l fun s121 =>
                        Br (s119.toList == s121.toList) (
                        Br (x102_1 == 0) (
                        IxS x1a x1l 0 1 fun x131b x131o =>
                        LdV m6 x131b x131o fun v =>
                        UnI v .u8 fun x132 =>
                        Br (x102_0 == x132) (
                        Br (((x106l : Nat) : Int) == 0) (
                        Br (x112_1 == 11) (
                        HC P doc_Doc_Len.id #[.pointer x13] m6 (Cont (fun v m7 =>
                        UnI v .i64 fun x145 =>
                        R (.returned (.bool (x145 == (IntKind.i64.wrap (((x0l : Nat) : Int) + ((x1l : Nat) : Int)))))) m7) (panicR R))) (
                        R (.returned (.bool false)) m6)) (
                        R (.returned (.bool false)) m6)) (
                        R (.returned (.bool false)) m6)) (
                        R (.returned (.bool false)) m6)) (
                        R (.returned (.bool false)) m6)) (
                        R (.returned (.bool false)) m6))) (panicR R))) (panicR R))) (panicR R)))) (panicR R)))) (panicR R)))) (panicR R))
noncomputable def k2A  (R : Ending → Mem → Prop) : ACode := (.code (sR (sR (sR (sR (sR (sR (sR (sR (sR (sR (sR (body)))))))))))))
def l1E (K : Option Addr → Nat → Nat → Option Addr → Nat → Nat → Option Addr → Int → Option Addr → Option Addr → Nat → Nat → Int → Mem → Prop) : Env → Mem → Prop := fun ρ m => UnS (ρ 0) fun x0a x0l x0c => UnS (ρ 1) fun x1a x1l x1c => UnP (ρ 9) fun x9 => UnI (ρ 12) .i64 fun x12 => UnP (ρ 13) fun x13 => UnS (ρ 14) fun x14a x14l x14c => UnI (ρ 15) .i64 fun x15 => K x0a x0l x0c x1a x1l x1c x9 x12 x13 x14a x14l x14c x15 m
def l1B  (K1 : Option Addr → Nat → Nat → Option Addr → Nat → Nat → Option Addr → Int → Option Addr → Option Addr → Nat → Nat → Int → Mem → Prop) (x0a : Option Addr) (x0l : Nat) (x0c : Nat) (x1a : Option Addr) (x1l : Nat) (x1c : Nat) (x9 : Option Addr) (x12 : Int) (x13 : Option Addr) (x14a : Option Addr) (x14l : Nat) (x14c : Nat) (x15 : Int) (R : Ending → Mem → Prop) (m : Mem) : Prop :=
  HC P page_Pages_Count.id #[.pointer x9] m (Cont (fun v m1 =>
      UnI v .i64 fun x78 =>
      Br (decide (x15 < x78)) (
        NewC m1 #[.int .i64 x15] T_int fun b84 m2 =>
        BiN P .append #[T_sl_int, T_sl_int] T_sl_int #[false, false] #[.slice x14a x14l x14c, .slice (some ⟨b84, 0, none⟩) 1 1] m2 (fun w m3 =>
          UnS w fun x85a x85l x85c =>
          K1 x0a x0l x0c x1a x1l x1c x9 x12 x13 x85a x85l x85c (IntKind.i64.wrap (x15 + 1)) m3) (panicR R)) (
        k2  x0a x0l x0c x1a x1l x1c x9 x12 x13 x14a x14l x14c R m1)) (panicR R))
def l1  (x0a : Option Addr) (x0l : Nat) (x0c : Nat) (x1a : Option Addr) (x1l : Nat) (x1c : Nat) (x9 : Option Addr) (x12 : Int) (x13 : Option Addr) (x14a : Option Addr) (x14l : Nat) (x14c : Nat) (x15 : Int) (R : Ending → Mem → Prop) (m : Mem) : Prop :=
  ∃ (I : Nat → Option Addr → Nat → Nat → Option Addr → Nat → Nat → Option Addr → Int → Option Addr → Option Addr → Nat → Nat → Int → Mem → Prop) (N : Nat), I N x0a x0l x0c x1a x1l x1c x9 x12 x13 x14a x14l x14c x15 m ∧ ∀ N x0a x0l x0c x1a x1l x1c x9 x12 x13 x14a x14l x14c x15 m, I N x0a x0l x0c x1a x1l x1c x9 x12 x13 x14a x14l x14c x15 m → l1B  (fun x0a x0l x0c x1a x1l x1c x9 x12 x13 x14a x14l x14c x15 m => ∃ N1, N1 < N ∧ I N1 x0a x0l x0c x1a x1l x1c x9 x12 x13 x14a x14l x14c x15 m) x0a x0l x0c x1a x1l x1c x9 x12 x13 x14a x14l x14c x15 R m
noncomputable def l1A  (K1 : Option Addr → Nat → Nat → Option Addr → Nat → Nat → Option Addr → Int → Option Addr → Option Addr → Nat → Nat → Int → Mem → Prop) (R : Ending → Mem → Prop) : ACode := (.code (lP (bB (sR (sL (sR (sR (sR (sR (sR (sR (sR (sR (sR (sR (body))))))))))))))))
def e0 (a0a : Option Addr) (a0l : Nat) (a0c : Nat) (a1a : Option Addr) (a1l : Nat) (a1c : Nat) (a2 : Int) (a3 : Int) (R : Ending → Mem → Prop) (m : Mem) : Prop :=
  HC P eyotlaw7_begun.id #[] m (Cont (fun v m1 =>
      UnB v fun x23 =>
      Br (!x23) (
        R (.returned (.bool false)) m1) (
        Br (((a0l : Nat) : Int) == 0) (
          R (.returned (.bool true)) m1) (
          Br (decide (((a0l : Nat) : Int) > 100)) (
            R (.returned (.bool true)) m1) (
            Br (((a1l : Nat) : Int) == 0) (
              R (.returned (.bool true)) m1) (
              Br (decide (((a1l : Nat) : Int) > 30)) (
                R (.returned (.bool true)) m1) (
                HC P page_New.id #[.slice a0a a0l a0c, .int .i64 (IntKind.i64.wrap (1 + (Int.tmod (IntKind.i64.wrap a3) 20)))] m1 (Cont (fun v m2 =>
                    UnTup v fun us0 =>
                    UnCons us0 fun w us1 =>
                    UnP w fun x49_0 =>
                    UnCons us1 fun w us2 =>
                    UnI w .i64 fun x49_1 =>
                    UnNil us2 (
                      Br (x49_1 != 0) (
                        R (.returned (.bool false)) m2) (
                        Br x49_0.isNone (
                        R (.returned (.bool false)) m2) (
                        HC P piece_New.id #[.int .i64 ((a0l : Nat) : Int)] m2 (Cont (fun v m3 =>
                        UnP v fun x60 =>
                        NzI (IntKind.i64.wrap (((a0l : Nat) : Int) + 1)) (
                        HC P piece_Text_Edit.id #[.pointer x60, .int .i64 (Int.tmod (IntKind.i64.wrap a2) (IntKind.i64.wrap (((a0l : Nat) : Int) + 1))), .int .i64 (Int.tmod (IntKind.i64.wrap a2) (IntKind.i64.wrap (((a0l : Nat) : Int) + 1))), .slice a1a a1l a1c] m3 (Cont (fun v m4 =>
                        UnI v .i64 fun x71 =>
                        HC P file_New.id #[.pointer x49_0, .int .i64 5] m4 (Cont (fun v m5 =>
                        UnP v fun x73 =>
                        HC P doc_New.id #[.pointer x73, .pointer x60] m5 (Cont (fun v m6 =>
                        UnP v fun x75 =>
                        l1  a0a a0l a0c a1a a1l a1c x49_0 (Int.tmod (IntKind.i64.wrap a2) (IntKind.i64.wrap (((a0l : Nat) : Int) + 1))) x75 none 0 0 0 R m6) (panicR R))) (panicR R))) (panicR R)))) (panicR R)))))) (panicR R)))))))) (panicR R))
noncomputable def e0A (R : Ending → Mem → Prop) : ACode := (.seq (.code (sL (body))) (.seq (.code (sL (sR (body)))) (.seq (.code (sL (sR (sR (body))))) (.seq (.code (sL (sR (sR (sR (body)))))) (.seq (.code (sL (sR (sR (sR (sR (body))))))) (.seq (.code (sL (sR (sR (sR (sR (sR (body)))))))) (.seq (.code (sL (sR (sR (sR (sR (sR (sR (body))))))))) (.seq (.code (sL (sR (sR (sR (sR (sR (sR (sR (body)))))))))) (.seq (.code (sL (sR (sR (sR (sR (sR (sR (sR (sR (body))))))))))) (.seq (.code (sL (sR (sR (sR (sR (sR (sR (sR (sR (sR (body)))))))))))) (.seq (.seq (.code (sL (sL (sR (sR (sR (sR (sR (sR (sR (sR (sR (sR (body)))))))))))))) (.block 0 (.cut (l1E fun x0a x0l x0c x1a x1l x1c x9 x12 x13 x14a x14l x14c x15 m => l1  x0a x0l x0c x1a x1l x1c x9 x12 x13 x14a x14l x14c x15 R m) (.loop (lP (bB (sR (sL (sR (sR (sR (sR (sR (sR (sR (sR (sR (sR (body))))))))))))))))))) (.cut (k2E fun x0a x0l x0c x1a x1l x1c x9 x12 x13 x14a x14l x14c m => k2  x0a x0l x0c x1a x1l x1c x9 x12 x13 x14a x14l x14c R m) (sR (sR (sR (sR (sR (sR (sR (sR (sR (sR (sR (body))))))))))))))))))))))))
theorem k2_eq  (R : Ending → Mem → Prop) (x0a : Option Addr) (x0l : Nat) (x0c : Nat) (x1a : Option Addr) (x1l : Nat) (x1c : Nat) (x9 : Option Addr) (x12 : Int) (x13 : Option Addr) (x14a : Option Addr) (x14l : Nat) (x14c : Nat) (ρ : Env) (m : Mem) : k2  x0a x0l x0c x1a x1l x1c x9 x12 x13 x14a x14l x14c R m = acpt P od (panicR R) (k2A  R) (bodyQ P fn R) (upd (upd (upd (upd (upd (upd ρ 14 (.slice x14a x14l x14c)) 13 (.pointer x13)) 12 (.int .i64 x12)) 9 (.pointer x9)) 1 (.slice x1a x1l x1c)) 0 (.slice x0a x0l x0c)) m := by kernel_rfl
theorem k2_er  (R : Ending → Mem → Prop) : (k2A  R).erase = sR (sR (sR (sR (sR (sR (sR (sR (sR (sR (sR (body))))))))))) := by kernel_rfl
theorem k2_ok  (R : Ending → Mem → Prop) (ρ : Env) (m : Mem) (h : (k2E fun x0a x0l x0c x1a x1l x1c x9 x12 x13 x14a x14l x14c m => k2  x0a x0l x0c x1a x1l x1c x9 x12 x13 x14a x14l x14c R m) ρ m) : cpt P od (panicR R) (sR (sR (sR (sR (sR (sR (sR (sR (sR (sR (sR (body)))))))))))) (bodyQ P fn R) ρ m := by
  unfold k2E at h
  obtain ⟨x0a, x0l, x0c, e0, h⟩ := h.ex
  obtain ⟨x1a, x1l, x1c, e1, h⟩ := h.ex
  obtain ⟨x9, e9, h⟩ := h.ex
  obtain ⟨x12, e12, h⟩ := h.ex
  obtain ⟨x13, e13, h⟩ := h.ex
  obtain ⟨x14a, x14l, x14c, e14, h⟩ := h.ex
  rw [← upd_self e0, ← upd_self e1, ← upd_self e9, ← upd_self e12, ← upd_self e13, ← upd_self e14]
  rw [← k2_er  R]
  refine acpt_sound (P := P) (k2A  R) _ _ _ True.intro ?_
  exact Eq.mp (k2_eq  R x0a x0l x0c x1a x1l x1c x9 x12 x13 x14a x14l x14c ρ m) h
theorem l1_eq  (K1 : Option Addr → Nat → Nat → Option Addr → Nat → Nat → Option Addr → Int → Option Addr → Option Addr → Nat → Nat → Int → Mem → Prop) (R : Ending → Mem → Prop) (x0a : Option Addr) (x0l : Nat) (x0c : Nat) (x1a : Option Addr) (x1l : Nat) (x1c : Nat) (x9 : Option Addr) (x12 : Int) (x13 : Option Addr) (x14a : Option Addr) (x14l : Nat) (x14c : Nat) (x15 : Int) (ρ : Env) (m : Mem) : l1B  K1 x0a x0l x0c x1a x1l x1c x9 x12 x13 x14a x14l x14c x15 R m = acpt P od (panicR R) (l1A  K1 R) (thenQ (l1E K1) (blockQ 0 (thenQ (acpt P od (panicR R) (.cut (k2E fun x0a x0l x0c x1a x1l x1c x9 x12 x13 x14a x14l x14c m => k2  x0a x0l x0c x1a x1l x1c x9 x12 x13 x14a x14l x14c R m) (sR (sR (sR (sR (sR (sR (sR (sR (sR (sR (sR (body))))))))))))) (bodyQ P fn R)) (bodyQ P fn R)))) (upd (upd (upd (upd (upd (upd (upd ρ 15 (.int .i64 x15)) 14 (.slice x14a x14l x14c)) 13 (.pointer x13)) 12 (.int .i64 x12)) 9 (.pointer x9)) 1 (.slice x1a x1l x1c)) 0 (.slice x0a x0l x0c)) m := by kernel_rfl
theorem l1_er  (K1 : Option Addr → Nat → Nat → Option Addr → Nat → Nat → Option Addr → Int → Option Addr → Option Addr → Nat → Nat → Int → Mem → Prop) (R : Ending → Mem → Prop) : (l1A  K1 R).erase = lP (bB (sR (sL (sR (sR (sR (sR (sR (sR (sR (sR (sR (sR (body)))))))))))))) := by kernel_rfl
theorem l1_ok  (R : Ending → Mem → Prop) (ρ : Env) (m : Mem) (h : (l1E fun x0a x0l x0c x1a x1l x1c x9 x12 x13 x14a x14l x14c x15 m => l1  x0a x0l x0c x1a x1l x1c x9 x12 x13 x14a x14l x14c x15 R m) ρ m) : cpt P od (panicR R) (.loop (lP (bB (sR (sL (sR (sR (sR (sR (sR (sR (sR (sR (sR (sR (body)))))))))))))))) (blockQ 0 (thenQ (acpt P od (panicR R) (.cut (k2E fun x0a x0l x0c x1a x1l x1c x9 x12 x13 x14a x14l x14c m => k2  x0a x0l x0c x1a x1l x1c x9 x12 x13 x14a x14l x14c R m) (sR (sR (sR (sR (sR (sR (sR (sR (sR (sR (sR (body))))))))))))) (bodyQ P fn R)) (bodyQ P fn R))) ρ m := by
  unfold l1E at h
  obtain ⟨x0a, x0l, x0c, e0, h⟩ := h.ex
  obtain ⟨x1a, x1l, x1c, e1, h⟩ := h.ex
  obtain ⟨x9, e9, h⟩ := h.ex
  obtain ⟨x12, e12, h⟩ := h.ex
  obtain ⟨x13, e13, h⟩ := h.ex
  obtain ⟨x14a, x14l, x14c, e14, h⟩ := h.ex
  obtain ⟨x15, e15, h⟩ := h.ex
  obtain ⟨I, N, h0, hs⟩ := h
  refine ⟨fun N => l1E (I N), N, (by show l1E (I N) ρ m; unfold l1E; rw [e0, e1, e9, e12, e13, e14, e15]; exact h0), ?_⟩
  clear h0 e0 e1 e9 e12 e13 e14 e15
  intro N ρ m h
  unfold l1E at h
  obtain ⟨x0a, x0l, x0c, e0, h⟩ := h.ex
  obtain ⟨x1a, x1l, x1c, e1, h⟩ := h.ex
  obtain ⟨x9, e9, h⟩ := h.ex
  obtain ⟨x12, e12, h⟩ := h.ex
  obtain ⟨x13, e13, h⟩ := h.ex
  obtain ⟨x14a, x14l, x14c, e14, h⟩ := h.ex
  obtain ⟨x15, e15, h⟩ := h.ex
  refine cpt_mono (P := P) (lP (bB (sR (sL (sR (sR (sR (sR (sR (sR (sR (sR (sR (sR (body))))))))))))))) (Q := thenQ (l1E fun x0a x0l x0c x1a x1l x1c x9 x12 x13 x14a x14l x14c x15 m => ∃ N1, N1 < N ∧ I N1 x0a x0l x0c x1a x1l x1c x9 x12 x13 x14a x14l x14c x15 m) (blockQ 0 (thenQ (acpt P od (panicR R) (.cut (k2E fun x0a x0l x0c x1a x1l x1c x9 x12 x13 x14a x14l x14c m => k2  x0a x0l x0c x1a x1l x1c x9 x12 x13 x14a x14l x14c R m) (sR (sR (sR (sR (sR (sR (sR (sR (sR (sR (sR (body))))))))))))) (bodyQ P fn R)) (bodyQ P fn R)))) (fun e ρ m h => ?_) ρ m ?_
  · cases e with
    | normal =>
      have h : l1E (fun x0a x0l x0c x1a x1l x1c x9 x12 x13 x14a x14l x14c x15 m => ∃ N1, N1 < N ∧ I N1 x0a x0l x0c x1a x1l x1c x9 x12 x13 x14a x14l x14c x15 m) ρ m := h
      unfold l1E at h
      obtain ⟨x0a, x0l, x0c, e0, h⟩ := h.ex
      obtain ⟨x1a, x1l, x1c, e1, h⟩ := h.ex
      obtain ⟨x9, e9, h⟩ := h.ex
      obtain ⟨x12, e12, h⟩ := h.ex
      obtain ⟨x13, e13, h⟩ := h.ex
      obtain ⟨x14a, x14l, x14c, e14, h⟩ := h.ex
      obtain ⟨x15, e15, h⟩ := h.ex
      obtain ⟨N1, hlt, h⟩ := h
      exact ⟨N1, hlt, (by show l1E (I N1) ρ m; unfold l1E; rw [e0, e1, e9, e12, e13, e14, e15]; exact h)⟩
    | _ => exact h
  have hh := hs N x0a x0l x0c x1a x1l x1c x9 x12 x13 x14a x14l x14c x15 m h
  generalize (fun x0a x0l x0c x1a x1l x1c x9 x12 x13 x14a x14l x14c x15 m => ∃ N1, N1 < N ∧ I N1 x0a x0l x0c x1a x1l x1c x9 x12 x13 x14a x14l x14c x15 m : Option Addr → Nat → Nat → Option Addr → Nat → Nat → Option Addr → Int → Option Addr → Option Addr → Nat → Nat → Int → Mem → Prop) = K1 at hh ⊢
  rw [← upd_self e0, ← upd_self e1, ← upd_self e9, ← upd_self e12, ← upd_self e13, ← upd_self e14, ← upd_self e15]
  rw [← l1_er  K1 R]
  refine acpt_sound (P := P) (l1A  K1 R) _ _ _ True.intro ?_
  exact Eq.mp (l1_eq  K1 R x0a x0l x0c x1a x1l x1c x9 x12 x13 x14a x14l x14c x15 ρ m) hh
theorem e0_eq (a0a : Option Addr) (a0l : Nat) (a0c : Nat) (a1a : Option Addr) (a1l : Nat) (a1c : Nat) (a2 : Int) (a3 : Int) (R : Ending → Mem → Prop) (m : Mem) : e0 a0a a0l a0c a1a a1l a1c a2 a3 R m = acpt P od (panicR R) (e0A R) (bodyQ P fn R) (argE (#[.slice a0a a0l a0c, .slice a1a a1l a1c, .int .u8 a2, .int .u8 a3] : Array Value).toList) m := by kernel_rfl
theorem ok (a0a : Option Addr) (a0l : Nat) (a0c : Nat) (a1a : Option Addr) (a1l : Nat) (a1c : Nat) (a2 : Int) (a3 : Int) (R : Ending → Mem → Prop) (m : Mem) (h : e0 a0a a0l a0c a1a a1l a1c a2 a3 R m) : HC P id #[.slice a0a a0l a0c, .slice a1a a1l a1c, .int .u8 a2, .int .u8 a3] m R := by
  refine HC_of (fn := fn) (c := body) (od := od) (tb := tb) Go.Proofs.Try.func5 (by kernel_rfl) (by kernel_rfl) follows (by kernel_rfl) (of_decide_eq_true (by kernel_rfl)) ?_
  have he : (e0A R).erase = body := by kernel_rfl
  rw [← he]
  refine acpt_sound (P := P) (e0A R) _ _ _ ⟨⟨⟨⟨⟨⟨⟨⟨⟨⟨⟨(fun ρ m h => k2_ok  R ρ m h), ⟨(fun ρ m h => l1_ok  R ρ m h), True.intro⟩⟩, True.intro⟩, True.intro⟩, True.intro⟩, True.intro⟩, True.intro⟩, True.intro⟩, True.intro⟩, True.intro⟩, True.intro⟩, True.intro⟩ ?_
  exact Eq.mp (e0_eq a0a a0l a0c a1a a1l a1c a2 a3 R m) h
end eyotlaw7_DocAdded

/-! ### eyot/eyotlaw7.DocReads -/
namespace eyotlaw7_DocReads
noncomputable def fn : Func := Go.Proofs.Try.f6
noncomputable def body : Code := fn.body.getD .skip
def od : Nat → Ord := fun | 13 => ordL [(0, 3), (1, 3), (2, 3), (3, 3), (4, 1), (5, 3), (6, 3), (7, 3), (8, 0), (9, 3), (10, 3), (11, 2), (12, 3)] .done | 14 => ordL [(0, 3), (1, 3), (2, 3), (3, 3), (4, 3), (5, 1), (6, 3), (7, 3), (8, 3), (9, 1), (10, 3), (11, 3), (12, 3), (13, 3), (14, 2), (15, 3), (16, 3)] .done | 41 => ordL [(0, 3), (1, 3), (2, 3), (3, 3), (4, 1), (5, 3), (6, 3), (7, 3), (8, 3), (9, 0), (10, 3), (11, 3), (12, 3)] .done | _ => .done
def tb : Nat → Tab := fun | 13 => (2048, [0, 0, 3, 7, 15, 0, 32, 96, 224, 480, 992, 2047, 4095], [(0, 4, 70), (0, 262144, 71), (3, 1770887431076116955136, 72), (4, 2361183241434822606848, 73), (8, 4722366482869645213696, 74), (0, 131072, 75), (32, 18889465931478580854784, 76), (64, 37778931862957161709568, 77), (128, 75557863725914323419136, 78), (256, 151115727451828646838272, 79), (512, 302231454903657293676544, 80), (1040, 613907642773053877780480, 81), (4095, 1208925819614629174706176, 20)]) | 14 => (16384, [0, 0, 0, 6, 14, 30, 0, 64, 192, 448, 960, 0, 4032, 8128, 16382, 32767, 65535], [(0, 524288, 82), (0, 4, 83), (0, 262144, 84), (6, 14507109835375550096474112, 85), (8, 19342813113834066795298816, 86), (16, 38685626227668133590597632, 87), (0, 131072, 88), (64, 154742504910672534362390528, 89), (128, 309485009821345068724781056, 90), (256, 618970019642690137449562112, 91), (512, 1237940039285380274899124224, 92), (0, 524288, 93), (3072, 7427640235712281649394745344, 94), (4096, 9903520314283042199192993792, 95), (8224, 19884411881021420665567182848, 96), (16385, 39616499108771398055121387520, 97), (65535, 79228162514264337593543950336, 21)]) | 41 => (0, [0, 1, 3, 7, 15, 7, 7, 7, 231, 487, 1023, 2047, 4095], [(0, 8388608, 240), (1, 883423532389192164791648750371459257913741948437809479060803100646309888, 241), (2, 1766847064778384329583297500742918515827483896875618958121606201292619776, 242), (4, 3533694129556768659166595001485837031654967793751237916243212402589433856, 243), (12, 10601082388670305977499785004457511094964903381253713748729637207755718656, 244), (4, 3533694129556768659166595001485837031654967793751237916243212403122110464, 245), (4, 3533694129556768659166595001485837031654967793751237916243212402585239560, 246), (4, 3533694129556768659166595001485837031654967793751237916243212402585239568, 247), (228, 201420565384735813572495915084692710804333164243820561225863106947358654464, 248), (260, 229690118421189962845828675096579407057572906593830464555808806168040570880, 249), (532, 469981319231050231669157135197616325210110716568914642860347249543836860416, 250), (1028, 908159391296089545405814915381860117135326722994068144474505587464406564864, 251), (4095, 1809251394333065553493296640760748560207343510400633813116524750123642650624, 13)]) | _ => (0, [], [])
def k7E (K : Option Addr → Nat → Nat → Int → Int → Option Addr → Option Addr → Nat → Nat → Int → Bool → Mem → Prop) : Env → Mem → Prop := fun ρ m => UnS (ρ 0) fun x0a x0l x0c => UnI (ρ 3) .i64 fun x3 => UnI (ρ 4) .i64 fun x4 => UnP (ρ 17) fun x17 => UnS (ρ 22) fun x22a x22l x22c => UnI (ρ 23) .i64 fun x23 => UnB (ρ 28) fun x28 => K x0a x0l x0c x3 x4 x17 x22a x22l x22c x23 x28 m
def k7  (x0a : Option Addr) (x0l : Nat) (x0c : Nat) (x3 : Int) (x4 : Int) (x17 : Option Addr) (x22a : Option Addr) (x22l : Nat) (x22c : Nat) (x23 : Int) (x28 : Bool) (R : Ending → Mem → Prop) (m : Mem) : Prop :=
  Br x28 (
    Br (x23 == 11) (
      R (.returned (.bool (((x22l : Nat) : Int) == 0))) m) (
      R (.returned (.bool false)) m)) (
    HC P eyotref3_Text_Spell.id #[.pointer x17, .slice x0a x0l x0c] m (Cont (fun v m1 =>
        UnS v fun x238a x238l x238c =>
        Sub m1 fun r2 =>
        Br (x23 == 0) (
          B2S r2 x22a x22l fun s243 =>
          SlS x238a x238c x3 x4 1 fun x247a x247l x247c =>
          B2S m1 x247a x247l fun s248 =>
          R (.returned (.bool (s243.toList == s248.toList))) m1) (
          R (.returned (.bool false)) m1)) (panicR R)))
noncomputable def k7A  (R : Ending → Mem → Prop) : ACode := (.code (sR (sR (sR (sR (sR (sR (sR (sR (sR (sR (sR (sR (sR (sR (sR (sR (sR (sR (sR (body)))))))))))))))))))))
def k6E (K : Option Addr → Nat → Nat → Int → Int → Int → Option Addr → Option Addr → Nat → Nat → Int → Option Addr → Nat → Nat → Mem → Prop) : Env → Mem → Prop := fun ρ m => UnS (ρ 0) fun x0a x0l x0c => UnI (ρ 3) .i64 fun x3 => UnI (ρ 4) .i64 fun x4 => UnI (ρ 5) .i64 fun x5 => UnP (ρ 17) fun x17 => UnS (ρ 22) fun x22a x22l x22c => UnI (ρ 23) .i64 fun x23 => UnS (ρ 24) fun x24a x24l x24c => K x0a x0l x0c x3 x4 x5 x17 x22a x22l x22c x23 x24a x24l x24c m
def k6  (x0a : Option Addr) (x0l : Nat) (x0c : Nat) (x3 : Int) (x4 : Int) (x5 : Int) (x17 : Option Addr) (x22a : Option Addr) (x22l : Nat) (x22c : Nat) (x23 : Int) (x24a : Option Addr) (x24l : Nat) (x24c : Nat) (R : Ending → Mem → Prop) (m : Mem) : Prop :=
  Br (decide (x5 ≥ 0)) (
    Br (decide (x5 < 300)) (
      IxS x24a x24l x5 1 fun x225b x225o =>
      LdV m x225b x225o fun v =>
      UnB v fun x226 =>
      k7  x0a x0l x0c x3 x4 x17 x22a x22l x22c x23 x226 R m) (
      k7  x0a x0l x0c x3 x4 x17 x22a x22l x22c x23 false R m)) (
    k7  x0a x0l x0c x3 x4 x17 x22a x22l x22c x23 false R m)
noncomputable def k6A  (R : Ending → Mem → Prop) : ACode := (.seq (.code (sL (sR (sR (sR (sR (sR (sR (sR (sR (sR (sR (sR (sR (sR (sR (sR (sR (sR (sR (body))))))))))))))))))))) (.cut (k7E fun x0a x0l x0c x3 x4 x17 x22a x22l x22c x23 x28 m => k7  x0a x0l x0c x3 x4 x17 x22a x22l x22c x23 x28 R m) (sR (sR (sR (sR (sR (sR (sR (sR (sR (sR (sR (sR (sR (sR (sR (sR (sR (sR (sR (body))))))))))))))))))))))
def l5E (K : Option Addr → Nat → Nat → Int → Int → Int → Option Addr → Option Addr → Nat → Nat → Int → Option Addr → Nat → Nat → Option Addr → Nat → Nat → Int → Mem → Prop) : Env → Mem → Prop := fun ρ m => UnS (ρ 0) fun x0a x0l x0c => UnI (ρ 3) .i64 fun x3 => UnI (ρ 4) .i64 fun x4 => UnI (ρ 5) .i64 fun x5 => UnP (ρ 17) fun x17 => UnS (ρ 22) fun x22a x22l x22c => UnI (ρ 23) .i64 fun x23 => UnS (ρ 24) fun x24a x24l x24c => UnS (ρ 26) fun x26a x26l x26c => UnI (ρ 27) .i64 fun x27 => K x0a x0l x0c x3 x4 x5 x17 x22a x22l x22c x23 x24a x24l x24c x26a x26l x26c x27 m
def l5B  (K5 : Option Addr → Nat → Nat → Int → Int → Int → Option Addr → Option Addr → Nat → Nat → Int → Option Addr → Nat → Nat → Option Addr → Nat → Nat → Int → Mem → Prop) (x0a : Option Addr) (x0l : Nat) (x0c : Nat) (x3 : Int) (x4 : Int) (x5 : Int) (x17 : Option Addr) (x22a : Option Addr) (x22l : Nat) (x22c : Nat) (x23 : Int) (x24a : Option Addr) (x24l : Nat) (x24c : Nat) (x26a : Option Addr) (x26l : Nat) (x26c : Nat) (x27 : Int) (R : Ending → Mem → Prop) (m : Mem) : Prop :=
  Br (decide (x27 < ((x26l : Nat) : Int))) (
    IxS x26a x26l x27 1 fun x196b x196o =>
    LdV m x196b x196o fun v =>
    UnI v .i64 fun x197 =>
    Br (decide (x197 < 0)) (
      R (.returned (.bool false)) m) (
      IxS x26a x26l x27 1 fun x202b x202o =>
      LdV m x202b x202o fun v =>
      UnI v .i64 fun x203 =>
      Br (decide (x203 ≥ 300)) (
        R (.returned (.bool false)) m) (
        IxS x26a x26l x27 1 fun x210b x210o =>
        LdV m x210b x210o fun v =>
        UnI v .i64 fun x211 =>
        IxS x24a x24l x211 1 fun x212b x212o =>
        LdV m x212b x212o fun v =>
        UnB v fun x213 =>
        Br (!x213) (
          R (.returned (.bool false)) m) (
          K5 x0a x0l x0c x3 x4 x5 x17 x22a x22l x22c x23 x24a x24l x24c x26a x26l x26c (IntKind.i64.wrap (x27 + 1)) m)))) (
    k6  x0a x0l x0c x3 x4 x5 x17 x22a x22l x22c x23 x24a x24l x24c R m)
def l5  (x0a : Option Addr) (x0l : Nat) (x0c : Nat) (x3 : Int) (x4 : Int) (x5 : Int) (x17 : Option Addr) (x22a : Option Addr) (x22l : Nat) (x22c : Nat) (x23 : Int) (x24a : Option Addr) (x24l : Nat) (x24c : Nat) (x26a : Option Addr) (x26l : Nat) (x26c : Nat) (x27 : Int) (R : Ending → Mem → Prop) (m : Mem) : Prop :=
  ∃ (I : Nat → Option Addr → Nat → Nat → Int → Int → Int → Option Addr → Option Addr → Nat → Nat → Int → Option Addr → Nat → Nat → Option Addr → Nat → Nat → Int → Mem → Prop) (N : Nat), I N x0a x0l x0c x3 x4 x5 x17 x22a x22l x22c x23 x24a x24l x24c x26a x26l x26c x27 m ∧ ∀ N x0a x0l x0c x3 x4 x5 x17 x22a x22l x22c x23 x24a x24l x24c x26a x26l x26c x27 m, I N x0a x0l x0c x3 x4 x5 x17 x22a x22l x22c x23 x24a x24l x24c x26a x26l x26c x27 m → l5B  (fun x0a x0l x0c x3 x4 x5 x17 x22a x22l x22c x23 x24a x24l x24c x26a x26l x26c x27 m => ∃ N1, N1 < N ∧ I N1 x0a x0l x0c x3 x4 x5 x17 x22a x22l x22c x23 x24a x24l x24c x26a x26l x26c x27 m) x0a x0l x0c x3 x4 x5 x17 x22a x22l x22c x23 x24a x24l x24c x26a x26l x26c x27 R m
noncomputable def l5A  (K5 : Option Addr → Nat → Nat → Int → Int → Int → Option Addr → Option Addr → Nat → Nat → Int → Option Addr → Nat → Nat → Option Addr → Nat → Nat → Int → Mem → Prop) (R : Ending → Mem → Prop) : ACode := (.code (lP (bB (sR (sL (sR (sR (sR (sR (sR (sR (sR (sR (sR (sR (sR (sR (sR (sR (sR (sR (sR (body)))))))))))))))))))))))
def k4E (K : Option Addr → Nat → Nat → Int → Int → Int → Option Addr → Option Addr → Option Addr → Nat → Nat → Int → Option Addr → Nat → Nat → Mem → Prop) : Env → Mem → Prop := fun ρ m => UnS (ρ 0) fun x0a x0l x0c => UnI (ρ 3) .i64 fun x3 => UnI (ρ 4) .i64 fun x4 => UnI (ρ 5) .i64 fun x5 => UnP (ρ 14) fun x14 => UnP (ρ 17) fun x17 => UnS (ρ 22) fun x22a x22l x22c => UnI (ρ 23) .i64 fun x23 => UnS (ρ 24) fun x24a x24l x24c => K x0a x0l x0c x3 x4 x5 x14 x17 x22a x22l x22c x23 x24a x24l x24c m
def k4  (x0a : Option Addr) (x0l : Nat) (x0c : Nat) (x3 : Int) (x4 : Int) (x5 : Int) (x14 : Option Addr) (x17 : Option Addr) (x22a : Option Addr) (x22l : Nat) (x22c : Nat) (x23 : Int) (x24a : Option Addr) (x24l : Nat) (x24c : Nat) (R : Ending → Mem → Prop) (m : Mem) : Prop :=
  HC P page_Pages_Reads.id #[.pointer x14] m (Cont (fun v m1 =>
      UnS v fun x187a x187l x187c =>
      l5  x0a x0l x0c x3 x4 x5 x17 x22a x22l x22c x23 x24a x24l x24c x187a x187l x187c 0 R m1) (panicR R))
noncomputable def k4A  (R : Ending → Mem → Prop) : ACode := (.seq (.code (sL (sR (sR (sR (sR (sR (sR (sR (sR (sR (sR (sR (sR (sR (sR (sR (sR (body))))))))))))))))))) (.seq (.seq (.code (sL (sL (sR (sR (sR (sR (sR (sR (sR (sR (sR (sR (sR (sR (sR (sR (sR (sR (sR (body))))))))))))))))))))) (.block 4 (.cut (l5E fun x0a x0l x0c x3 x4 x5 x17 x22a x22l x22c x23 x24a x24l x24c x26a x26l x26c x27 m => l5  x0a x0l x0c x3 x4 x5 x17 x22a x22l x22c x23 x24a x24l x24c x26a x26l x26c x27 R m) (.loop (lP (bB (sR (sL (sR (sR (sR (sR (sR (sR (sR (sR (sR (sR (sR (sR (sR (sR (sR (sR (sR (body)))))))))))))))))))))))))) (.cut (k6E fun x0a x0l x0c x3 x4 x5 x17 x22a x22l x22c x23 x24a x24l x24c m => k6  x0a x0l x0c x3 x4 x5 x17 x22a x22l x22c x23 x24a x24l x24c R m) (sR (sR (sR (sR (sR (sR (sR (sR (sR (sR (sR (sR (sR (sR (sR (sR (sR (sR (body))))))))))))))))))))))
def l3E (K : Option Addr → Nat → Nat → Int → Int → Int → Int → Option Addr → Option Addr → Option Addr → Nat → Nat → Int → Option Addr → Nat → Nat → Int → Mem → Prop) : Env → Mem → Prop := fun ρ m => UnS (ρ 0) fun x0a x0l x0c => UnI (ρ 3) .i64 fun x3 => UnI (ρ 4) .i64 fun x4 => UnI (ρ 5) .i64 fun x5 => UnI (ρ 13) .i64 fun x13 => UnP (ρ 14) fun x14 => UnP (ρ 17) fun x17 => UnS (ρ 22) fun x22a x22l x22c => UnI (ρ 23) .i64 fun x23 => UnS (ρ 24) fun x24a x24l x24c => UnI (ρ 25) .i64 fun x25 => K x0a x0l x0c x3 x4 x5 x13 x14 x17 x22a x22l x22c x23 x24a x24l x24c x25 m
def l3B  (K3 : Option Addr → Nat → Nat → Int → Int → Int → Int → Option Addr → Option Addr → Option Addr → Nat → Nat → Int → Option Addr → Nat → Nat → Int → Mem → Prop) (x0a : Option Addr) (x0l : Nat) (x0c : Nat) (x3 : Int) (x4 : Int) (x5 : Int) (x13 : Int) (x14 : Option Addr) (x17 : Option Addr) (x22a : Option Addr) (x22l : Nat) (x22c : Nat) (x23 : Int) (x24a : Option Addr) (x24l : Nat) (x24c : Nat) (x25 : Int) (R : Ending → Mem → Prop) (m : Mem) : Prop :=
  Br (decide (x25 < x4)) (
    NilC x17 (fun x166b x166o =>
      LdV m x166b x166o fun v =>
      UnS v fun x168a x168l x168c =>
      IxS x168a x168l x25 2 fun x170b x170o =>
      LdV m x170b x170o fun v =>
      UnB v fun x172 =>
      Br (!x172) (
        NilC x17 (fun x176b x176o =>
          LdV m x176b x176o fun v =>
          UnS v fun x178a x178l x178c =>
          IxS x178a x178l x25 2 fun x180b x180o =>
          LdV m x180b (x180o + 1) fun v =>
          UnI v .i64 fun x182 =>
          NzI x13 (
            IxS x24a x24l (IntKind.i64.wrap (Int.tdiv x182 x13)) 1 fun x185b x185o =>
            St1 m x185b x185o (.bool true) fun m1 =>
            K3 x0a x0l x0c x3 x4 x5 x13 x14 x17 x22a x22l x22c x23 x24a x24l x24c (IntKind.i64.wrap (x25 + 1)) m1)) (R (.panicked (nilPanic P)) m)) (
        K3 x0a x0l x0c x3 x4 x5 x13 x14 x17 x22a x22l x22c x23 x24a x24l x24c (IntKind.i64.wrap (x25 + 1)) m)) (R (.panicked (nilPanic P)) m)) (
    k4  x0a x0l x0c x3 x4 x5 x14 x17 x22a x22l x22c x23 x24a x24l x24c R m)
def l3  (x0a : Option Addr) (x0l : Nat) (x0c : Nat) (x3 : Int) (x4 : Int) (x5 : Int) (x13 : Int) (x14 : Option Addr) (x17 : Option Addr) (x22a : Option Addr) (x22l : Nat) (x22c : Nat) (x23 : Int) (x24a : Option Addr) (x24l : Nat) (x24c : Nat) (x25 : Int) (R : Ending → Mem → Prop) (m : Mem) : Prop :=
  ∃ (I : Nat → Option Addr → Nat → Nat → Int → Int → Int → Int → Option Addr → Option Addr → Option Addr → Nat → Nat → Int → Option Addr → Nat → Nat → Int → Mem → Prop) (N : Nat), I N x0a x0l x0c x3 x4 x5 x13 x14 x17 x22a x22l x22c x23 x24a x24l x24c x25 m ∧ ∀ N x0a x0l x0c x3 x4 x5 x13 x14 x17 x22a x22l x22c x23 x24a x24l x24c x25 m, I N x0a x0l x0c x3 x4 x5 x13 x14 x17 x22a x22l x22c x23 x24a x24l x24c x25 m → l3B  (fun x0a x0l x0c x3 x4 x5 x13 x14 x17 x22a x22l x22c x23 x24a x24l x24c x25 m => ∃ N1, N1 < N ∧ I N1 x0a x0l x0c x3 x4 x5 x13 x14 x17 x22a x22l x22c x23 x24a x24l x24c x25 m) x0a x0l x0c x3 x4 x5 x13 x14 x17 x22a x22l x22c x23 x24a x24l x24c x25 R m
noncomputable def l3A  (K3 : Option Addr → Nat → Nat → Int → Int → Int → Int → Option Addr → Option Addr → Option Addr → Nat → Nat → Int → Option Addr → Nat → Nat → Int → Mem → Prop) (R : Ending → Mem → Prop) : ACode := (.code (lP (bB (sR (sL (sR (sR (sR (sR (sR (sR (sR (sR (sR (sR (sR (sR (sR (sR (sR (body)))))))))))))))))))))
def k2E (K : Option Addr → Nat → Nat → Int → Int → Int → Int → Option Addr → Int → Option Addr → Option Addr → Mem → Prop) : Env → Mem → Prop := fun ρ m => UnS (ρ 0) fun x0a x0l x0c => UnI (ρ 3) .i64 fun x3 => UnI (ρ 4) .i64 fun x4 => UnI (ρ 5) .i64 fun x5 => UnI (ρ 13) .i64 fun x13 => UnP (ρ 14) fun x14 => UnI (ρ 15) .i64 fun x15 => UnP (ρ 16) fun x16 => UnP (ρ 17) fun x17 => K x0a x0l x0c x3 x4 x5 x13 x14 x15 x16 x17 m
def k2  (x0a : Option Addr) (x0l : Nat) (x0c : Nat) (x3 : Int) (x4 : Int) (x5 : Int) (x13 : Int) (x14 : Option Addr) (x15 : Int) (x16 : Option Addr) (x17 : Option Addr) (R : Ending → Mem → Prop) (m : Mem) : Prop :=
  Br (x15 != 0) (
    R (.returned (.bool false)) m) (
    Br x14.isNone (
      R (.returned (.bool false)) m) (
      HC P file_New.id #[.pointer x14, .int .i64 50] m (Cont (fun v m1 =>
          UnP v fun x122 =>
          HC P doc_New.id #[.pointer x122, .pointer x16] m1 (Cont (fun v m2 =>
              UnP v fun x124 =>
              NilC x17 (fun x127b x127o =>
                LdV m2 x127b x127o fun v =>
                UnS v fun x129a x129l x129c =>
                HC P eyotlaw0_Place.id #[.int .i64 x3, .int .i64 (IntKind.i64.wrap (((x129l : Nat) : Int) + 1))] m2 (Cont (fun v m3 =>
                    UnI v .i64 fun x132 =>
                    NilC x17 (fun x136b x136o =>
                      LdV m3 x136b x136o fun v =>
                      UnS v fun x138a x138l x138c =>
                      HC P eyotlaw0_Place.id #[.int .i64 x4, .int .i64 (IntKind.i64.wrap ((IntKind.i64.wrap (((x138l : Nat) : Int) - x132)) + 1))] m3 (Cont (fun v m4 =>
                        UnI v .i64 fun x143 =>
                        NewC m4 #[.int .i64 x5] T_int fun b147 m5 =>
                        HC P page_Pages_Fault.id #[.pointer x14, .slice (some ⟨b147, 0, none⟩) 1 1] m5 (Cont (fun v m6 =>
                        UnTup v fun us0 =>
                        UnNil us0 (
                        HC P page_Pages_Clear.id #[.pointer x14] m6 (Cont (fun v m7 =>
                        UnTup v fun us0 =>
                        UnNil us0 (
                        HC P doc_Doc_Bytes.id #[.pointer x124, .int .i64 x132, .int .i64 (IntKind.i64.wrap (x132 + x143))] m7 (Cont (fun v m8 =>
                        UnTup v fun us0 =>
                        UnCons us0 fun w us1 =>
                        UnS w fun x155_0a x155_0l x155_0c =>
                        UnCons us1 fun w us2 =>
                        UnI w .i64 fun x155_1 =>
                        UnNil us2 (
                        MkS P m8 T_sl_bool (.int .i64 300) (.int .i64 300) (fun w m9 =>
                        UnS w fun x158a x158l x158c =>
                        l3  x0a x0l x0c x132 (IntKind.i64.wrap (x132 + x143)) x5 x13 x14 x17 x155_0a x155_0l x155_0c x155_1 x158a x158l x158c x132 R m9) (panicR R))) (panicR R)))) (panicR R)))) (panicR R))) (panicR R))) (R (.panicked (nilPanic P)) m3)) (panicR R))) (R (.panicked (nilPanic P)) m2)) (panicR R))) (panicR R))))
noncomputable def k2A  (R : Ending → Mem → Prop) : ACode := (.seq (.code (sL (sR (sR (sR (sR (sR (sR (sR (body)))))))))) (.seq (.code (sL (sR (sR (sR (sR (sR (sR (sR (sR (body))))))))))) (.seq (.code (sL (sR (sR (sR (sR (sR (sR (sR (sR (sR (body)))))))))))) (.seq (.code (sL (sR (sR (sR (sR (sR (sR (sR (sR (sR (sR (body))))))))))))) (.seq (.code (sL (sR (sR (sR (sR (sR (sR (sR (sR (sR (sR (sR (body)))))))))))))) (.seq (.code (sL (sR (sR (sR (sR (sR (sR (sR (sR (sR (sR (sR (sR (body))))))))))))))) (.seq (.code (sL (sR (sR (sR (sR (sR (sR (sR (sR (sR (sR (sR (sR (sR (body)))))))))))))))) (.seq (.code (sL (sR (sR (sR (sR (sR (sR (sR (sR (sR (sR (sR (sR (sR (sR (body))))))))))))))))) (.seq (.seq (.code (sL (sL (sR (sR (sR (sR (sR (sR (sR (sR (sR (sR (sR (sR (sR (sR (sR (body))))))))))))))))))) (.block 2 (.cut (l3E fun x0a x0l x0c x3 x4 x5 x13 x14 x17 x22a x22l x22c x23 x24a x24l x24c x25 m => l3  x0a x0l x0c x3 x4 x5 x13 x14 x17 x22a x22l x22c x23 x24a x24l x24c x25 R m) (.loop (lP (bB (sR (sL (sR (sR (sR (sR (sR (sR (sR (sR (sR (sR (sR (sR (sR (sR (sR (body)))))))))))))))))))))))) (.cut (k4E fun x0a x0l x0c x3 x4 x5 x14 x17 x22a x22l x22c x23 x24a x24l x24c m => k4  x0a x0l x0c x3 x4 x5 x14 x17 x22a x22l x22c x23 x24a x24l x24c R m) (sR (sR (sR (sR (sR (sR (sR (sR (sR (sR (sR (sR (sR (sR (sR (sR (body)))))))))))))))))))))))))))
def l1E (K : Option Addr → Nat → Nat → Option Addr → Nat → Nat → Int → Int → Int → Int → Option Addr → Int → Option Addr → Option Addr → Int → Mem → Prop) : Env → Mem → Prop := fun ρ m => UnS (ρ 0) fun x0a x0l x0c => UnS (ρ 2) fun x2a x2l x2c => UnI (ρ 3) .i64 fun x3 => UnI (ρ 4) .i64 fun x4 => UnI (ρ 5) .i64 fun x5 => UnI (ρ 13) .i64 fun x13 => UnP (ρ 14) fun x14 => UnI (ρ 15) .i64 fun x15 => UnP (ρ 16) fun x16 => UnP (ρ 17) fun x17 => UnI (ρ 18) .i64 fun x18 => K x0a x0l x0c x2a x2l x2c x3 x4 x5 x13 x14 x15 x16 x17 x18 m
def l1B  (K1 : Option Addr → Nat → Nat → Option Addr → Nat → Nat → Int → Int → Int → Int → Option Addr → Int → Option Addr → Option Addr → Int → Mem → Prop) (x0a : Option Addr) (x0l : Nat) (x0c : Nat) (x2a : Option Addr) (x2l : Nat) (x2c : Nat) (x3 : Int) (x4 : Int) (x5 : Int) (x13 : Int) (x14 : Option Addr) (x15 : Int) (x16 : Option Addr) (x17 : Option Addr) (x18 : Int) (R : Ending → Mem → Prop) (m : Mem) : Prop :=
  Br (decide (x18 < ((x2l : Nat) : Int))) (
    IxS x2a x2l x18 4 fun x64b x64o =>
    LdV m x64b (x64o + 2) fun v =>
    UnS v fun x66a x66l x66c =>
    Br (decide (((x66l : Nat) : Int) > 100)) (
      R (.returned (.bool true)) m) (
      Sub m fun r1 =>
      IxS x2a x2l x18 4 fun x71b x71o =>
      LdV r1 x71b x71o fun v =>
      UnI v .i64 fun x73 =>
      NilC x17 (fun x75b x75o =>
        LdV m x75b x75o fun v =>
        UnS v fun x77a x77l x77c =>
        HC P eyotlaw0_Place.id #[.int .i64 x73, .int .i64 (IntKind.i64.wrap (((x77l : Nat) : Int) + 1))] m (Cont (fun v m2 =>
            UnI v .i64 fun x80 =>
            Sub m2 fun r3 =>
            IxS x2a x2l x18 4 fun x84b x84o =>
            LdV r3 x84b (x84o + 1) fun v =>
            UnI v .i64 fun x86 =>
            NilC x17 (fun x88b x88o =>
              LdV r3 x88b x88o fun v =>
              UnS v fun x90a x90l x90c =>
              HC P eyotlaw0_Place.id #[.int .i64 x86, .int .i64 (IntKind.i64.wrap ((IntKind.i64.wrap (((x90l : Nat) : Int) - x80)) + 1))] m2 (Cont (fun v m4 =>
                  UnI v .i64 fun x95 =>
                  IxS x2a x2l x18 4 fun x102b x102o =>
                  LdV m4 x102b (x102o + 2) fun v =>
                  UnS v fun x104a x104l x104c =>
                  HC P piece_Text_Edit.id #[.pointer x16, .int .i64 x80, .int .i64 (IntKind.i64.wrap (x80 + x95)), .slice x104a x104l x104c] m4 (Cont (fun v m5 =>
                      UnI v .i64 fun x105 =>
                      IxS x2a x2l x18 4 fun x111b x111o =>
                      LdV m5 x111b (x111o + 2) fun v =>
                      UnS v fun x113a x113l x113c =>
                      HC P eyotref3_Text_Edit.id #[.pointer x17, .int .i64 x80, .int .i64 (IntKind.i64.wrap (x80 + x95)), .slice x113a x113l x113c] m5 (Cont (fun v m6 =>
                        UnI v .i64 fun x114 =>
                        K1 x0a x0l x0c x2a x2l x2c x3 x4 x5 x13 x14 x15 x16 x17 (IntKind.i64.wrap (x18 + 1)) m6) (panicR R))) (panicR R))) (panicR R))) (False)) (panicR R))) (False))) (
    k2  x0a x0l x0c x3 x4 x5 x13 x14 x15 x16 x17 R m)
def l1  (x0a : Option Addr) (x0l : Nat) (x0c : Nat) (x2a : Option Addr) (x2l : Nat) (x2c : Nat) (x3 : Int) (x4 : Int) (x5 : Int) (x13 : Int) (x14 : Option Addr) (x15 : Int) (x16 : Option Addr) (x17 : Option Addr) (x18 : Int) (R : Ending → Mem → Prop) (m : Mem) : Prop :=
  ∃ (I : Nat → Option Addr → Nat → Nat → Option Addr → Nat → Nat → Int → Int → Int → Int → Option Addr → Int → Option Addr → Option Addr → Int → Mem → Prop) (N : Nat), I N x0a x0l x0c x2a x2l x2c x3 x4 x5 x13 x14 x15 x16 x17 x18 m ∧ ∀ N x0a x0l x0c x2a x2l x2c x3 x4 x5 x13 x14 x15 x16 x17 x18 m, I N x0a x0l x0c x2a x2l x2c x3 x4 x5 x13 x14 x15 x16 x17 x18 m → l1B  (fun x0a x0l x0c x2a x2l x2c x3 x4 x5 x13 x14 x15 x16 x17 x18 m => ∃ N1, N1 < N ∧ I N1 x0a x0l x0c x2a x2l x2c x3 x4 x5 x13 x14 x15 x16 x17 x18 m) x0a x0l x0c x2a x2l x2c x3 x4 x5 x13 x14 x15 x16 x17 x18 R m
noncomputable def l1A  (K1 : Option Addr → Nat → Nat → Option Addr → Nat → Nat → Int → Int → Int → Int → Option Addr → Int → Option Addr → Option Addr → Int → Mem → Prop) (R : Ending → Mem → Prop) : ACode := (.code (lP (bB (sR (sL (sR (sR (sR (sR (sR (sR (body))))))))))))
def e0 (a0a : Option Addr) (a0l : Nat) (a0c : Nat) (a1 : Int) (a2a : Option Addr) (a2l : Nat) (a2c : Nat) (a3 : Int) (a4 : Int) (a5 : Int) (R : Ending → Mem → Prop) (m : Mem) : Prop :=
  HC P eyotlaw7_begun.id #[] m (Cont (fun v m1 =>
      UnB v fun x30 =>
      Br (!x30) (
        R (.returned (.bool false)) m1) (
        Br (decide (((a0l : Nat) : Int) > 200)) (
          R (.returned (.bool true)) m1) (
          Br (decide (((a2l : Nat) : Int) > 10)) (
            R (.returned (.bool true)) m1) (
            HC P page_New.id #[.slice a0a a0l a0c, .int .i64 (IntKind.i64.wrap (1 + (Int.tmod (IntKind.i64.wrap a1) 20)))] m1 (Cont (fun v m2 =>
                UnTup v fun us0 =>
                UnCons us0 fun w us1 =>
                UnP w fun x47_0 =>
                UnCons us1 fun w us2 =>
                UnI w .i64 fun x47_1 =>
                UnNil us2 (
                  HC P piece_New.id #[.int .i64 ((a0l : Nat) : Int)] m2 (Cont (fun v m3 =>
                      UnP v fun x52 =>
                      HC P eyotref3_NewText.id #[.int .i64 ((a0l : Nat) : Int)] m3 (Cont (fun v m4 =>
                        UnP v fun x55 =>
                        l1  a0a a0l a0c a2a a2l a2c a3 a4 a5 (IntKind.i64.wrap (1 + (Int.tmod (IntKind.i64.wrap a1) 20))) x47_0 x47_1 x52 x55 0 R m4) (panicR R))) (panicR R)))) (panicR R)))))) (panicR R))
noncomputable def e0A (R : Ending → Mem → Prop) : ACode := (.seq (.code (sL (body))) (.seq (.code (sL (sR (body)))) (.seq (.code (sL (sR (sR (body))))) (.seq (.code (sL (sR (sR (sR (body)))))) (.seq (.code (sL (sR (sR (sR (sR (body))))))) (.seq (.code (sL (sR (sR (sR (sR (sR (body)))))))) (.seq (.seq (.code (sL (sL (sR (sR (sR (sR (sR (sR (body)))))))))) (.block 0 (.cut (l1E fun x0a x0l x0c x2a x2l x2c x3 x4 x5 x13 x14 x15 x16 x17 x18 m => l1  x0a x0l x0c x2a x2l x2c x3 x4 x5 x13 x14 x15 x16 x17 x18 R m) (.loop (lP (bB (sR (sL (sR (sR (sR (sR (sR (sR (body))))))))))))))) (.cut (k2E fun x0a x0l x0c x3 x4 x5 x13 x14 x15 x16 x17 m => k2  x0a x0l x0c x3 x4 x5 x13 x14 x15 x16 x17 R m) (sR (sR (sR (sR (sR (sR (sR (body))))))))))))))))
theorem k7_eq  (R : Ending → Mem → Prop) (x0a : Option Addr) (x0l : Nat) (x0c : Nat) (x3 : Int) (x4 : Int) (x17 : Option Addr) (x22a : Option Addr) (x22l : Nat) (x22c : Nat) (x23 : Int) (x28 : Bool) (ρ : Env) (m : Mem) : k7  x0a x0l x0c x3 x4 x17 x22a x22l x22c x23 x28 R m = acpt P od (panicR R) (k7A  R) (bodyQ P fn R) (upd (upd (upd (upd (upd (upd (upd ρ 28 (.bool x28)) 23 (.int .i64 x23)) 22 (.slice x22a x22l x22c)) 17 (.pointer x17)) 4 (.int .i64 x4)) 3 (.int .i64 x3)) 0 (.slice x0a x0l x0c)) m := by kernel_rfl
theorem k7_er  (R : Ending → Mem → Prop) : (k7A  R).erase = sR (sR (sR (sR (sR (sR (sR (sR (sR (sR (sR (sR (sR (sR (sR (sR (sR (sR (sR (body))))))))))))))))))) := by kernel_rfl
theorem k7_ok  (R : Ending → Mem → Prop) (ρ : Env) (m : Mem) (h : (k7E fun x0a x0l x0c x3 x4 x17 x22a x22l x22c x23 x28 m => k7  x0a x0l x0c x3 x4 x17 x22a x22l x22c x23 x28 R m) ρ m) : cpt P od (panicR R) (sR (sR (sR (sR (sR (sR (sR (sR (sR (sR (sR (sR (sR (sR (sR (sR (sR (sR (sR (body)))))))))))))))))))) (bodyQ P fn R) ρ m := by
  unfold k7E at h
  obtain ⟨x0a, x0l, x0c, e0, h⟩ := h.ex
  obtain ⟨x3, e3, h⟩ := h.ex
  obtain ⟨x4, e4, h⟩ := h.ex
  obtain ⟨x17, e17, h⟩ := h.ex
  obtain ⟨x22a, x22l, x22c, e22, h⟩ := h.ex
  obtain ⟨x23, e23, h⟩ := h.ex
  obtain ⟨x28, e28, h⟩ := h.ex
  rw [← upd_self e0, ← upd_self e3, ← upd_self e4, ← upd_self e17, ← upd_self e22, ← upd_self e23, ← upd_self e28]
  rw [← k7_er  R]
  refine acpt_sound (P := P) (k7A  R) _ _ _ True.intro ?_
  exact Eq.mp (k7_eq  R x0a x0l x0c x3 x4 x17 x22a x22l x22c x23 x28 ρ m) h
theorem k6_eq  (R : Ending → Mem → Prop) (x0a : Option Addr) (x0l : Nat) (x0c : Nat) (x3 : Int) (x4 : Int) (x5 : Int) (x17 : Option Addr) (x22a : Option Addr) (x22l : Nat) (x22c : Nat) (x23 : Int) (x24a : Option Addr) (x24l : Nat) (x24c : Nat) (ρ : Env) (m : Mem) : k6  x0a x0l x0c x3 x4 x5 x17 x22a x22l x22c x23 x24a x24l x24c R m = acpt P od (panicR R) (k6A  R) (bodyQ P fn R) (upd (upd (upd (upd (upd (upd (upd (upd ρ 24 (.slice x24a x24l x24c)) 23 (.int .i64 x23)) 22 (.slice x22a x22l x22c)) 17 (.pointer x17)) 5 (.int .i64 x5)) 4 (.int .i64 x4)) 3 (.int .i64 x3)) 0 (.slice x0a x0l x0c)) m := by kernel_rfl
theorem k6_er  (R : Ending → Mem → Prop) : (k6A  R).erase = sR (sR (sR (sR (sR (sR (sR (sR (sR (sR (sR (sR (sR (sR (sR (sR (sR (sR (body)))))))))))))))))) := by kernel_rfl
theorem k6_ok  (R : Ending → Mem → Prop) (ρ : Env) (m : Mem) (h : (k6E fun x0a x0l x0c x3 x4 x5 x17 x22a x22l x22c x23 x24a x24l x24c m => k6  x0a x0l x0c x3 x4 x5 x17 x22a x22l x22c x23 x24a x24l x24c R m) ρ m) : cpt P od (panicR R) (sR (sR (sR (sR (sR (sR (sR (sR (sR (sR (sR (sR (sR (sR (sR (sR (sR (sR (body))))))))))))))))))) (bodyQ P fn R) ρ m := by
  unfold k6E at h
  obtain ⟨x0a, x0l, x0c, e0, h⟩ := h.ex
  obtain ⟨x3, e3, h⟩ := h.ex
  obtain ⟨x4, e4, h⟩ := h.ex
  obtain ⟨x5, e5, h⟩ := h.ex
  obtain ⟨x17, e17, h⟩ := h.ex
  obtain ⟨x22a, x22l, x22c, e22, h⟩ := h.ex
  obtain ⟨x23, e23, h⟩ := h.ex
  obtain ⟨x24a, x24l, x24c, e24, h⟩ := h.ex
  rw [← upd_self e0, ← upd_self e3, ← upd_self e4, ← upd_self e5, ← upd_self e17, ← upd_self e22, ← upd_self e23, ← upd_self e24]
  rw [← k6_er  R]
  refine acpt_sound (P := P) (k6A  R) _ _ _ ⟨(fun ρ m h => k7_ok  R ρ m h), True.intro⟩ ?_
  exact Eq.mp (k6_eq  R x0a x0l x0c x3 x4 x5 x17 x22a x22l x22c x23 x24a x24l x24c ρ m) h
theorem l5_eq  (K5 : Option Addr → Nat → Nat → Int → Int → Int → Option Addr → Option Addr → Nat → Nat → Int → Option Addr → Nat → Nat → Option Addr → Nat → Nat → Int → Mem → Prop) (R : Ending → Mem → Prop) (x0a : Option Addr) (x0l : Nat) (x0c : Nat) (x3 : Int) (x4 : Int) (x5 : Int) (x17 : Option Addr) (x22a : Option Addr) (x22l : Nat) (x22c : Nat) (x23 : Int) (x24a : Option Addr) (x24l : Nat) (x24c : Nat) (x26a : Option Addr) (x26l : Nat) (x26c : Nat) (x27 : Int) (ρ : Env) (m : Mem) : l5B  K5 x0a x0l x0c x3 x4 x5 x17 x22a x22l x22c x23 x24a x24l x24c x26a x26l x26c x27 R m = acpt P od (panicR R) (l5A  K5 R) (thenQ (l5E K5) (blockQ 4 (thenQ (acpt P od (panicR R) (.cut (k6E fun x0a x0l x0c x3 x4 x5 x17 x22a x22l x22c x23 x24a x24l x24c m => k6  x0a x0l x0c x3 x4 x5 x17 x22a x22l x22c x23 x24a x24l x24c R m) (sR (sR (sR (sR (sR (sR (sR (sR (sR (sR (sR (sR (sR (sR (sR (sR (sR (sR (body)))))))))))))))))))) (bodyQ P fn R)) (bodyQ P fn R)))) (upd (upd (upd (upd (upd (upd (upd (upd (upd (upd ρ 27 (.int .i64 x27)) 26 (.slice x26a x26l x26c)) 24 (.slice x24a x24l x24c)) 23 (.int .i64 x23)) 22 (.slice x22a x22l x22c)) 17 (.pointer x17)) 5 (.int .i64 x5)) 4 (.int .i64 x4)) 3 (.int .i64 x3)) 0 (.slice x0a x0l x0c)) m := by kernel_rfl
theorem l5_er  (K5 : Option Addr → Nat → Nat → Int → Int → Int → Option Addr → Option Addr → Nat → Nat → Int → Option Addr → Nat → Nat → Option Addr → Nat → Nat → Int → Mem → Prop) (R : Ending → Mem → Prop) : (l5A  K5 R).erase = lP (bB (sR (sL (sR (sR (sR (sR (sR (sR (sR (sR (sR (sR (sR (sR (sR (sR (sR (sR (sR (body))))))))))))))))))))) := by kernel_rfl
theorem l5_ok  (R : Ending → Mem → Prop) (ρ : Env) (m : Mem) (h : (l5E fun x0a x0l x0c x3 x4 x5 x17 x22a x22l x22c x23 x24a x24l x24c x26a x26l x26c x27 m => l5  x0a x0l x0c x3 x4 x5 x17 x22a x22l x22c x23 x24a x24l x24c x26a x26l x26c x27 R m) ρ m) : cpt P od (panicR R) (.loop (lP (bB (sR (sL (sR (sR (sR (sR (sR (sR (sR (sR (sR (sR (sR (sR (sR (sR (sR (sR (sR (body))))))))))))))))))))))) (blockQ 4 (thenQ (acpt P od (panicR R) (.cut (k6E fun x0a x0l x0c x3 x4 x5 x17 x22a x22l x22c x23 x24a x24l x24c m => k6  x0a x0l x0c x3 x4 x5 x17 x22a x22l x22c x23 x24a x24l x24c R m) (sR (sR (sR (sR (sR (sR (sR (sR (sR (sR (sR (sR (sR (sR (sR (sR (sR (sR (body)))))))))))))))))))) (bodyQ P fn R)) (bodyQ P fn R))) ρ m := by
  unfold l5E at h
  obtain ⟨x0a, x0l, x0c, e0, h⟩ := h.ex
  obtain ⟨x3, e3, h⟩ := h.ex
  obtain ⟨x4, e4, h⟩ := h.ex
  obtain ⟨x5, e5, h⟩ := h.ex
  obtain ⟨x17, e17, h⟩ := h.ex
  obtain ⟨x22a, x22l, x22c, e22, h⟩ := h.ex
  obtain ⟨x23, e23, h⟩ := h.ex
  obtain ⟨x24a, x24l, x24c, e24, h⟩ := h.ex
  obtain ⟨x26a, x26l, x26c, e26, h⟩ := h.ex
  obtain ⟨x27, e27, h⟩ := h.ex
  obtain ⟨I, N, h0, hs⟩ := h
  refine ⟨fun N => l5E (I N), N, (by show l5E (I N) ρ m; unfold l5E; rw [e0, e3, e4, e5, e17, e22, e23, e24, e26, e27]; exact h0), ?_⟩
  clear h0 e0 e3 e4 e5 e17 e22 e23 e24 e26 e27
  intro N ρ m h
  unfold l5E at h
  obtain ⟨x0a, x0l, x0c, e0, h⟩ := h.ex
  obtain ⟨x3, e3, h⟩ := h.ex
  obtain ⟨x4, e4, h⟩ := h.ex
  obtain ⟨x5, e5, h⟩ := h.ex
  obtain ⟨x17, e17, h⟩ := h.ex
  obtain ⟨x22a, x22l, x22c, e22, h⟩ := h.ex
  obtain ⟨x23, e23, h⟩ := h.ex
  obtain ⟨x24a, x24l, x24c, e24, h⟩ := h.ex
  obtain ⟨x26a, x26l, x26c, e26, h⟩ := h.ex
  obtain ⟨x27, e27, h⟩ := h.ex
  refine cpt_mono (P := P) (lP (bB (sR (sL (sR (sR (sR (sR (sR (sR (sR (sR (sR (sR (sR (sR (sR (sR (sR (sR (sR (body)))))))))))))))))))))) (Q := thenQ (l5E fun x0a x0l x0c x3 x4 x5 x17 x22a x22l x22c x23 x24a x24l x24c x26a x26l x26c x27 m => ∃ N1, N1 < N ∧ I N1 x0a x0l x0c x3 x4 x5 x17 x22a x22l x22c x23 x24a x24l x24c x26a x26l x26c x27 m) (blockQ 4 (thenQ (acpt P od (panicR R) (.cut (k6E fun x0a x0l x0c x3 x4 x5 x17 x22a x22l x22c x23 x24a x24l x24c m => k6  x0a x0l x0c x3 x4 x5 x17 x22a x22l x22c x23 x24a x24l x24c R m) (sR (sR (sR (sR (sR (sR (sR (sR (sR (sR (sR (sR (sR (sR (sR (sR (sR (sR (body)))))))))))))))))))) (bodyQ P fn R)) (bodyQ P fn R)))) (fun e ρ m h => ?_) ρ m ?_
  · cases e with
    | normal =>
      have h : l5E (fun x0a x0l x0c x3 x4 x5 x17 x22a x22l x22c x23 x24a x24l x24c x26a x26l x26c x27 m => ∃ N1, N1 < N ∧ I N1 x0a x0l x0c x3 x4 x5 x17 x22a x22l x22c x23 x24a x24l x24c x26a x26l x26c x27 m) ρ m := h
      unfold l5E at h
      obtain ⟨x0a, x0l, x0c, e0, h⟩ := h.ex
      obtain ⟨x3, e3, h⟩ := h.ex
      obtain ⟨x4, e4, h⟩ := h.ex
      obtain ⟨x5, e5, h⟩ := h.ex
      obtain ⟨x17, e17, h⟩ := h.ex
      obtain ⟨x22a, x22l, x22c, e22, h⟩ := h.ex
      obtain ⟨x23, e23, h⟩ := h.ex
      obtain ⟨x24a, x24l, x24c, e24, h⟩ := h.ex
      obtain ⟨x26a, x26l, x26c, e26, h⟩ := h.ex
      obtain ⟨x27, e27, h⟩ := h.ex
      obtain ⟨N1, hlt, h⟩ := h
      exact ⟨N1, hlt, (by show l5E (I N1) ρ m; unfold l5E; rw [e0, e3, e4, e5, e17, e22, e23, e24, e26, e27]; exact h)⟩
    | _ => exact h
  have hh := hs N x0a x0l x0c x3 x4 x5 x17 x22a x22l x22c x23 x24a x24l x24c x26a x26l x26c x27 m h
  generalize (fun x0a x0l x0c x3 x4 x5 x17 x22a x22l x22c x23 x24a x24l x24c x26a x26l x26c x27 m => ∃ N1, N1 < N ∧ I N1 x0a x0l x0c x3 x4 x5 x17 x22a x22l x22c x23 x24a x24l x24c x26a x26l x26c x27 m : Option Addr → Nat → Nat → Int → Int → Int → Option Addr → Option Addr → Nat → Nat → Int → Option Addr → Nat → Nat → Option Addr → Nat → Nat → Int → Mem → Prop) = K5 at hh ⊢
  rw [← upd_self e0, ← upd_self e3, ← upd_self e4, ← upd_self e5, ← upd_self e17, ← upd_self e22, ← upd_self e23, ← upd_self e24, ← upd_self e26, ← upd_self e27]
  rw [← l5_er  K5 R]
  refine acpt_sound (P := P) (l5A  K5 R) _ _ _ True.intro ?_
  exact Eq.mp (l5_eq  K5 R x0a x0l x0c x3 x4 x5 x17 x22a x22l x22c x23 x24a x24l x24c x26a x26l x26c x27 ρ m) hh
theorem k4_eq  (R : Ending → Mem → Prop) (x0a : Option Addr) (x0l : Nat) (x0c : Nat) (x3 : Int) (x4 : Int) (x5 : Int) (x14 : Option Addr) (x17 : Option Addr) (x22a : Option Addr) (x22l : Nat) (x22c : Nat) (x23 : Int) (x24a : Option Addr) (x24l : Nat) (x24c : Nat) (ρ : Env) (m : Mem) : k4  x0a x0l x0c x3 x4 x5 x14 x17 x22a x22l x22c x23 x24a x24l x24c R m = acpt P od (panicR R) (k4A  R) (bodyQ P fn R) (upd (upd (upd (upd (upd (upd (upd (upd (upd ρ 24 (.slice x24a x24l x24c)) 23 (.int .i64 x23)) 22 (.slice x22a x22l x22c)) 17 (.pointer x17)) 14 (.pointer x14)) 5 (.int .i64 x5)) 4 (.int .i64 x4)) 3 (.int .i64 x3)) 0 (.slice x0a x0l x0c)) m := by kernel_rfl
theorem k4_er  (R : Ending → Mem → Prop) : (k4A  R).erase = sR (sR (sR (sR (sR (sR (sR (sR (sR (sR (sR (sR (sR (sR (sR (sR (body)))))))))))))))) := by kernel_rfl
theorem k4_ok  (R : Ending → Mem → Prop) (ρ : Env) (m : Mem) (h : (k4E fun x0a x0l x0c x3 x4 x5 x14 x17 x22a x22l x22c x23 x24a x24l x24c m => k4  x0a x0l x0c x3 x4 x5 x14 x17 x22a x22l x22c x23 x24a x24l x24c R m) ρ m) : cpt P od (panicR R) (sR (sR (sR (sR (sR (sR (sR (sR (sR (sR (sR (sR (sR (sR (sR (sR (body))))))))))))))))) (bodyQ P fn R) ρ m := by
  unfold k4E at h
  obtain ⟨x0a, x0l, x0c, e0, h⟩ := h.ex
  obtain ⟨x3, e3, h⟩ := h.ex
  obtain ⟨x4, e4, h⟩ := h.ex
  obtain ⟨x5, e5, h⟩ := h.ex
  obtain ⟨x14, e14, h⟩ := h.ex
  obtain ⟨x17, e17, h⟩ := h.ex
  obtain ⟨x22a, x22l, x22c, e22, h⟩ := h.ex
  obtain ⟨x23, e23, h⟩ := h.ex
  obtain ⟨x24a, x24l, x24c, e24, h⟩ := h.ex
  rw [← upd_self e0, ← upd_self e3, ← upd_self e4, ← upd_self e5, ← upd_self e14, ← upd_self e17, ← upd_self e22, ← upd_self e23, ← upd_self e24]
  rw [← k4_er  R]
  refine acpt_sound (P := P) (k4A  R) _ _ _ ⟨⟨(fun ρ m h => k6_ok  R ρ m h), ⟨(fun ρ m h => l5_ok  R ρ m h), True.intro⟩⟩, True.intro⟩ ?_
  exact Eq.mp (k4_eq  R x0a x0l x0c x3 x4 x5 x14 x17 x22a x22l x22c x23 x24a x24l x24c ρ m) h
theorem l3_eq  (K3 : Option Addr → Nat → Nat → Int → Int → Int → Int → Option Addr → Option Addr → Option Addr → Nat → Nat → Int → Option Addr → Nat → Nat → Int → Mem → Prop) (R : Ending → Mem → Prop) (x0a : Option Addr) (x0l : Nat) (x0c : Nat) (x3 : Int) (x4 : Int) (x5 : Int) (x13 : Int) (x14 : Option Addr) (x17 : Option Addr) (x22a : Option Addr) (x22l : Nat) (x22c : Nat) (x23 : Int) (x24a : Option Addr) (x24l : Nat) (x24c : Nat) (x25 : Int) (ρ : Env) (m : Mem) : l3B  K3 x0a x0l x0c x3 x4 x5 x13 x14 x17 x22a x22l x22c x23 x24a x24l x24c x25 R m = acpt P od (panicR R) (l3A  K3 R) (thenQ (l3E K3) (blockQ 2 (thenQ (acpt P od (panicR R) (.cut (k4E fun x0a x0l x0c x3 x4 x5 x14 x17 x22a x22l x22c x23 x24a x24l x24c m => k4  x0a x0l x0c x3 x4 x5 x14 x17 x22a x22l x22c x23 x24a x24l x24c R m) (sR (sR (sR (sR (sR (sR (sR (sR (sR (sR (sR (sR (sR (sR (sR (sR (body)))))))))))))))))) (bodyQ P fn R)) (bodyQ P fn R)))) (upd (upd (upd (upd (upd (upd (upd (upd (upd (upd (upd ρ 25 (.int .i64 x25)) 24 (.slice x24a x24l x24c)) 23 (.int .i64 x23)) 22 (.slice x22a x22l x22c)) 17 (.pointer x17)) 14 (.pointer x14)) 13 (.int .i64 x13)) 5 (.int .i64 x5)) 4 (.int .i64 x4)) 3 (.int .i64 x3)) 0 (.slice x0a x0l x0c)) m := by kernel_rfl
theorem l3_er  (K3 : Option Addr → Nat → Nat → Int → Int → Int → Int → Option Addr → Option Addr → Option Addr → Nat → Nat → Int → Option Addr → Nat → Nat → Int → Mem → Prop) (R : Ending → Mem → Prop) : (l3A  K3 R).erase = lP (bB (sR (sL (sR (sR (sR (sR (sR (sR (sR (sR (sR (sR (sR (sR (sR (sR (sR (body))))))))))))))))))) := by kernel_rfl
theorem l3_ok  (R : Ending → Mem → Prop) (ρ : Env) (m : Mem) (h : (l3E fun x0a x0l x0c x3 x4 x5 x13 x14 x17 x22a x22l x22c x23 x24a x24l x24c x25 m => l3  x0a x0l x0c x3 x4 x5 x13 x14 x17 x22a x22l x22c x23 x24a x24l x24c x25 R m) ρ m) : cpt P od (panicR R) (.loop (lP (bB (sR (sL (sR (sR (sR (sR (sR (sR (sR (sR (sR (sR (sR (sR (sR (sR (sR (body))))))))))))))))))))) (blockQ 2 (thenQ (acpt P od (panicR R) (.cut (k4E fun x0a x0l x0c x3 x4 x5 x14 x17 x22a x22l x22c x23 x24a x24l x24c m => k4  x0a x0l x0c x3 x4 x5 x14 x17 x22a x22l x22c x23 x24a x24l x24c R m) (sR (sR (sR (sR (sR (sR (sR (sR (sR (sR (sR (sR (sR (sR (sR (sR (body)))))))))))))))))) (bodyQ P fn R)) (bodyQ P fn R))) ρ m := by
  unfold l3E at h
  obtain ⟨x0a, x0l, x0c, e0, h⟩ := h.ex
  obtain ⟨x3, e3, h⟩ := h.ex
  obtain ⟨x4, e4, h⟩ := h.ex
  obtain ⟨x5, e5, h⟩ := h.ex
  obtain ⟨x13, e13, h⟩ := h.ex
  obtain ⟨x14, e14, h⟩ := h.ex
  obtain ⟨x17, e17, h⟩ := h.ex
  obtain ⟨x22a, x22l, x22c, e22, h⟩ := h.ex
  obtain ⟨x23, e23, h⟩ := h.ex
  obtain ⟨x24a, x24l, x24c, e24, h⟩ := h.ex
  obtain ⟨x25, e25, h⟩ := h.ex
  obtain ⟨I, N, h0, hs⟩ := h
  refine ⟨fun N => l3E (I N), N, (by show l3E (I N) ρ m; unfold l3E; rw [e0, e3, e4, e5, e13, e14, e17, e22, e23, e24, e25]; exact h0), ?_⟩
  clear h0 e0 e3 e4 e5 e13 e14 e17 e22 e23 e24 e25
  intro N ρ m h
  unfold l3E at h
  obtain ⟨x0a, x0l, x0c, e0, h⟩ := h.ex
  obtain ⟨x3, e3, h⟩ := h.ex
  obtain ⟨x4, e4, h⟩ := h.ex
  obtain ⟨x5, e5, h⟩ := h.ex
  obtain ⟨x13, e13, h⟩ := h.ex
  obtain ⟨x14, e14, h⟩ := h.ex
  obtain ⟨x17, e17, h⟩ := h.ex
  obtain ⟨x22a, x22l, x22c, e22, h⟩ := h.ex
  obtain ⟨x23, e23, h⟩ := h.ex
  obtain ⟨x24a, x24l, x24c, e24, h⟩ := h.ex
  obtain ⟨x25, e25, h⟩ := h.ex
  refine cpt_mono (P := P) (lP (bB (sR (sL (sR (sR (sR (sR (sR (sR (sR (sR (sR (sR (sR (sR (sR (sR (sR (body)))))))))))))))))))) (Q := thenQ (l3E fun x0a x0l x0c x3 x4 x5 x13 x14 x17 x22a x22l x22c x23 x24a x24l x24c x25 m => ∃ N1, N1 < N ∧ I N1 x0a x0l x0c x3 x4 x5 x13 x14 x17 x22a x22l x22c x23 x24a x24l x24c x25 m) (blockQ 2 (thenQ (acpt P od (panicR R) (.cut (k4E fun x0a x0l x0c x3 x4 x5 x14 x17 x22a x22l x22c x23 x24a x24l x24c m => k4  x0a x0l x0c x3 x4 x5 x14 x17 x22a x22l x22c x23 x24a x24l x24c R m) (sR (sR (sR (sR (sR (sR (sR (sR (sR (sR (sR (sR (sR (sR (sR (sR (body)))))))))))))))))) (bodyQ P fn R)) (bodyQ P fn R)))) (fun e ρ m h => ?_) ρ m ?_
  · cases e with
    | normal =>
      have h : l3E (fun x0a x0l x0c x3 x4 x5 x13 x14 x17 x22a x22l x22c x23 x24a x24l x24c x25 m => ∃ N1, N1 < N ∧ I N1 x0a x0l x0c x3 x4 x5 x13 x14 x17 x22a x22l x22c x23 x24a x24l x24c x25 m) ρ m := h
      unfold l3E at h
      obtain ⟨x0a, x0l, x0c, e0, h⟩ := h.ex
      obtain ⟨x3, e3, h⟩ := h.ex
      obtain ⟨x4, e4, h⟩ := h.ex
      obtain ⟨x5, e5, h⟩ := h.ex
      obtain ⟨x13, e13, h⟩ := h.ex
      obtain ⟨x14, e14, h⟩ := h.ex
      obtain ⟨x17, e17, h⟩ := h.ex
      obtain ⟨x22a, x22l, x22c, e22, h⟩ := h.ex
      obtain ⟨x23, e23, h⟩ := h.ex
      obtain ⟨x24a, x24l, x24c, e24, h⟩ := h.ex
      obtain ⟨x25, e25, h⟩ := h.ex
      obtain ⟨N1, hlt, h⟩ := h
      exact ⟨N1, hlt, (by show l3E (I N1) ρ m; unfold l3E; rw [e0, e3, e4, e5, e13, e14, e17, e22, e23, e24, e25]; exact h)⟩
    | _ => exact h
  have hh := hs N x0a x0l x0c x3 x4 x5 x13 x14 x17 x22a x22l x22c x23 x24a x24l x24c x25 m h
  generalize (fun x0a x0l x0c x3 x4 x5 x13 x14 x17 x22a x22l x22c x23 x24a x24l x24c x25 m => ∃ N1, N1 < N ∧ I N1 x0a x0l x0c x3 x4 x5 x13 x14 x17 x22a x22l x22c x23 x24a x24l x24c x25 m : Option Addr → Nat → Nat → Int → Int → Int → Int → Option Addr → Option Addr → Option Addr → Nat → Nat → Int → Option Addr → Nat → Nat → Int → Mem → Prop) = K3 at hh ⊢
  rw [← upd_self e0, ← upd_self e3, ← upd_self e4, ← upd_self e5, ← upd_self e13, ← upd_self e14, ← upd_self e17, ← upd_self e22, ← upd_self e23, ← upd_self e24, ← upd_self e25]
  rw [← l3_er  K3 R]
  refine acpt_sound (P := P) (l3A  K3 R) _ _ _ True.intro ?_
  exact Eq.mp (l3_eq  K3 R x0a x0l x0c x3 x4 x5 x13 x14 x17 x22a x22l x22c x23 x24a x24l x24c x25 ρ m) hh
theorem k2_eq  (R : Ending → Mem → Prop) (x0a : Option Addr) (x0l : Nat) (x0c : Nat) (x3 : Int) (x4 : Int) (x5 : Int) (x13 : Int) (x14 : Option Addr) (x15 : Int) (x16 : Option Addr) (x17 : Option Addr) (ρ : Env) (m : Mem) : k2  x0a x0l x0c x3 x4 x5 x13 x14 x15 x16 x17 R m = acpt P od (panicR R) (k2A  R) (bodyQ P fn R) (upd (upd (upd (upd (upd (upd (upd (upd (upd ρ 17 (.pointer x17)) 16 (.pointer x16)) 15 (.int .i64 x15)) 14 (.pointer x14)) 13 (.int .i64 x13)) 5 (.int .i64 x5)) 4 (.int .i64 x4)) 3 (.int .i64 x3)) 0 (.slice x0a x0l x0c)) m := by kernel_rfl
theorem k2_er  (R : Ending → Mem → Prop) : (k2A  R).erase = sR (sR (sR (sR (sR (sR (sR (body))))))) := by kernel_rfl
theorem k2_ok  (R : Ending → Mem → Prop) (ρ : Env) (m : Mem) (h : (k2E fun x0a x0l x0c x3 x4 x5 x13 x14 x15 x16 x17 m => k2  x0a x0l x0c x3 x4 x5 x13 x14 x15 x16 x17 R m) ρ m) : cpt P od (panicR R) (sR (sR (sR (sR (sR (sR (sR (body)))))))) (bodyQ P fn R) ρ m := by
  unfold k2E at h
  obtain ⟨x0a, x0l, x0c, e0, h⟩ := h.ex
  obtain ⟨x3, e3, h⟩ := h.ex
  obtain ⟨x4, e4, h⟩ := h.ex
  obtain ⟨x5, e5, h⟩ := h.ex
  obtain ⟨x13, e13, h⟩ := h.ex
  obtain ⟨x14, e14, h⟩ := h.ex
  obtain ⟨x15, e15, h⟩ := h.ex
  obtain ⟨x16, e16, h⟩ := h.ex
  obtain ⟨x17, e17, h⟩ := h.ex
  rw [← upd_self e0, ← upd_self e3, ← upd_self e4, ← upd_self e5, ← upd_self e13, ← upd_self e14, ← upd_self e15, ← upd_self e16, ← upd_self e17]
  rw [← k2_er  R]
  refine acpt_sound (P := P) (k2A  R) _ _ _ ⟨⟨⟨⟨⟨⟨⟨⟨⟨(fun ρ m h => k4_ok  R ρ m h), ⟨(fun ρ m h => l3_ok  R ρ m h), True.intro⟩⟩, True.intro⟩, True.intro⟩, True.intro⟩, True.intro⟩, True.intro⟩, True.intro⟩, True.intro⟩, True.intro⟩ ?_
  exact Eq.mp (k2_eq  R x0a x0l x0c x3 x4 x5 x13 x14 x15 x16 x17 ρ m) h
theorem l1_eq  (K1 : Option Addr → Nat → Nat → Option Addr → Nat → Nat → Int → Int → Int → Int → Option Addr → Int → Option Addr → Option Addr → Int → Mem → Prop) (R : Ending → Mem → Prop) (x0a : Option Addr) (x0l : Nat) (x0c : Nat) (x2a : Option Addr) (x2l : Nat) (x2c : Nat) (x3 : Int) (x4 : Int) (x5 : Int) (x13 : Int) (x14 : Option Addr) (x15 : Int) (x16 : Option Addr) (x17 : Option Addr) (x18 : Int) (ρ : Env) (m : Mem) : l1B  K1 x0a x0l x0c x2a x2l x2c x3 x4 x5 x13 x14 x15 x16 x17 x18 R m = acpt P od (panicR R) (l1A  K1 R) (thenQ (l1E K1) (blockQ 0 (thenQ (acpt P od (panicR R) (.cut (k2E fun x0a x0l x0c x3 x4 x5 x13 x14 x15 x16 x17 m => k2  x0a x0l x0c x3 x4 x5 x13 x14 x15 x16 x17 R m) (sR (sR (sR (sR (sR (sR (sR (body))))))))) (bodyQ P fn R)) (bodyQ P fn R)))) (upd (upd (upd (upd (upd (upd (upd (upd (upd (upd (upd ρ 18 (.int .i64 x18)) 17 (.pointer x17)) 16 (.pointer x16)) 15 (.int .i64 x15)) 14 (.pointer x14)) 13 (.int .i64 x13)) 5 (.int .i64 x5)) 4 (.int .i64 x4)) 3 (.int .i64 x3)) 2 (.slice x2a x2l x2c)) 0 (.slice x0a x0l x0c)) m := by kernel_rfl
theorem l1_er  (K1 : Option Addr → Nat → Nat → Option Addr → Nat → Nat → Int → Int → Int → Int → Option Addr → Int → Option Addr → Option Addr → Int → Mem → Prop) (R : Ending → Mem → Prop) : (l1A  K1 R).erase = lP (bB (sR (sL (sR (sR (sR (sR (sR (sR (body)))))))))) := by kernel_rfl
theorem l1_ok  (R : Ending → Mem → Prop) (ρ : Env) (m : Mem) (h : (l1E fun x0a x0l x0c x2a x2l x2c x3 x4 x5 x13 x14 x15 x16 x17 x18 m => l1  x0a x0l x0c x2a x2l x2c x3 x4 x5 x13 x14 x15 x16 x17 x18 R m) ρ m) : cpt P od (panicR R) (.loop (lP (bB (sR (sL (sR (sR (sR (sR (sR (sR (body)))))))))))) (blockQ 0 (thenQ (acpt P od (panicR R) (.cut (k2E fun x0a x0l x0c x3 x4 x5 x13 x14 x15 x16 x17 m => k2  x0a x0l x0c x3 x4 x5 x13 x14 x15 x16 x17 R m) (sR (sR (sR (sR (sR (sR (sR (body))))))))) (bodyQ P fn R)) (bodyQ P fn R))) ρ m := by
  unfold l1E at h
  obtain ⟨x0a, x0l, x0c, e0, h⟩ := h.ex
  obtain ⟨x2a, x2l, x2c, e2, h⟩ := h.ex
  obtain ⟨x3, e3, h⟩ := h.ex
  obtain ⟨x4, e4, h⟩ := h.ex
  obtain ⟨x5, e5, h⟩ := h.ex
  obtain ⟨x13, e13, h⟩ := h.ex
  obtain ⟨x14, e14, h⟩ := h.ex
  obtain ⟨x15, e15, h⟩ := h.ex
  obtain ⟨x16, e16, h⟩ := h.ex
  obtain ⟨x17, e17, h⟩ := h.ex
  obtain ⟨x18, e18, h⟩ := h.ex
  obtain ⟨I, N, h0, hs⟩ := h
  refine ⟨fun N => l1E (I N), N, (by show l1E (I N) ρ m; unfold l1E; rw [e0, e2, e3, e4, e5, e13, e14, e15, e16, e17, e18]; exact h0), ?_⟩
  clear h0 e0 e2 e3 e4 e5 e13 e14 e15 e16 e17 e18
  intro N ρ m h
  unfold l1E at h
  obtain ⟨x0a, x0l, x0c, e0, h⟩ := h.ex
  obtain ⟨x2a, x2l, x2c, e2, h⟩ := h.ex
  obtain ⟨x3, e3, h⟩ := h.ex
  obtain ⟨x4, e4, h⟩ := h.ex
  obtain ⟨x5, e5, h⟩ := h.ex
  obtain ⟨x13, e13, h⟩ := h.ex
  obtain ⟨x14, e14, h⟩ := h.ex
  obtain ⟨x15, e15, h⟩ := h.ex
  obtain ⟨x16, e16, h⟩ := h.ex
  obtain ⟨x17, e17, h⟩ := h.ex
  obtain ⟨x18, e18, h⟩ := h.ex
  refine cpt_mono (P := P) (lP (bB (sR (sL (sR (sR (sR (sR (sR (sR (body))))))))))) (Q := thenQ (l1E fun x0a x0l x0c x2a x2l x2c x3 x4 x5 x13 x14 x15 x16 x17 x18 m => ∃ N1, N1 < N ∧ I N1 x0a x0l x0c x2a x2l x2c x3 x4 x5 x13 x14 x15 x16 x17 x18 m) (blockQ 0 (thenQ (acpt P od (panicR R) (.cut (k2E fun x0a x0l x0c x3 x4 x5 x13 x14 x15 x16 x17 m => k2  x0a x0l x0c x3 x4 x5 x13 x14 x15 x16 x17 R m) (sR (sR (sR (sR (sR (sR (sR (body))))))))) (bodyQ P fn R)) (bodyQ P fn R)))) (fun e ρ m h => ?_) ρ m ?_
  · cases e with
    | normal =>
      have h : l1E (fun x0a x0l x0c x2a x2l x2c x3 x4 x5 x13 x14 x15 x16 x17 x18 m => ∃ N1, N1 < N ∧ I N1 x0a x0l x0c x2a x2l x2c x3 x4 x5 x13 x14 x15 x16 x17 x18 m) ρ m := h
      unfold l1E at h
      obtain ⟨x0a, x0l, x0c, e0, h⟩ := h.ex
      obtain ⟨x2a, x2l, x2c, e2, h⟩ := h.ex
      obtain ⟨x3, e3, h⟩ := h.ex
      obtain ⟨x4, e4, h⟩ := h.ex
      obtain ⟨x5, e5, h⟩ := h.ex
      obtain ⟨x13, e13, h⟩ := h.ex
      obtain ⟨x14, e14, h⟩ := h.ex
      obtain ⟨x15, e15, h⟩ := h.ex
      obtain ⟨x16, e16, h⟩ := h.ex
      obtain ⟨x17, e17, h⟩ := h.ex
      obtain ⟨x18, e18, h⟩ := h.ex
      obtain ⟨N1, hlt, h⟩ := h
      exact ⟨N1, hlt, (by show l1E (I N1) ρ m; unfold l1E; rw [e0, e2, e3, e4, e5, e13, e14, e15, e16, e17, e18]; exact h)⟩
    | _ => exact h
  have hh := hs N x0a x0l x0c x2a x2l x2c x3 x4 x5 x13 x14 x15 x16 x17 x18 m h
  generalize (fun x0a x0l x0c x2a x2l x2c x3 x4 x5 x13 x14 x15 x16 x17 x18 m => ∃ N1, N1 < N ∧ I N1 x0a x0l x0c x2a x2l x2c x3 x4 x5 x13 x14 x15 x16 x17 x18 m : Option Addr → Nat → Nat → Option Addr → Nat → Nat → Int → Int → Int → Int → Option Addr → Int → Option Addr → Option Addr → Int → Mem → Prop) = K1 at hh ⊢
  rw [← upd_self e0, ← upd_self e2, ← upd_self e3, ← upd_self e4, ← upd_self e5, ← upd_self e13, ← upd_self e14, ← upd_self e15, ← upd_self e16, ← upd_self e17, ← upd_self e18]
  rw [← l1_er  K1 R]
  refine acpt_sound (P := P) (l1A  K1 R) _ _ _ True.intro ?_
  exact Eq.mp (l1_eq  K1 R x0a x0l x0c x2a x2l x2c x3 x4 x5 x13 x14 x15 x16 x17 x18 ρ m) hh
theorem e0_eq (a0a : Option Addr) (a0l : Nat) (a0c : Nat) (a1 : Int) (a2a : Option Addr) (a2l : Nat) (a2c : Nat) (a3 : Int) (a4 : Int) (a5 : Int) (R : Ending → Mem → Prop) (m : Mem) : e0 a0a a0l a0c a1 a2a a2l a2c a3 a4 a5 R m = acpt P od (panicR R) (e0A R) (bodyQ P fn R) (argE (#[.slice a0a a0l a0c, .int .u8 a1, .slice a2a a2l a2c, .int .i64 a3, .int .i64 a4, .int .i64 a5] : Array Value).toList) m := by kernel_rfl
theorem ok (a0a : Option Addr) (a0l : Nat) (a0c : Nat) (a1 : Int) (a2a : Option Addr) (a2l : Nat) (a2c : Nat) (a3 : Int) (a4 : Int) (a5 : Int) (R : Ending → Mem → Prop) (m : Mem) (h : e0 a0a a0l a0c a1 a2a a2l a2c a3 a4 a5 R m) : HC P id #[.slice a0a a0l a0c, .int .u8 a1, .slice a2a a2l a2c, .int .i64 a3, .int .i64 a4, .int .i64 a5] m R := by
  refine HC_of (fn := fn) (c := body) (od := od) (tb := tb) Go.Proofs.Try.func6 (by kernel_rfl) (by kernel_rfl) follows (by kernel_rfl) (of_decide_eq_true (by kernel_rfl)) ?_
  have he : (e0A R).erase = body := by kernel_rfl
  rw [← he]
  refine acpt_sound (P := P) (e0A R) _ _ _ ⟨⟨⟨⟨⟨⟨⟨(fun ρ m h => k2_ok  R ρ m h), ⟨(fun ρ m h => l1_ok  R ρ m h), True.intro⟩⟩, True.intro⟩, True.intro⟩, True.intro⟩, True.intro⟩, True.intro⟩, True.intro⟩ ?_
  exact Eq.mp (e0_eq a0a a0l a0c a1 a2a a2l a2c a3 a4 a5 R m) h
end eyotlaw7_DocReads

/-! ### eyot/eyotlaw7.begun -/
namespace eyotlaw7_begun
noncomputable def fn : Func := Go.Proofs.Try.f7
noncomputable def body : Code := fn.body.getD .skip
def od : Nat → Ord := fun _ => .done
def tb : Nat → Tab := fun _ => (0, [], [])
def e0  (R : Ending → Mem → Prop) (m : Mem) : Prop :=
  NewC m #[.int .u8 97, .int .u8 98, .int .u8 99, .int .u8 100] T_uint8 fun b10 m1 =>
  ConvN P T_sl_uint8 T_sl_uint8 (.slice (some ⟨b10, 0, none⟩) 4 4) m1 (fun w m2 =>
    UnS w fun x11a x11l x11c =>
    HC P page_New.id #[.slice x11a x11l x11c, .int .i64 2] m2 (Cont (fun v m3 =>
        UnTup v fun us0 =>
        UnCons us0 fun w us1 =>
        UnP w fun x12_0 =>
        UnCons us1 fun w us2 =>
        UnI w .i64 fun x12_1 =>
        UnNil us2 (
          HC P piece_New.id #[.int .i64 4] m3 (Cont (fun v m4 =>
              UnP v fun x15 =>
              NewC m4 #[.int .u8 120] T_uint8 fun b17 m5 =>
              ConvN P T_sl_uint8 T_sl_uint8 (.slice (some ⟨b17, 0, none⟩) 1 1) m5 (fun w m6 =>
                UnS w fun x18a x18l x18c =>
                HC P piece_Text_Edit.id #[.pointer x15, .int .i64 1, .int .i64 3, .slice x18a x18l x18c] m6 (Cont (fun v m7 =>
                    UnI v .i64 fun x19 =>
                    HC P file_New.id #[.pointer x12_0, .int .i64 1] m7 (Cont (fun v m8 =>
                        UnP v fun x21 =>
                        HC P doc_New.id #[.pointer x21, .pointer x15] m8 (Cont (fun v m9 =>
                        UnP v fun x23 =>
                        HC P doc_Doc_Bytes.id #[.pointer x23, .int .i64 0, .int .i64 3] m9 (Cont (fun v m10 =>
                        UnTup v fun us0 =>
                        UnCons us0 fun w us1 =>
                        UnS w fun x26_0a x26_0l x26_0c =>
                        UnCons us1 fun w us2 =>
                        UnI w .i64 fun x26_1 =>
                        UnNil us2 (
                        HC P doc_Doc_At.id #[.pointer x23, .int .i64 1] m10 (Cont (fun v m11 =>
                        UnTup v fun us0 =>
                        UnCons us0 fun w us1 =>
                        UnI w .u8 fun x31_0 =>
                        UnCons us1 fun w us2 =>
                        UnI w .i64 fun x31_1 =>
                        UnNil us2 (
                        Br (x26_1 == 0) (
                        B2S m11 x26_0a x26_0l fun s38 =>
                        Br (s38.toList == (ByteArray.mk #[97, 120, 100]).toList) (
                        Br (x31_1 == 0) (
                        Br (x31_0 == 120) (
                        HC P doc_Doc_Len.id #[.pointer x23] m11 (Cont (fun v m12 =>
                        UnI v .i64 fun x51 =>
                        R (.returned (.bool (x51 == 3))) m12) (panicR R))) (
                        R (.returned (.bool false)) m11)) (
                        R (.returned (.bool false)) m11)) (
                        R (.returned (.bool false)) m11)) (
                        R (.returned (.bool false)) m11))) (panicR R)))) (panicR R))) (panicR R))) (panicR R))) (panicR R))) (panicR R)) (panicR R)))) (panicR R))) (panicR R)
noncomputable def e0A (R : Ending → Mem → Prop) : ACode := (.code (body))
theorem e0_eq  (R : Ending → Mem → Prop) (m : Mem) : e0  R m = acpt P od (panicR R) (e0A R) (bodyQ P fn R) (argE (#[] : Array Value).toList) m := by kernel_rfl
theorem ok  (R : Ending → Mem → Prop) (m : Mem) (h : e0  R m) : HC P id #[] m R := by
  refine HC_of (fn := fn) (c := body) (od := od) (tb := tb) Go.Proofs.Try.func7 (by kernel_rfl) (by kernel_rfl) follows (by kernel_rfl) (of_decide_eq_true (by kernel_rfl)) ?_
  have he : (e0A R).erase = body := by kernel_rfl
  rw [← he]
  refine acpt_sound (P := P) (e0A R) _ _ _ True.intro ?_
  exact Eq.mp (e0_eq  R m) h
end eyotlaw7_begun

/-! ### eyot/page.New -/
namespace page_New
noncomputable def fn : Func := Go.Proofs.Try.f8
noncomputable def body : Code := fn.body.getD .skip
def od : Nat → Ord := fun _ => .done
def tb : Nat → Tab := fun _ => (0, [], [])
def e0 (base_0a : Option Addr) (base_0l : Nat) (base_0c : Nat) (size_1 : Int) (R : Ending → Mem → Prop) (m : Mem) : Prop :=
  Br (decide (size_1 < 1)) (
    R (.returned (.tuple #[.pointer none, .int .i64 1])) m) (
    Br (decide (size_1 > 512)) (
      R (.returned (.tuple #[.pointer none, .int .i64 1])) m) (
      Br (decide (((base_0l : Nat) : Int) > 4000)) (
        R (.returned (.tuple #[.pointer none, .int .i64 1])) m) (
        HC P slices_Clone_s_byte_byte.id #[.slice base_0a base_0l base_0c] m (Cont (fun v m1 =>
            UnS v fun x18a x18l x18c =>
            NewC m1 #[.slice x18a x18l x18c, .int .i64 size_1, .map none, .slice none 0 0] T_page_Pages fun b21 m2 =>
            R (.returned (.tuple #[.pointer (some ⟨b21, 0, none⟩), .int .i64 0])) m2) (panicR R)))))
noncomputable def e0A (R : Ending → Mem → Prop) : ACode := (.code (body))
theorem e0_eq (base_0a : Option Addr) (base_0l : Nat) (base_0c : Nat) (size_1 : Int) (R : Ending → Mem → Prop) (m : Mem) : e0 base_0a base_0l base_0c size_1 R m = acpt P od (panicR R) (e0A R) (bodyQ P fn R) (argE (#[.slice base_0a base_0l base_0c, .int .i64 size_1] : Array Value).toList) m := by kernel_rfl
theorem ok (base_0a : Option Addr) (base_0l : Nat) (base_0c : Nat) (size_1 : Int) (R : Ending → Mem → Prop) (m : Mem) (h : e0 base_0a base_0l base_0c size_1 R m) : HC P id #[.slice base_0a base_0l base_0c, .int .i64 size_1] m R := by
  refine HC_of (fn := fn) (c := body) (od := od) (tb := tb) Go.Proofs.Try.func8 (by kernel_rfl) (by kernel_rfl) follows (by kernel_rfl) (of_decide_eq_true (by kernel_rfl)) ?_
  have he : (e0A R).erase = body := by kernel_rfl
  rw [← he]
  refine acpt_sound (P := P) (e0A R) _ _ _ True.intro ?_
  exact Eq.mp (e0_eq base_0a base_0l base_0c size_1 R m) h
end page_New

/-! ### eyot/piece.New -/
namespace piece_New
noncomputable def fn : Func := Go.Proofs.Try.f9
noncomputable def body : Code := fn.body.getD .skip
def od : Nat → Ord := fun _ => .done
def tb : Nat → Tab := fun _ => (0, [], [])
def e0 (n_0 : Int) (R : Ending → Mem → Prop) (m : Mem) : Prop :=
  NewC m #[.slice none 0 0, .slice none 0 0] T_piece_Text fun b5 m1 =>
  Br (decide (n_0 > 0)) (
    NewC m1 #[.bool false, .int .i64 0, .int .i64 n_0] T_api_Piece fun b11 m2 =>
    St1 m2 b5 0 (.slice (some ⟨b11, 0, none⟩) 1 1) fun m3 =>
    R (.returned (.pointer (some ⟨b5, 0, none⟩))) m3) (
    R (.returned (.pointer (some ⟨b5, 0, none⟩))) m1)
noncomputable def e0A (R : Ending → Mem → Prop) : ACode := (.code (body))
theorem e0_eq (n_0 : Int) (R : Ending → Mem → Prop) (m : Mem) : e0 n_0 R m = acpt P od (panicR R) (e0A R) (bodyQ P fn R) (argE (#[.int .i64 n_0] : Array Value).toList) m := by kernel_rfl
theorem ok (n_0 : Int) (R : Ending → Mem → Prop) (m : Mem) (h : e0 n_0 R m) : HC P id #[.int .i64 n_0] m R := by
  refine HC_of (fn := fn) (c := body) (od := od) (tb := tb) Go.Proofs.Try.func9 (by kernel_rfl) (by kernel_rfl) follows (by kernel_rfl) (of_decide_eq_true (by kernel_rfl)) ?_
  have he : (e0A R).erase = body := by kernel_rfl
  rw [← he]
  refine acpt_sound (P := P) (e0A R) _ _ _ True.intro ?_
  exact Eq.mp (e0_eq n_0 R m) h
end piece_New

/-! ### eyot/eyotref3.NewText -/
namespace eyotref3_NewText
noncomputable def fn : Func := Go.Proofs.Try.f10
noncomputable def body : Code := fn.body.getD .skip
def od : Nat → Ord := fun _ => .done
def tb : Nat → Tab := fun _ => (0, [], [])
def l1E (K : Int → Nat → Nat → Int → Mem → Prop) : Env → Mem → Prop := fun ρ m => UnI (ρ 0) .i64 fun n_0 => UnPA (ρ 3) fun t_3b t_3o => UnI (ρ 4) .i64 fun i_4 => K n_0 t_3b t_3o i_4 m
def l1B  (K1 : Int → Nat → Nat → Int → Mem → Prop) (n_0 : Int) (t_3b : Nat) (t_3o : Nat) (i_4 : Int) (R : Ending → Mem → Prop) (m : Mem) : Prop :=
  Br (decide (i_4 < n_0)) (
    LdV m t_3b t_3o fun v =>
    UnS v fun x16a x16l x16c =>
    NewC m #[.bool false, .int .i64 i_4] T_eyotref3_Byte fun b19 m1 =>
    BiN P .append #[T_sl_eyotref3_Byte, T_sl_eyotref3_Byte] T_sl_eyotref3_Byte #[false, false] #[.slice x16a x16l x16c, .slice (some ⟨b19, 0, none⟩) 1 1] m1 (fun w m2 =>
      UnS w fun x20a x20l x20c =>
      St1 m2 t_3b t_3o (.slice x20a x20l x20c) fun m3 =>
      K1 n_0 t_3b t_3o (IntKind.i64.wrap (i_4 + 1)) m3) (panicR R)) (
    R (.returned (.pointer (some ⟨t_3b, t_3o, none⟩))) m)
def l1  (n_0 : Int) (t_3b : Nat) (t_3o : Nat) (i_4 : Int) (R : Ending → Mem → Prop) (m : Mem) : Prop :=
  ∃ (I : Nat → Int → Nat → Nat → Int → Mem → Prop) (N : Nat), I N n_0 t_3b t_3o i_4 m ∧ ∀ N n_0 t_3b t_3o i_4 m, I N n_0 t_3b t_3o i_4 m → l1B  (fun n_0 t_3b t_3o i_4 m => ∃ N1, N1 < N ∧ I N1 n_0 t_3b t_3o i_4 m) n_0 t_3b t_3o i_4 R m
noncomputable def l1A  (K1 : Int → Nat → Nat → Int → Mem → Prop) (R : Ending → Mem → Prop) : ACode := (.code (lP (bB (sR (sL (sR (sR (body))))))))
def e0 (n_0 : Int) (R : Ending → Mem → Prop) (m : Mem) : Prop :=
  NewC m #[.slice none 0 0, .slice none 0 0] T_eyotref3_Text fun b6 m1 =>
  l1  n_0 b6 0 0 R m1
noncomputable def e0A (R : Ending → Mem → Prop) : ACode := (.seq (.code (sL (body))) (.seq (.code (sL (sR (body)))) (.seq (.seq (.code (sL (sL (sR (sR (body)))))) (.block 0 (.cut (l1E fun n_0 t_3b t_3o i_4 m => l1  n_0 t_3b t_3o i_4 R m) (.loop (lP (bB (sR (sL (sR (sR (body))))))))))) (.code (sR (sR (sR (body))))))))
theorem l1_eq  (K1 : Int → Nat → Nat → Int → Mem → Prop) (R : Ending → Mem → Prop) (n_0 : Int) (t_3b : Nat) (t_3o : Nat) (i_4 : Int) (ρ : Env) (m : Mem) : l1B  K1 n_0 t_3b t_3o i_4 R m = acpt P od (panicR R) (l1A  K1 R) (thenQ (l1E K1) (blockQ 0 (thenQ (acpt P od (panicR R) (.code (sR (sR (sR (body))))) (bodyQ P fn R)) (bodyQ P fn R)))) (upd (upd (upd ρ 4 (.int .i64 i_4)) 3 (.pointer (some ⟨t_3b, t_3o, none⟩))) 0 (.int .i64 n_0)) m := by kernel_rfl
theorem l1_er  (K1 : Int → Nat → Nat → Int → Mem → Prop) (R : Ending → Mem → Prop) : (l1A  K1 R).erase = lP (bB (sR (sL (sR (sR (body)))))) := by kernel_rfl
theorem l1_ok  (R : Ending → Mem → Prop) (ρ : Env) (m : Mem) (h : (l1E fun n_0 t_3b t_3o i_4 m => l1  n_0 t_3b t_3o i_4 R m) ρ m) : cpt P od (panicR R) (.loop (lP (bB (sR (sL (sR (sR (body)))))))) (blockQ 0 (thenQ (acpt P od (panicR R) (.code (sR (sR (sR (body))))) (bodyQ P fn R)) (bodyQ P fn R))) ρ m := by
  unfold l1E at h
  obtain ⟨n_0, e0, h⟩ := h.ex
  obtain ⟨t_3b, t_3o, e3, h⟩ := h.ex
  obtain ⟨i_4, e4, h⟩ := h.ex
  obtain ⟨I, N, h0, hs⟩ := h
  refine ⟨fun N => l1E (I N), N, (by show l1E (I N) ρ m; unfold l1E; rw [e0, e3, e4]; exact h0), ?_⟩
  clear h0 e0 e3 e4
  intro N ρ m h
  unfold l1E at h
  obtain ⟨n_0, e0, h⟩ := h.ex
  obtain ⟨t_3b, t_3o, e3, h⟩ := h.ex
  obtain ⟨i_4, e4, h⟩ := h.ex
  refine cpt_mono (P := P) (lP (bB (sR (sL (sR (sR (body))))))) (Q := thenQ (l1E fun n_0 t_3b t_3o i_4 m => ∃ N1, N1 < N ∧ I N1 n_0 t_3b t_3o i_4 m) (blockQ 0 (thenQ (acpt P od (panicR R) (.code (sR (sR (sR (body))))) (bodyQ P fn R)) (bodyQ P fn R)))) (fun e ρ m h => ?_) ρ m ?_
  · cases e with
    | normal =>
      have h : l1E (fun n_0 t_3b t_3o i_4 m => ∃ N1, N1 < N ∧ I N1 n_0 t_3b t_3o i_4 m) ρ m := h
      unfold l1E at h
      obtain ⟨n_0, e0, h⟩ := h.ex
      obtain ⟨t_3b, t_3o, e3, h⟩ := h.ex
      obtain ⟨i_4, e4, h⟩ := h.ex
      obtain ⟨N1, hlt, h⟩ := h
      exact ⟨N1, hlt, (by show l1E (I N1) ρ m; unfold l1E; rw [e0, e3, e4]; exact h)⟩
    | _ => exact h
  have hh := hs N n_0 t_3b t_3o i_4 m h
  generalize (fun n_0 t_3b t_3o i_4 m => ∃ N1, N1 < N ∧ I N1 n_0 t_3b t_3o i_4 m : Int → Nat → Nat → Int → Mem → Prop) = K1 at hh ⊢
  rw [← upd_self e0, ← upd_self e3, ← upd_self e4]
  rw [← l1_er  K1 R]
  refine acpt_sound (P := P) (l1A  K1 R) _ _ _ True.intro ?_
  exact Eq.mp (l1_eq  K1 R n_0 t_3b t_3o i_4 ρ m) hh
theorem e0_eq (n_0 : Int) (R : Ending → Mem → Prop) (m : Mem) : e0 n_0 R m = acpt P od (panicR R) (e0A R) (bodyQ P fn R) (argE (#[.int .i64 n_0] : Array Value).toList) m := by kernel_rfl
theorem ok (n_0 : Int) (R : Ending → Mem → Prop) (m : Mem) (h : e0 n_0 R m) : HC P id #[.int .i64 n_0] m R := by
  refine HC_of (fn := fn) (c := body) (od := od) (tb := tb) Go.Proofs.Try.func10 (by kernel_rfl) (by kernel_rfl) follows (by kernel_rfl) (of_decide_eq_true (by kernel_rfl)) ?_
  have he : (e0A R).erase = body := by kernel_rfl
  rw [← he]
  refine acpt_sound (P := P) (e0A R) _ _ _ ⟨⟨⟨True.intro, ⟨(fun ρ m h => l1_ok  R ρ m h), True.intro⟩⟩, True.intro⟩, True.intro⟩ ?_
  exact Eq.mp (e0_eq n_0 R m) h
end eyotref3_NewText

/-! ### eyot/eyotlaw0.Place -/
namespace eyotlaw0_Place
noncomputable def fn : Func := Go.Proofs.Try.f11
noncomputable def body : Code := fn.body.getD .skip
def od : Nat → Ord := fun _ => .done
def tb : Nat → Tab := fun _ => (0, [], [])
def e0 (k_0 : Int) (n_1 : Int) (R : Ending → Mem → Prop) (m : Mem) : Prop :=
  Br (decide (n_1 < 1)) (
    R (.returned (.int .i64 0)) m) (
    NzI n_1 (
      Br (decide ((Int.tmod k_0 n_1) < 0)) (
        R (.returned (.int .i64 (IntKind.i64.wrap ((Int.tmod k_0 n_1) + n_1)))) m) (
        R (.returned (.int .i64 (Int.tmod k_0 n_1))) m)))
noncomputable def e0A (R : Ending → Mem → Prop) : ACode := (.code (body))
theorem e0_eq (k_0 : Int) (n_1 : Int) (R : Ending → Mem → Prop) (m : Mem) : e0 k_0 n_1 R m = acpt P od (panicR R) (e0A R) (bodyQ P fn R) (argE (#[.int .i64 k_0, .int .i64 n_1] : Array Value).toList) m := by kernel_rfl
theorem ok (k_0 : Int) (n_1 : Int) (R : Ending → Mem → Prop) (m : Mem) (h : e0 k_0 n_1 R m) : HC P id #[.int .i64 k_0, .int .i64 n_1] m R := by
  refine HC_of (fn := fn) (c := body) (od := od) (tb := tb) Go.Proofs.Try.func11 (by kernel_rfl) (by kernel_rfl) follows (by kernel_rfl) (of_decide_eq_true (by kernel_rfl)) ?_
  have he : (e0A R).erase = body := by kernel_rfl
  rw [← he]
  refine acpt_sound (P := P) (e0A R) _ _ _ True.intro ?_
  exact Eq.mp (e0_eq k_0 n_1 R m) h
end eyotlaw0_Place

/-! ### (*eyot/piece.Text).Edit -/
namespace piece_Text_Edit
noncomputable def fn : Func := Go.Proofs.Try.f12
noncomputable def body : Code := fn.body.getD .skip
def od : Nat → Ord := fun | 11 => ordL [(0, 3), (1, 3), (2, 3), (3, 3), (4, 1), (5, 3), (6, 3), (7, 3), (8, 3), (9, 1), (10, 3), (11, 3), (12, 3), (13, 3), (14, 3), (15, 2), (16, 2), (17, 3)] .done | _ => .done
def tb : Nat → Tab := fun | 11 => (98304, [0, 0, 2, 6, 14, 30, 0, 64, 192, 448, 960, 0, 2048, 8128, 16382, 32766, 65535, 131071], [(0, 1024, 38), (0, 1, 39), (2, 274877906944, 40), (4, 549755813888, 41), (8, 1099511627776, 42), (16, 2199023255552, 43), (0, 1, 44), (64, 8796093022208, 45), (128, 17592186044416, 46), (256, 35184372088832, 47), (512, 70368744177664, 48), (0, 8, 49), (2048, 281474976710656, 50), (5120, 703687441776640, 51), (8224, 1130297953353728, 52), (16384, 2251799813685248, 53), (32769, 4503737066323968, 54), (131071, 9007199254740992, 11)]) | _ => (0, [], [])
def k2E (K : Option Addr → Int → Option Addr → Nat → Nat → Int → Option Addr → Nat → Nat → Mem → Prop) : Env → Mem → Prop := fun ρ m => UnP (ρ 0) fun x0 => UnI (ρ 2) .i64 fun x2 => UnS (ρ 3) fun x3a x3l x3c => UnI (ρ 9) .i64 fun x9 => UnS (ρ 10) fun x10a x10l x10c => K x0 x2 x3a x3l x3c x9 x10a x10l x10c m
def k2  (x0 : Option Addr) (x2 : Int) (x3a : Option Addr) (x3l : Nat) (x3c : Nat) (x9 : Int) (x10a : Option Addr) (x10l : Nat) (x10c : Nat) (R : Ending → Mem → Prop) (m : Mem) : Prop :=
  NilC x0 (fun x57b x57o =>
    LdV m x57b x57o fun v =>
    UnS v fun x59a x59l x59c =>
    HC P piece_cut.id #[.slice x59a x59l x59c, .int .i64 x2, .int .i64 x9] m (Cont (fun v m1 =>
        UnS v fun x62a x62l x62c =>
        BiN P .append #[T_sl_api_Piece, T_sl_api_Piece] T_sl_api_Piece #[false, false] #[.slice x10a x10l x10c, .slice x62a x62l x62c] m1 (fun w m2 =>
          UnS w fun x63a x63l x63c =>
          HC P piece_joined.id #[.slice x63a x63l x63c] m2 (Cont (fun v m3 =>
              UnS v fun x64a x64l x64c =>
              NilC x0 (fun x65b x65o =>
                St1 m3 x65b x65o (.slice x64a x64l x64c) fun m4 =>
                NilC x0 (fun x69b x69o =>
                  LdV m4 x69b (x69o + 1) fun v =>
                  UnS v fun x71a x71l x71c =>
                  BiN P .append #[T_sl_uint8, T_sl_uint8] T_sl_uint8 #[false, false] #[.slice x71a x71l x71c, .slice x3a x3l x3c] m4 (fun w m5 =>
                    UnS w fun x73a x73l x73c =>
                    NilC x0 (fun x74b x74o =>
                      St1 m5 x74b (x74o + 1) (.slice x73a x73l x73c) fun m6 =>
                      R (.returned (.int .i64 0)) m6) (R (.panicked (nilPanic P)) m5)) (panicR R)) (R (.panicked (nilPanic P)) m4)) (R (.panicked (nilPanic P)) m3)) (panicR R))) (panicR R)) (panicR R))) (R (.panicked (nilPanic P)) m)
noncomputable def k2A  (R : Ending → Mem → Prop) : ACode := (.code (sR (sR (sR (sR (sR (body)))))))
def k1E (K : Option Addr → Int → Int → Option Addr → Nat → Nat → Int → Bool → Mem → Prop) : Env → Mem → Prop := fun ρ m => UnP (ρ 0) fun x0 => UnI (ρ 1) .i64 fun x1 => UnI (ρ 2) .i64 fun x2 => UnS (ρ 3) fun x3a x3l x3c => UnI (ρ 9) .i64 fun x9 => UnB (ρ 13) fun x13 => K x0 x1 x2 x3a x3l x3c x9 x13 m
def k1  (x0 : Option Addr) (x1 : Int) (x2 : Int) (x3a : Option Addr) (x3l : Nat) (x3c : Nat) (x9 : Int) (x13 : Bool) (R : Ending → Mem → Prop) (m : Mem) : Prop :=
  Br x13 (
    R (.returned (.int .i64 1)) m) (
    Br (decide (((x3l : Nat) : Int) > 300)) (
      R (.returned (.int .i64 10)) m) (
      NilC x0 (fun x29b x29o =>
        LdV m x29b x29o fun v =>
        UnS v fun x31a x31l x31c =>
        HC P piece_cut.id #[.slice x31a x31l x31c, .int .i64 0, .int .i64 x1] m (Cont (fun v m1 =>
            UnS v fun x33a x33l x33c =>
            Br (decide (((x3l : Nat) : Int) > 0)) (
              Sub m1 fun r2 =>
              NilC x0 (fun x39b x39o =>
                LdV r2 x39b (x39o + 1) fun v =>
                UnS v fun x41a x41l x41c =>
                NilC x0 (fun x44b x44o =>
                  LdV r2 x44b (x44o + 1) fun v =>
                  UnS v fun x46a x46l x46c =>
                  NewC m1 #[.bool true, .int .i64 ((x41l : Nat) : Int), .int .i64 (IntKind.i64.wrap (((x46l : Nat) : Int) + ((x3l : Nat) : Int)))] T_api_Piece fun b52 m3 =>
                  BiN P .append #[T_sl_api_Piece, T_sl_api_Piece] T_sl_api_Piece #[false, false] #[.slice x33a x33l x33c, .slice (some ⟨b52, 0, none⟩) 1 1] m3 (fun w m4 =>
                    UnS w fun x53a x53l x53c =>
                    k2  x0 x2 x3a x3l x3c x9 x53a x53l x53c R m4) (panicR R)) (False)) (False)) (
              k2  x0 x2 x3a x3l x3c x9 x33a x33l x33c R m1)) (panicR R))) (R (.panicked (nilPanic P)) m)))
noncomputable def k1A  (R : Ending → Mem → Prop) : ACode := (.code (sR (bB (sL (sR (sR (body)))))))
def e0 (a0 : Option Addr) (a1 : Int) (a2 : Int) (a3a : Option Addr) (a3l : Nat) (a3c : Nat) (R : Ending → Mem → Prop) (m : Mem) : Prop :=
  HC P piece_Text_Len.id #[.pointer a0] m (Cont (fun v m1 =>
      UnI v .i64 fun x12 =>
      Br a0.isNone (
        k1  a0 a1 a2 a3a a3l a3c x12 true R m1) (
        Br (decide (a1 < 0)) (
          k1  a0 a1 a2 a3a a3l a3c x12 true R m1) (
          Br (decide (a1 > a2)) (
            k1  a0 a1 a2 a3a a3l a3c x12 true R m1) (
            k1  a0 a1 a2 a3a a3l a3c x12 (decide (a2 > x12)) R m1)))) (panicR R))
noncomputable def e0A (R : Ending → Mem → Prop) : ACode := (.seq (.code (sL (body))) (.seq (.code (sL (sR (body)))) (.seq (.block 0 (.seq (.code (sL (bB (sL (sR (sR (body))))))) (.cut (k1E fun x0 x1 x2 x3a x3l x3c x9 x13 m => k1  x0 x1 x2 x3a x3l x3c x9 x13 R m) (sR (bB (sL (sR (sR (body))))))))) (.seq (.code (sL (sR (sR (sR (body)))))) (.seq (.code (sL (sR (sR (sR (sR (body))))))) (.cut (k2E fun x0 x2 x3a x3l x3c x9 x10a x10l x10c m => k2  x0 x2 x3a x3l x3c x9 x10a x10l x10c R m) (sR (sR (sR (sR (sR (body))))))))))))
theorem k2_eq  (R : Ending → Mem → Prop) (x0 : Option Addr) (x2 : Int) (x3a : Option Addr) (x3l : Nat) (x3c : Nat) (x9 : Int) (x10a : Option Addr) (x10l : Nat) (x10c : Nat) (ρ : Env) (m : Mem) : k2  x0 x2 x3a x3l x3c x9 x10a x10l x10c R m = acpt P od (panicR R) (k2A  R) (bodyQ P fn R) (upd (upd (upd (upd (upd ρ 10 (.slice x10a x10l x10c)) 9 (.int .i64 x9)) 3 (.slice x3a x3l x3c)) 2 (.int .i64 x2)) 0 (.pointer x0)) m := by kernel_rfl
theorem k2_er  (R : Ending → Mem → Prop) : (k2A  R).erase = sR (sR (sR (sR (sR (body))))) := by kernel_rfl
theorem k2_ok  (R : Ending → Mem → Prop) (ρ : Env) (m : Mem) (h : (k2E fun x0 x2 x3a x3l x3c x9 x10a x10l x10c m => k2  x0 x2 x3a x3l x3c x9 x10a x10l x10c R m) ρ m) : cpt P od (panicR R) (sR (sR (sR (sR (sR (body)))))) (bodyQ P fn R) ρ m := by
  unfold k2E at h
  obtain ⟨x0, e0, h⟩ := h.ex
  obtain ⟨x2, e2, h⟩ := h.ex
  obtain ⟨x3a, x3l, x3c, e3, h⟩ := h.ex
  obtain ⟨x9, e9, h⟩ := h.ex
  obtain ⟨x10a, x10l, x10c, e10, h⟩ := h.ex
  rw [← upd_self e0, ← upd_self e2, ← upd_self e3, ← upd_self e9, ← upd_self e10]
  rw [← k2_er  R]
  refine acpt_sound (P := P) (k2A  R) _ _ _ True.intro ?_
  exact Eq.mp (k2_eq  R x0 x2 x3a x3l x3c x9 x10a x10l x10c ρ m) h
theorem k1_eq  (R : Ending → Mem → Prop) (x0 : Option Addr) (x1 : Int) (x2 : Int) (x3a : Option Addr) (x3l : Nat) (x3c : Nat) (x9 : Int) (x13 : Bool) (ρ : Env) (m : Mem) : k1  x0 x1 x2 x3a x3l x3c x9 x13 R m = acpt P od (panicR R) (k1A  R) (blockQ 0 (thenQ (acpt P od (panicR R) (.seq (.code (sL (sR (sR (sR (body)))))) (.seq (.code (sL (sR (sR (sR (sR (body))))))) (.cut (k2E fun x0 x2 x3a x3l x3c x9 x10a x10l x10c m => k2  x0 x2 x3a x3l x3c x9 x10a x10l x10c R m) (sR (sR (sR (sR (sR (body))))))))) (bodyQ P fn R)) (bodyQ P fn R))) (upd (upd (upd (upd (upd (upd ρ 13 (.bool x13)) 9 (.int .i64 x9)) 3 (.slice x3a x3l x3c)) 2 (.int .i64 x2)) 1 (.int .i64 x1)) 0 (.pointer x0)) m := by kernel_rfl
theorem k1_er  (R : Ending → Mem → Prop) : (k1A  R).erase = sR (bB (sL (sR (sR (body))))) := by kernel_rfl
theorem k1_ok  (R : Ending → Mem → Prop) (ρ : Env) (m : Mem) (h : (k1E fun x0 x1 x2 x3a x3l x3c x9 x13 m => k1  x0 x1 x2 x3a x3l x3c x9 x13 R m) ρ m) : cpt P od (panicR R) (sR (bB (sL (sR (sR (body)))))) (blockQ 0 (thenQ (acpt P od (panicR R) (.seq (.code (sL (sR (sR (sR (body)))))) (.seq (.code (sL (sR (sR (sR (sR (body))))))) (.cut (k2E fun x0 x2 x3a x3l x3c x9 x10a x10l x10c m => k2  x0 x2 x3a x3l x3c x9 x10a x10l x10c R m) (sR (sR (sR (sR (sR (body))))))))) (bodyQ P fn R)) (bodyQ P fn R))) ρ m := by
  unfold k1E at h
  obtain ⟨x0, e0, h⟩ := h.ex
  obtain ⟨x1, e1, h⟩ := h.ex
  obtain ⟨x2, e2, h⟩ := h.ex
  obtain ⟨x3a, x3l, x3c, e3, h⟩ := h.ex
  obtain ⟨x9, e9, h⟩ := h.ex
  obtain ⟨x13, e13, h⟩ := h.ex
  rw [← upd_self e0, ← upd_self e1, ← upd_self e2, ← upd_self e3, ← upd_self e9, ← upd_self e13]
  rw [← k1_er  R]
  refine acpt_sound (P := P) (k1A  R) _ _ _ True.intro ?_
  exact Eq.mp (k1_eq  R x0 x1 x2 x3a x3l x3c x9 x13 ρ m) h
theorem e0_eq (a0 : Option Addr) (a1 : Int) (a2 : Int) (a3a : Option Addr) (a3l : Nat) (a3c : Nat) (R : Ending → Mem → Prop) (m : Mem) : e0 a0 a1 a2 a3a a3l a3c R m = acpt P od (panicR R) (e0A R) (bodyQ P fn R) (argE (#[.pointer a0, .int .i64 a1, .int .i64 a2, .slice a3a a3l a3c] : Array Value).toList) m := by kernel_rfl
theorem ok (a0 : Option Addr) (a1 : Int) (a2 : Int) (a3a : Option Addr) (a3l : Nat) (a3c : Nat) (R : Ending → Mem → Prop) (m : Mem) (h : e0 a0 a1 a2 a3a a3l a3c R m) : HC P id #[.pointer a0, .int .i64 a1, .int .i64 a2, .slice a3a a3l a3c] m R := by
  refine HC_of (fn := fn) (c := body) (od := od) (tb := tb) Go.Proofs.Try.func12 (by kernel_rfl) (by kernel_rfl) follows (by kernel_rfl) (of_decide_eq_true (by kernel_rfl)) ?_
  have he : (e0A R).erase = body := by kernel_rfl
  rw [← he]
  refine acpt_sound (P := P) (e0A R) _ _ _ ⟨⟨⟨⟨⟨(fun ρ m h => k2_ok  R ρ m h), True.intro⟩, True.intro⟩, ⟨(fun ρ m h => k1_ok  R ρ m h), True.intro⟩⟩, True.intro⟩, True.intro⟩ ?_
  exact Eq.mp (e0_eq a0 a1 a2 a3a a3l a3c R m) h
end piece_Text_Edit

/-! ### (*eyot/eyotref3.Text).Edit -/
namespace eyotref3_Text_Edit
noncomputable def fn : Func := Go.Proofs.Try.f13
noncomputable def body : Code := fn.body.getD .skip
def od : Nat → Ord := fun | 10 => ordL [(0, 3), (1, 3), (2, 3), (3, 3), (4, 3), (5, 3), (6, 1), (7, 3), (8, 3), (11, 3), (12, 3), (13, 3), (14, 1), (16, 3)] (.alt 9 0 (ordL [(10, 0), (15, 2), (17, 2), (18, 3), (19, 3), (20, 2), (21, 3), (22, 3), (23, 2)] .done) 10 0 (ordL [(9, 0), (15, 2), (17, 2), (18, 3), (19, 3), (20, 2), (21, 3), (22, 3), (23, 2)] .done)) | _ => .done
def tb : Nat → Tab := fun | 10 => (9601024, [0, 0, 0, 0, 8, 24, 56, 0, 248, 508, 0, 0, 2048, 6144, 14336, 32764, 0, 131068, 262141, 524285, 1048573, 2097151, 4194303, 8388607], [(0, 1, 56), (0, 1, 57), (0, 512, 58), (0, 1, 59), (8, 288230376151711744, 60), (16, 576460752303423488, 61), (32, 1152921504606846976, 62), (0, 4, 63), (192, 6917529027641081856, 64), (260, 9367487224930631680, 65), (0, 0, 66), (0, 1, 67), (2048, 73786976294838206464, 68), (4096, 147573952589676412928, 69), (8192, 295147905179352825856, 70), (17920, 627189298506124754944, 71), (0, 8, 72), (98304, 3541774862152233910272, 73), (181245, 36028797018963968, 74), (443389, 9444732965739290427392, 75), (705533, 18907912675552290406400, 0), (2097151, 72057594037927936, 76), (4194303, 37778931862957161709568, 77), (6291455, 80280230208783968632832, 0)]) | _ => (0, [], [])
def k2E (K : Option Addr → Int → Option Addr → Nat → Nat → Option Addr → Nat → Nat → Mem → Prop) : Env → Mem → Prop := fun ρ m => UnP (ρ 0) fun x0 => UnI (ρ 2) .i64 fun x2 => UnS (ρ 3) fun x3a x3l x3c => UnS (ρ 9) fun x9a x9l x9c => K x0 x2 x3a x3l x3c x9a x9l x9c m
def k2  (x0 : Option Addr) (x2 : Int) (x3a : Option Addr) (x3l : Nat) (x3c : Nat) (x9a : Option Addr) (x9l : Nat) (x9c : Nat) (R : Ending → Mem → Prop) (m : Mem) : Prop :=
  Sub m fun r1 =>
  NilC x0 (fun x59b x59o =>
    LdV r1 x59b x59o fun v =>
    UnS v fun x61a x61l x61c =>
    SlS x61a x61c x2 x61l 2 fun x63a x63l x63c =>
    NilC x0 (fun x67b x67o =>
      LdV r1 x67b (x67o + 1) fun v =>
      UnS v fun x69a x69l x69c =>
      (
        BiN P .append #[T_sl_eyotref3_Byte, T_sl_eyotref3_Byte] T_sl_eyotref3_Byte #[false, false] #[.slice x9a x9l x9c, .slice x63a x63l x63c] m (fun w m2 =>
          UnS w fun x64a x64l x64c =>
          Lk r1 m2 fun r3 =>
          NewC m2 #[] T_uint8 fun b65 m4 =>
          Lk r3 m4 fun r5 =>
          BiN P .append #[T_sl_uint8, T_sl_uint8] T_sl_uint8 #[false, false] #[.slice (some ⟨b65, 0, none⟩) 0 0, .slice x69a x69l x69c] m4 (fun w m6 =>
            UnS w fun x70a x70l x70c =>
            BiN P .append #[T_sl_uint8, T_sl_uint8] T_sl_uint8 #[false, false] #[.slice x70a x70l x70c, .slice x3a x3l x3c] m6 (fun w m7 =>
              UnS w fun x72a x72l x72c =>
              NilC x0 (fun x73b x73o =>
                St1 m7 x73b x73o (.slice x64a x64l x64c) fun m8 =>
                NilC x0 (fun x75b x75o =>
                  St1 m8 x75b (x75o + 1) (.slice x72a x72l x72c) fun m9 =>
                  R (.returned (.int .i64 0)) m9) (False)) (False)) (panicR R)) (panicR R)) (panicR R)) ∧ (
        NewC m #[] T_uint8 fun b65 m2 =>
        Lk r1 m2 fun r3 =>
        BiN P .append #[T_sl_eyotref3_Byte, T_sl_eyotref3_Byte] T_sl_eyotref3_Byte #[false, false] #[.slice x9a x9l x9c, .slice x63a x63l x63c] m2 (fun w m4 =>
          UnS w fun x64a x64l x64c =>
          Lk r3 m4 fun r5 =>
          BiN P .append #[T_sl_uint8, T_sl_uint8] T_sl_uint8 #[false, false] #[.slice (some ⟨b65, 0, none⟩) 0 0, .slice x69a x69l x69c] m4 (fun w m6 =>
            UnS w fun x70a x70l x70c =>
            BiN P .append #[T_sl_uint8, T_sl_uint8] T_sl_uint8 #[false, false] #[.slice x70a x70l x70c, .slice x3a x3l x3c] m6 (fun w m7 =>
              UnS w fun x72a x72l x72c =>
              NilC x0 (fun x73b x73o =>
                St1 m7 x73b x73o (.slice x64a x64l x64c) fun m8 =>
                NilC x0 (fun x75b x75o =>
                  St1 m8 x75b (x75o + 1) (.slice x72a x72l x72c) fun m9 =>
                  R (.returned (.int .i64 0)) m9) (False)) (False)) (panicR R)) (panicR R)) (panicR R))) (False)) (False)
noncomputable def k2A  (R : Ending → Mem → Prop) : ACode := (.code (sR (sR (sR (sR (sR (body)))))))
def l1E (K : Option Addr → Int → Option Addr → Nat → Nat → Option Addr → Nat → Nat → Int → Mem → Prop) : Env → Mem → Prop := fun ρ m => UnP (ρ 0) fun x0 => UnI (ρ 2) .i64 fun x2 => UnS (ρ 3) fun x3a x3l x3c => UnS (ρ 9) fun x9a x9l x9c => UnI (ρ 10) .i64 fun x10 => K x0 x2 x3a x3l x3c x9a x9l x9c x10 m
def l1B  (K1 : Option Addr → Int → Option Addr → Nat → Nat → Option Addr → Nat → Nat → Int → Mem → Prop) (x0 : Option Addr) (x2 : Int) (x3a : Option Addr) (x3l : Nat) (x3c : Nat) (x9a : Option Addr) (x9l : Nat) (x9c : Nat) (x10 : Int) (R : Ending → Mem → Prop) (m : Mem) : Prop :=
  Br (decide (x10 < ((x3l : Nat) : Int))) (
    NilC x0 (fun x46b x46o =>
      LdV m x46b (x46o + 1) fun v =>
      UnS v fun x48a x48l x48c =>
      NewC m #[.bool true, .int .i64 (IntKind.i64.wrap (((x48l : Nat) : Int) + x10))] T_eyotref3_Byte fun b53 m1 =>
      BiN P .append #[T_sl_eyotref3_Byte, T_sl_eyotref3_Byte] T_sl_eyotref3_Byte #[false, false] #[.slice x9a x9l x9c, .slice (some ⟨b53, 0, none⟩) 1 1] m1 (fun w m2 =>
        UnS w fun x54a x54l x54c =>
        K1 x0 x2 x3a x3l x3c x54a x54l x54c (IntKind.i64.wrap (x10 + 1)) m2) (panicR R)) (R (.panicked (nilPanic P)) m)) (
    k2  x0 x2 x3a x3l x3c x9a x9l x9c R m)
def l1  (x0 : Option Addr) (x2 : Int) (x3a : Option Addr) (x3l : Nat) (x3c : Nat) (x9a : Option Addr) (x9l : Nat) (x9c : Nat) (x10 : Int) (R : Ending → Mem → Prop) (m : Mem) : Prop :=
  ∃ (I : Nat → Option Addr → Int → Option Addr → Nat → Nat → Option Addr → Nat → Nat → Int → Mem → Prop) (N : Nat), I N x0 x2 x3a x3l x3c x9a x9l x9c x10 m ∧ ∀ N x0 x2 x3a x3l x3c x9a x9l x9c x10 m, I N x0 x2 x3a x3l x3c x9a x9l x9c x10 m → l1B  (fun x0 x2 x3a x3l x3c x9a x9l x9c x10 m => ∃ N1, N1 < N ∧ I N1 x0 x2 x3a x3l x3c x9a x9l x9c x10 m) x0 x2 x3a x3l x3c x9a x9l x9c x10 R m
noncomputable def l1A  (K1 : Option Addr → Int → Option Addr → Nat → Nat → Option Addr → Nat → Nat → Int → Mem → Prop) (R : Ending → Mem → Prop) : ACode := (.code (lP (bB (sR (sL (sR (sR (sR (sR (body))))))))))
def e0 (a0 : Option Addr) (a1 : Int) (a2 : Int) (a3a : Option Addr) (a3l : Nat) (a3c : Nat) (R : Ending → Mem → Prop) (m : Mem) : Prop :=
  Br (decide (a1 < 0)) (
    R (.returned (.int .i64 1)) m) (
    Br (decide (a1 > a2)) (
      R (.returned (.int .i64 1)) m) (
      NilC a0 (fun x21b x21o =>
        LdV m x21b x21o fun v =>
        UnS v fun x23a x23l x23c =>
        Br (decide (a2 > ((x23l : Nat) : Int))) (
          R (.returned (.int .i64 1)) m) (
          Br (decide (((a3l : Nat) : Int) > 300)) (
            R (.returned (.int .i64 10)) m) (
            NewC m #[] T_eyotref3_Byte fun b30 m1 =>
            NilC a0 (fun x32b x32o =>
              LdV m1 x32b x32o fun v =>
              UnS v fun x34a x34l x34c =>
              SlS x34a x34c 0 a1 2 fun x36a x36l x36c =>
              BiN P .append #[T_sl_eyotref3_Byte, T_sl_eyotref3_Byte] T_sl_eyotref3_Byte #[false, false] #[.slice (some ⟨b30, 0, none⟩) 0 0, .slice x36a x36l x36c] m1 (fun w m2 =>
                UnS w fun x37a x37l x37c =>
                l1  a0 a2 a3a a3l a3c x37a x37l x37c 0 R m2) (panicR R)) (R (.panicked (nilPanic P)) m1)))) (R (.panicked (nilPanic P)) m)))
noncomputable def e0A (R : Ending → Mem → Prop) : ACode := (.seq (.code (sL (body))) (.seq (.code (sL (sR (body)))) (.seq (.code (sL (sR (sR (body))))) (.seq (.code (sL (sR (sR (sR (body)))))) (.seq (.seq (.code (sL (sL (sR (sR (sR (sR (body)))))))) (.block 0 (.cut (l1E fun x0 x2 x3a x3l x3c x9a x9l x9c x10 m => l1  x0 x2 x3a x3l x3c x9a x9l x9c x10 R m) (.loop (lP (bB (sR (sL (sR (sR (sR (sR (body))))))))))))) (.cut (k2E fun x0 x2 x3a x3l x3c x9a x9l x9c m => k2  x0 x2 x3a x3l x3c x9a x9l x9c R m) (sR (sR (sR (sR (sR (body))))))))))))
theorem k2_eq  (R : Ending → Mem → Prop) (x0 : Option Addr) (x2 : Int) (x3a : Option Addr) (x3l : Nat) (x3c : Nat) (x9a : Option Addr) (x9l : Nat) (x9c : Nat) (ρ : Env) (m : Mem) : k2  x0 x2 x3a x3l x3c x9a x9l x9c R m = acpt P od (panicR R) (k2A  R) (bodyQ P fn R) (upd (upd (upd (upd ρ 9 (.slice x9a x9l x9c)) 3 (.slice x3a x3l x3c)) 2 (.int .i64 x2)) 0 (.pointer x0)) m := by kernel_rfl
theorem k2_er  (R : Ending → Mem → Prop) : (k2A  R).erase = sR (sR (sR (sR (sR (body))))) := by kernel_rfl
theorem k2_ok  (R : Ending → Mem → Prop) (ρ : Env) (m : Mem) (h : (k2E fun x0 x2 x3a x3l x3c x9a x9l x9c m => k2  x0 x2 x3a x3l x3c x9a x9l x9c R m) ρ m) : cpt P od (panicR R) (sR (sR (sR (sR (sR (body)))))) (bodyQ P fn R) ρ m := by
  unfold k2E at h
  obtain ⟨x0, e0, h⟩ := h.ex
  obtain ⟨x2, e2, h⟩ := h.ex
  obtain ⟨x3a, x3l, x3c, e3, h⟩ := h.ex
  obtain ⟨x9a, x9l, x9c, e9, h⟩ := h.ex
  rw [← upd_self e0, ← upd_self e2, ← upd_self e3, ← upd_self e9]
  rw [← k2_er  R]
  refine acpt_sound (P := P) (k2A  R) _ _ _ True.intro ?_
  exact Eq.mp (k2_eq  R x0 x2 x3a x3l x3c x9a x9l x9c ρ m) h
theorem l1_eq  (K1 : Option Addr → Int → Option Addr → Nat → Nat → Option Addr → Nat → Nat → Int → Mem → Prop) (R : Ending → Mem → Prop) (x0 : Option Addr) (x2 : Int) (x3a : Option Addr) (x3l : Nat) (x3c : Nat) (x9a : Option Addr) (x9l : Nat) (x9c : Nat) (x10 : Int) (ρ : Env) (m : Mem) : l1B  K1 x0 x2 x3a x3l x3c x9a x9l x9c x10 R m = acpt P od (panicR R) (l1A  K1 R) (thenQ (l1E K1) (blockQ 0 (thenQ (acpt P od (panicR R) (.cut (k2E fun x0 x2 x3a x3l x3c x9a x9l x9c m => k2  x0 x2 x3a x3l x3c x9a x9l x9c R m) (sR (sR (sR (sR (sR (body))))))) (bodyQ P fn R)) (bodyQ P fn R)))) (upd (upd (upd (upd (upd ρ 10 (.int .i64 x10)) 9 (.slice x9a x9l x9c)) 3 (.slice x3a x3l x3c)) 2 (.int .i64 x2)) 0 (.pointer x0)) m := by kernel_rfl
theorem l1_er  (K1 : Option Addr → Int → Option Addr → Nat → Nat → Option Addr → Nat → Nat → Int → Mem → Prop) (R : Ending → Mem → Prop) : (l1A  K1 R).erase = lP (bB (sR (sL (sR (sR (sR (sR (body)))))))) := by kernel_rfl
theorem l1_ok  (R : Ending → Mem → Prop) (ρ : Env) (m : Mem) (h : (l1E fun x0 x2 x3a x3l x3c x9a x9l x9c x10 m => l1  x0 x2 x3a x3l x3c x9a x9l x9c x10 R m) ρ m) : cpt P od (panicR R) (.loop (lP (bB (sR (sL (sR (sR (sR (sR (body)))))))))) (blockQ 0 (thenQ (acpt P od (panicR R) (.cut (k2E fun x0 x2 x3a x3l x3c x9a x9l x9c m => k2  x0 x2 x3a x3l x3c x9a x9l x9c R m) (sR (sR (sR (sR (sR (body))))))) (bodyQ P fn R)) (bodyQ P fn R))) ρ m := by
  unfold l1E at h
  obtain ⟨x0, e0, h⟩ := h.ex
  obtain ⟨x2, e2, h⟩ := h.ex
  obtain ⟨x3a, x3l, x3c, e3, h⟩ := h.ex
  obtain ⟨x9a, x9l, x9c, e9, h⟩ := h.ex
  obtain ⟨x10, e10, h⟩ := h.ex
  obtain ⟨I, N, h0, hs⟩ := h
  refine ⟨fun N => l1E (I N), N, (by show l1E (I N) ρ m; unfold l1E; rw [e0, e2, e3, e9, e10]; exact h0), ?_⟩
  clear h0 e0 e2 e3 e9 e10
  intro N ρ m h
  unfold l1E at h
  obtain ⟨x0, e0, h⟩ := h.ex
  obtain ⟨x2, e2, h⟩ := h.ex
  obtain ⟨x3a, x3l, x3c, e3, h⟩ := h.ex
  obtain ⟨x9a, x9l, x9c, e9, h⟩ := h.ex
  obtain ⟨x10, e10, h⟩ := h.ex
  refine cpt_mono (P := P) (lP (bB (sR (sL (sR (sR (sR (sR (body))))))))) (Q := thenQ (l1E fun x0 x2 x3a x3l x3c x9a x9l x9c x10 m => ∃ N1, N1 < N ∧ I N1 x0 x2 x3a x3l x3c x9a x9l x9c x10 m) (blockQ 0 (thenQ (acpt P od (panicR R) (.cut (k2E fun x0 x2 x3a x3l x3c x9a x9l x9c m => k2  x0 x2 x3a x3l x3c x9a x9l x9c R m) (sR (sR (sR (sR (sR (body))))))) (bodyQ P fn R)) (bodyQ P fn R)))) (fun e ρ m h => ?_) ρ m ?_
  · cases e with
    | normal =>
      have h : l1E (fun x0 x2 x3a x3l x3c x9a x9l x9c x10 m => ∃ N1, N1 < N ∧ I N1 x0 x2 x3a x3l x3c x9a x9l x9c x10 m) ρ m := h
      unfold l1E at h
      obtain ⟨x0, e0, h⟩ := h.ex
      obtain ⟨x2, e2, h⟩ := h.ex
      obtain ⟨x3a, x3l, x3c, e3, h⟩ := h.ex
      obtain ⟨x9a, x9l, x9c, e9, h⟩ := h.ex
      obtain ⟨x10, e10, h⟩ := h.ex
      obtain ⟨N1, hlt, h⟩ := h
      exact ⟨N1, hlt, (by show l1E (I N1) ρ m; unfold l1E; rw [e0, e2, e3, e9, e10]; exact h)⟩
    | _ => exact h
  have hh := hs N x0 x2 x3a x3l x3c x9a x9l x9c x10 m h
  generalize (fun x0 x2 x3a x3l x3c x9a x9l x9c x10 m => ∃ N1, N1 < N ∧ I N1 x0 x2 x3a x3l x3c x9a x9l x9c x10 m : Option Addr → Int → Option Addr → Nat → Nat → Option Addr → Nat → Nat → Int → Mem → Prop) = K1 at hh ⊢
  rw [← upd_self e0, ← upd_self e2, ← upd_self e3, ← upd_self e9, ← upd_self e10]
  rw [← l1_er  K1 R]
  refine acpt_sound (P := P) (l1A  K1 R) _ _ _ True.intro ?_
  exact Eq.mp (l1_eq  K1 R x0 x2 x3a x3l x3c x9a x9l x9c x10 ρ m) hh
theorem e0_eq (a0 : Option Addr) (a1 : Int) (a2 : Int) (a3a : Option Addr) (a3l : Nat) (a3c : Nat) (R : Ending → Mem → Prop) (m : Mem) : e0 a0 a1 a2 a3a a3l a3c R m = acpt P od (panicR R) (e0A R) (bodyQ P fn R) (argE (#[.pointer a0, .int .i64 a1, .int .i64 a2, .slice a3a a3l a3c] : Array Value).toList) m := by kernel_rfl
theorem ok (a0 : Option Addr) (a1 : Int) (a2 : Int) (a3a : Option Addr) (a3l : Nat) (a3c : Nat) (R : Ending → Mem → Prop) (m : Mem) (h : e0 a0 a1 a2 a3a a3l a3c R m) : HC P id #[.pointer a0, .int .i64 a1, .int .i64 a2, .slice a3a a3l a3c] m R := by
  refine HC_of (fn := fn) (c := body) (od := od) (tb := tb) Go.Proofs.Try.func13 (by kernel_rfl) (by kernel_rfl) follows (by kernel_rfl) (of_decide_eq_true (by kernel_rfl)) ?_
  have he : (e0A R).erase = body := by kernel_rfl
  rw [← he]
  refine acpt_sound (P := P) (e0A R) _ _ _ ⟨⟨⟨⟨⟨(fun ρ m h => k2_ok  R ρ m h), ⟨(fun ρ m h => l1_ok  R ρ m h), True.intro⟩⟩, True.intro⟩, True.intro⟩, True.intro⟩, True.intro⟩ ?_
  exact Eq.mp (e0_eq a0 a1 a2 a3a a3l a3c R m) h
end eyotref3_Text_Edit

/-! ### eyot/doc.New -/
namespace doc_New
noncomputable def fn : Func := Go.Proofs.Try.f14
noncomputable def body : Code := fn.body.getD .skip
def od : Nat → Ord := fun _ => .done
def tb : Nat → Tab := fun _ => (0, [], [])
def e0 (f_0 : Option Addr) (t_1 : Option Addr) (R : Ending → Mem → Prop) (m : Mem) : Prop :=
  NewC m #[.pointer f_0, .pointer t_1] T_doc_Doc fun b8 m1 =>
  R (.returned (.pointer (some ⟨b8, 0, none⟩))) m1
noncomputable def e0A (R : Ending → Mem → Prop) : ACode := (.code (body))
theorem e0_eq (f_0 : Option Addr) (t_1 : Option Addr) (R : Ending → Mem → Prop) (m : Mem) : e0 f_0 t_1 R m = acpt P od (panicR R) (e0A R) (bodyQ P fn R) (argE (#[.pointer f_0, .pointer t_1] : Array Value).toList) m := by kernel_rfl
theorem ok (f_0 : Option Addr) (t_1 : Option Addr) (R : Ending → Mem → Prop) (m : Mem) (h : e0 f_0 t_1 R m) : HC P id #[.pointer f_0, .pointer t_1] m R := by
  refine HC_of (fn := fn) (c := body) (od := od) (tb := tb) Go.Proofs.Try.func14 (by kernel_rfl) (by kernel_rfl) follows (by kernel_rfl) (of_decide_eq_true (by kernel_rfl)) ?_
  have he : (e0A R).erase = body := by kernel_rfl
  rw [← he]
  refine acpt_sound (P := P) (e0A R) _ _ _ True.intro ?_
  exact Eq.mp (e0_eq f_0 t_1 R m) h
end doc_New

/-! ### eyot/file.New -/
namespace file_New
noncomputable def fn : Func := Go.Proofs.Try.f15
noncomputable def body : Code := fn.body.getD .skip
def od : Nat → Ord := fun _ => .done
def tb : Nat → Tab := fun _ => (0, [], [])
def e0 (p_0 : Option Addr) (most_1 : Int) (R : Ending → Mem → Prop) (m : Mem) : Prop :=
  HC P lru_New_s_byte.id #[.int .i64 most_1] m (Cont (fun v m1 =>
      UnP v fun x7 =>
      NewC m1 #[.pointer p_0, .pointer x7] T_file_File fun b9 m2 =>
      R (.returned (.pointer (some ⟨b9, 0, none⟩))) m2) (panicR R))
noncomputable def e0A (R : Ending → Mem → Prop) : ACode := (.code (body))
theorem e0_eq (p_0 : Option Addr) (most_1 : Int) (R : Ending → Mem → Prop) (m : Mem) : e0 p_0 most_1 R m = acpt P od (panicR R) (e0A R) (bodyQ P fn R) (argE (#[.pointer p_0, .int .i64 most_1] : Array Value).toList) m := by kernel_rfl
theorem ok (p_0 : Option Addr) (most_1 : Int) (R : Ending → Mem → Prop) (m : Mem) (h : e0 p_0 most_1 R m) : HC P id #[.pointer p_0, .int .i64 most_1] m R := by
  refine HC_of (fn := fn) (c := body) (od := od) (tb := tb) Go.Proofs.Try.func15 (by kernel_rfl) (by kernel_rfl) follows (by kernel_rfl) (of_decide_eq_true (by kernel_rfl)) ?_
  have he : (e0A R).erase = body := by kernel_rfl
  rw [← he]
  refine acpt_sound (P := P) (e0A R) _ _ _ True.intro ?_
  exact Eq.mp (e0_eq p_0 most_1 R m) h
end file_New

/-! ### (*eyot/eyotref3.Text).Spell -/
namespace eyotref3_Text_Spell
noncomputable def fn : Func := Go.Proofs.Try.f16
noncomputable def body : Code := fn.body.getD .skip
def od : Nat → Ord := fun | 6 => ordL [(0, 3), (1, 3), (2, 3), (3, 3), (4, 1), (5, 3), (6, 3), (7, 3), (8, 1), (9, 3), (10, 3), (11, 3), (12, 0), (13, 3), (14, 2), (15, 2), (16, 2), (17, 3)] .done | _ => .done
def tb : Nat → Tab := fun | 6 => (114688, [0, 0, 2, 6, 14, 0, 32, 96, 224, 0, 992, 2016, 4064, 8190, 16382, 32766, 65535, 131071], [(0, 32, 25), (0, 1, 26), (2, 33554432, 27), (4, 67108864, 28), (8, 134217728, 29), (0, 1, 30), (32, 536870912, 31), (64, 1073741824, 32), (128, 2147483648, 33), (0, 64, 34), (768, 12884901888, 35), (1024, 17179869184, 36), (2048, 34359738368, 37), (4112, 68987912192, 38), (8192, 137438953472, 39), (16384, 274877906944, 40), (32769, 549772591104, 41), (131071, 1099511627776, 6)]) | _ => (0, [], [])
def l1E (K : Option Addr → Option Addr → Nat → Nat → Option Addr → Nat → Nat → Int → Mem → Prop) : Env → Mem → Prop := fun ρ m => UnP (ρ 0) fun t_0 => UnS (ρ 1) fun base_1a base_1l base_1c => UnS (ρ 5) fun b_5a b_5l b_5c => UnI (ρ 6) .i64 fun i_6 => K t_0 base_1a base_1l base_1c b_5a b_5l b_5c i_6 m
def l1B  (K1 : Option Addr → Option Addr → Nat → Nat → Option Addr → Nat → Nat → Int → Mem → Prop) (t_0 : Option Addr) (base_1a : Option Addr) (base_1l : Nat) (base_1c : Nat) (b_5a : Option Addr) (b_5l : Nat) (b_5c : Nat) (i_6 : Int) (R : Ending → Mem → Prop) (m : Mem) : Prop :=
  NilC t_0 (fun x9b x9o =>
    LdV m x9b x9o fun v =>
    UnS v fun x11a x11l x11c =>
    Br (decide (i_6 < ((x11l : Nat) : Int))) (
      NilC t_0 (fun x17b x17o =>
        LdV m x17b x17o fun v =>
        UnS v fun x19a x19l x19c =>
        IxS x19a x19l i_6 2 fun x21b x21o =>
        LdV m x21b x21o fun v =>
        UnB v fun x23 =>
        Br x23 (
          Sub m fun r1 =>
          NilC t_0 (fun x26b x26o =>
            LdV r1 x26b (x26o + 1) fun v =>
            UnS v fun x28a x28l x28c =>
            NilC t_0 (fun x30b x30o =>
              LdV r1 x30b x30o fun v =>
              UnS v fun x32a x32l x32c =>
              IxS x32a x32l i_6 2 fun x34b x34o =>
              LdV m x34b (x34o + 1) fun v =>
              UnI v .i64 fun x36 =>
              IxS x28a x28l x36 1 fun x37b x37o =>
              LdV m x37b x37o fun v =>
              UnI v .u8 fun x38 =>
              NewC m #[.int .u8 x38] T_uint8 fun b39 m2 =>
              BiN P .append #[T_sl_uint8, T_sl_uint8] T_sl_uint8 #[false, false] #[.slice b_5a b_5l b_5c, .slice (some ⟨b39, 0, none⟩) 1 1] m2 (fun w m3 =>
                UnS w fun x40a x40l x40c =>
                K1 t_0 base_1a base_1l base_1c x40a x40l x40c (IntKind.i64.wrap (i_6 + 1)) m3) (panicR R)) (False)) (False)) (
          NilC t_0 (fun x44b x44o =>
            LdV m x44b x44o fun v =>
            UnS v fun x46a x46l x46c =>
            IxS x46a x46l i_6 2 fun x48b x48o =>
            LdV m x48b (x48o + 1) fun v =>
            UnI v .i64 fun x50 =>
            IxS base_1a base_1l x50 1 fun x51b x51o =>
            LdV m x51b x51o fun v =>
            UnI v .u8 fun x52 =>
            NewC m #[.int .u8 x52] T_uint8 fun b53 m1 =>
            BiN P .append #[T_sl_uint8, T_sl_uint8] T_sl_uint8 #[false, false] #[.slice b_5a b_5l b_5c, .slice (some ⟨b53, 0, none⟩) 1 1] m1 (fun w m2 =>
              UnS w fun x54a x54l x54c =>
              K1 t_0 base_1a base_1l base_1c x54a x54l x54c (IntKind.i64.wrap (i_6 + 1)) m2) (panicR R)) (R (.panicked (nilPanic P)) m))) (R (.panicked (nilPanic P)) m)) (
      R (.returned (.slice b_5a b_5l b_5c)) m)) (R (.panicked (nilPanic P)) m)
def l1  (t_0 : Option Addr) (base_1a : Option Addr) (base_1l : Nat) (base_1c : Nat) (b_5a : Option Addr) (b_5l : Nat) (b_5c : Nat) (i_6 : Int) (R : Ending → Mem → Prop) (m : Mem) : Prop :=
  ∃ (I : Nat → Option Addr → Option Addr → Nat → Nat → Option Addr → Nat → Nat → Int → Mem → Prop) (N : Nat), I N t_0 base_1a base_1l base_1c b_5a b_5l b_5c i_6 m ∧ ∀ N t_0 base_1a base_1l base_1c b_5a b_5l b_5c i_6 m, I N t_0 base_1a base_1l base_1c b_5a b_5l b_5c i_6 m → l1B  (fun t_0 base_1a base_1l base_1c b_5a b_5l b_5c i_6 m => ∃ N1, N1 < N ∧ I N1 t_0 base_1a base_1l base_1c b_5a b_5l b_5c i_6 m) t_0 base_1a base_1l base_1c b_5a b_5l b_5c i_6 R m
noncomputable def l1A  (K1 : Option Addr → Option Addr → Nat → Nat → Option Addr → Nat → Nat → Int → Mem → Prop) (R : Ending → Mem → Prop) : ACode := (.code (lP (bB (sR (sL (sR (sR (body))))))))
def e0 (t_0 : Option Addr) (base_1a : Option Addr) (base_1l : Nat) (base_1c : Nat) (R : Ending → Mem → Prop) (m : Mem) : Prop :=
  l1  t_0 base_1a base_1l base_1c none 0 0 0 R m
noncomputable def e0A (R : Ending → Mem → Prop) : ACode := (.seq (.code (sL (body))) (.seq (.code (sL (sR (body)))) (.seq (.seq (.code (sL (sL (sR (sR (body)))))) (.block 0 (.cut (l1E fun t_0 base_1a base_1l base_1c b_5a b_5l b_5c i_6 m => l1  t_0 base_1a base_1l base_1c b_5a b_5l b_5c i_6 R m) (.loop (lP (bB (sR (sL (sR (sR (body))))))))))) (.code (sR (sR (sR (body))))))))
theorem l1_eq  (K1 : Option Addr → Option Addr → Nat → Nat → Option Addr → Nat → Nat → Int → Mem → Prop) (R : Ending → Mem → Prop) (t_0 : Option Addr) (base_1a : Option Addr) (base_1l : Nat) (base_1c : Nat) (b_5a : Option Addr) (b_5l : Nat) (b_5c : Nat) (i_6 : Int) (ρ : Env) (m : Mem) : l1B  K1 t_0 base_1a base_1l base_1c b_5a b_5l b_5c i_6 R m = acpt P od (panicR R) (l1A  K1 R) (thenQ (l1E K1) (blockQ 0 (thenQ (acpt P od (panicR R) (.code (sR (sR (sR (body))))) (bodyQ P fn R)) (bodyQ P fn R)))) (upd (upd (upd (upd ρ 6 (.int .i64 i_6)) 5 (.slice b_5a b_5l b_5c)) 1 (.slice base_1a base_1l base_1c)) 0 (.pointer t_0)) m := by kernel_rfl
theorem l1_er  (K1 : Option Addr → Option Addr → Nat → Nat → Option Addr → Nat → Nat → Int → Mem → Prop) (R : Ending → Mem → Prop) : (l1A  K1 R).erase = lP (bB (sR (sL (sR (sR (body)))))) := by kernel_rfl
theorem l1_ok  (R : Ending → Mem → Prop) (ρ : Env) (m : Mem) (h : (l1E fun t_0 base_1a base_1l base_1c b_5a b_5l b_5c i_6 m => l1  t_0 base_1a base_1l base_1c b_5a b_5l b_5c i_6 R m) ρ m) : cpt P od (panicR R) (.loop (lP (bB (sR (sL (sR (sR (body)))))))) (blockQ 0 (thenQ (acpt P od (panicR R) (.code (sR (sR (sR (body))))) (bodyQ P fn R)) (bodyQ P fn R))) ρ m := by
  unfold l1E at h
  obtain ⟨t_0, e0, h⟩ := h.ex
  obtain ⟨base_1a, base_1l, base_1c, e1, h⟩ := h.ex
  obtain ⟨b_5a, b_5l, b_5c, e5, h⟩ := h.ex
  obtain ⟨i_6, e6, h⟩ := h.ex
  obtain ⟨I, N, h0, hs⟩ := h
  refine ⟨fun N => l1E (I N), N, (by show l1E (I N) ρ m; unfold l1E; rw [e0, e1, e5, e6]; exact h0), ?_⟩
  clear h0 e0 e1 e5 e6
  intro N ρ m h
  unfold l1E at h
  obtain ⟨t_0, e0, h⟩ := h.ex
  obtain ⟨base_1a, base_1l, base_1c, e1, h⟩ := h.ex
  obtain ⟨b_5a, b_5l, b_5c, e5, h⟩ := h.ex
  obtain ⟨i_6, e6, h⟩ := h.ex
  refine cpt_mono (P := P) (lP (bB (sR (sL (sR (sR (body))))))) (Q := thenQ (l1E fun t_0 base_1a base_1l base_1c b_5a b_5l b_5c i_6 m => ∃ N1, N1 < N ∧ I N1 t_0 base_1a base_1l base_1c b_5a b_5l b_5c i_6 m) (blockQ 0 (thenQ (acpt P od (panicR R) (.code (sR (sR (sR (body))))) (bodyQ P fn R)) (bodyQ P fn R)))) (fun e ρ m h => ?_) ρ m ?_
  · cases e with
    | normal =>
      have h : l1E (fun t_0 base_1a base_1l base_1c b_5a b_5l b_5c i_6 m => ∃ N1, N1 < N ∧ I N1 t_0 base_1a base_1l base_1c b_5a b_5l b_5c i_6 m) ρ m := h
      unfold l1E at h
      obtain ⟨t_0, e0, h⟩ := h.ex
      obtain ⟨base_1a, base_1l, base_1c, e1, h⟩ := h.ex
      obtain ⟨b_5a, b_5l, b_5c, e5, h⟩ := h.ex
      obtain ⟨i_6, e6, h⟩ := h.ex
      obtain ⟨N1, hlt, h⟩ := h
      exact ⟨N1, hlt, (by show l1E (I N1) ρ m; unfold l1E; rw [e0, e1, e5, e6]; exact h)⟩
    | _ => exact h
  have hh := hs N t_0 base_1a base_1l base_1c b_5a b_5l b_5c i_6 m h
  generalize (fun t_0 base_1a base_1l base_1c b_5a b_5l b_5c i_6 m => ∃ N1, N1 < N ∧ I N1 t_0 base_1a base_1l base_1c b_5a b_5l b_5c i_6 m : Option Addr → Option Addr → Nat → Nat → Option Addr → Nat → Nat → Int → Mem → Prop) = K1 at hh ⊢
  rw [← upd_self e0, ← upd_self e1, ← upd_self e5, ← upd_self e6]
  rw [← l1_er  K1 R]
  refine acpt_sound (P := P) (l1A  K1 R) _ _ _ True.intro ?_
  exact Eq.mp (l1_eq  K1 R t_0 base_1a base_1l base_1c b_5a b_5l b_5c i_6 ρ m) hh
theorem e0_eq (t_0 : Option Addr) (base_1a : Option Addr) (base_1l : Nat) (base_1c : Nat) (R : Ending → Mem → Prop) (m : Mem) : e0 t_0 base_1a base_1l base_1c R m = acpt P od (panicR R) (e0A R) (bodyQ P fn R) (argE (#[.pointer t_0, .slice base_1a base_1l base_1c] : Array Value).toList) m := by kernel_rfl
theorem ok (t_0 : Option Addr) (base_1a : Option Addr) (base_1l : Nat) (base_1c : Nat) (R : Ending → Mem → Prop) (m : Mem) (h : e0 t_0 base_1a base_1l base_1c R m) : HC P id #[.pointer t_0, .slice base_1a base_1l base_1c] m R := by
  refine HC_of (fn := fn) (c := body) (od := od) (tb := tb) Go.Proofs.Try.func16 (by kernel_rfl) (by kernel_rfl) follows (by kernel_rfl) (of_decide_eq_true (by kernel_rfl)) ?_
  have he : (e0A R).erase = body := by kernel_rfl
  rw [← he]
  refine acpt_sound (P := P) (e0A R) _ _ _ ⟨⟨⟨True.intro, ⟨(fun ρ m h => l1_ok  R ρ m h), True.intro⟩⟩, True.intro⟩, True.intro⟩ ?_
  exact Eq.mp (e0_eq t_0 base_1a base_1l base_1c R m) h
end eyotref3_Text_Spell

/-! ### (*eyot/doc.Doc).Len -/
namespace doc_Doc_Len
noncomputable def fn : Func := Go.Proofs.Try.f17
noncomputable def body : Code := fn.body.getD .skip
def od : Nat → Ord := fun _ => .done
def tb : Nat → Tab := fun _ => (0, [], [])
def e0 (d_0 : Option Addr) (R : Ending → Mem → Prop) (m : Mem) : Prop :=
  HC P doc_Doc_none.id #[.pointer d_0] m (Cont (fun v m1 =>
      UnB v fun x4 =>
      Br x4 (
        R (.returned (.int .i64 0)) m1) (
        NilC d_0 (fun x6b x6o =>
          LdV m1 x6b (x6o + 1) fun v =>
          UnP v fun x8 =>
          HC P piece_Text_Len.id #[.pointer x8] m1 (Cont (fun v m2 =>
              UnI v .i64 fun x9 =>
              R (.returned (.int .i64 x9)) m2) (panicR R))) (R (.panicked (nilPanic P)) m1))) (panicR R))
noncomputable def e0A (R : Ending → Mem → Prop) : ACode := (.code (body))
theorem e0_eq (d_0 : Option Addr) (R : Ending → Mem → Prop) (m : Mem) : e0 d_0 R m = acpt P od (panicR R) (e0A R) (bodyQ P fn R) (argE (#[.pointer d_0] : Array Value).toList) m := by kernel_rfl
theorem ok (d_0 : Option Addr) (R : Ending → Mem → Prop) (m : Mem) (h : e0 d_0 R m) : HC P id #[.pointer d_0] m R := by
  refine HC_of (fn := fn) (c := body) (od := od) (tb := tb) Go.Proofs.Try.func17 (by kernel_rfl) (by kernel_rfl) follows (by kernel_rfl) (of_decide_eq_true (by kernel_rfl)) ?_
  have he : (e0A R).erase = body := by kernel_rfl
  rw [← he]
  refine acpt_sound (P := P) (e0A R) _ _ _ True.intro ?_
  exact Eq.mp (e0_eq d_0 R m) h
end doc_Doc_Len

/-! ### (*eyot/doc.Doc).Bytes -/
namespace doc_Doc_Bytes
noncomputable def fn : Func := Go.Proofs.Try.f18
noncomputable def fnR : Func := { fn with results := #[] }
noncomputable def body : Code := fn.body.getD .skip
def od : Nat → Ord := fun | 9 => ordL [(0, 3), (1, 1), (2, 3), (3, 3), (4, 3), (5, 3), (6, 3), (7, 3), (8, 1), (9, 3), (10, 3), (11, 3), (12, 3), (13, 3), (14, 1), (15, 3), (16, 3), (17, 3)] .done | 14 => ordL [(0, 1), (1, 3), (2, 3), (3, 3), (4, 3), (5, 2), (6, 2)] .done | 11 => ordL [(0, 1), (1, 3), (2, 3), (3, 3), (4, 1), (5, 3), (6, 3), (7, 0), (8, 3), (9, 3), (10, 0), (11, 2), (12, 2)] .done | _ => .done
def tb : Nat → Tab := fun | 9 => (0, [0, 1, 0, 0, 12, 28, 63, 0, 128, 0, 896, 0, 3968, 0, 8192, 32640, 127, 131071], [(0, 2048, 48), (1, 140737488355328, 49), (0, 2, 50), (0, 512, 51), (12, 1688849860263936, 52), (16, 2251799813685248, 53), (34, 4785074604081152, 54), (0, 2048, 55), (128, 18014398509481984, 56), (0, 4, 57), (768, 108086391056891904, 58), (0, 512, 59), (3072, 432345564227567616, 60), (0, 2048, 61), (8192, 1152921504606846976, 62), (20480, 2882303761517117440, 63), (127, 9007199254740992, 13), (131071, 4611686018427387904, 14)]) | 14 => (96, [0, 0, 0, 0, 14, 31, 63], [(0, 64, 90), (0, 256, 91), (0, 4096, 92), (0, 8192, 93), (14, 8665580274997661924293869568, 94), (17, 10522490333925732336642555904, 95), (63, 19807040628566084398385987648, 0)]) | 11 => (6144, [0, 0, 2, 6, 14, 0, 0, 126, 254, 254, 1022, 2047, 4095], [(0, 64, 71), (0, 1, 72), (2, 2361183241434822606848, 73), (4, 4722366482869645213696, 74), (8, 9444732965739290427392, 75), (0, 4096, 76), (0, 8192, 77), (112, 132226261520350065983488, 78), (128, 151115727451828646838272, 79), (128, 151115727451828646838272, 80), (896, 906694364710971881029632, 81), (1025, 1210106411235346586009600, 82), (4095, 2417851639229258349412416, 0)]) | _ => (0, [], [])
def k3E (K : Option Addr → Int → Int → Nat → Nat → Nat → Nat → Option Addr → Nat → Nat → Int → Nat → Nat → Int → Int → Option Addr → Nat → Nat → Int → Int → Mem → Prop) : Env → Mem → Prop := fun ρ m => UnP (ρ 0) fun x0 => UnI (ρ 1) .i64 fun x1 => UnI (ρ 2) .i64 fun x2 => UnPA (ρ 6) fun x6b x6o => UnPA (ρ 7) fun x7b x7o => UnS (ρ 8) fun x8a x8l x8c => UnI (ρ 9) .i64 fun x9 => UnPA (ρ 11) fun x11b x11o => UnI (ρ 12) .i64 fun x12 => UnI (ρ 13) .i64 fun x13 => UnS (ρ 41) fun x41a x41l x41c => UnI (ρ 42) .i64 fun x42 => UnI (ρ 43) .i64 fun x43 => K x0 x1 x2 x6b x6o x7b x7o x8a x8l x8c x9 x11b x11o x12 x13 x41a x41l x41c x42 x43 m
def k3 (K2 : Option Addr → Int → Int → Nat → Nat → Nat → Nat → Option Addr → Nat → Nat → Int → Option Addr → Nat → Nat → Int → Int → Mem → Prop) (x0 : Option Addr) (x1 : Int) (x2 : Int) (x6b : Nat) (x6o : Nat) (x7b : Nat) (x7o : Nat) (x8a : Option Addr) (x8l : Nat) (x8c : Nat) (x9 : Int) (x11b : Nat) (x11o : Nat) (x12 : Int) (x13 : Int) (x41a : Option Addr) (x41l : Nat) (x41c : Nat) (x42 : Int) (x43 : Int) (R : Ending → Mem → Prop) (m : Mem) : Prop :=
  LdV m x11b (x11o + 2) fun v =>
  UnI v .i64 fun x65 =>
  LdV m x11b (x11o + 1) fun v =>
  UnI v .i64 fun x67 =>
  Br (decide (x12 ≥ x13)) (
    K2 x0 x1 x2 x6b x6o x7b x7o x8a x8l x8c (IntKind.i64.wrap (x9 + (IntKind.i64.wrap (x65 - x67)))) x41a x41l x41c x42 (IntKind.i64.wrap (x43 + 1)) m) (
    LdV m x11b x11o fun v =>
    UnB v fun x88 =>
    Br x88 (
      Sub m fun r1 =>
      LdV r1 x6b x6o fun v =>
      UnS v fun x89a x89l x89c =>
      SlS x8a x8c x12 x13 1 fun x93a x93l x93c =>
      BiN P .append #[T_sl_uint8, T_sl_uint8] T_sl_uint8 #[false, false] #[.slice x89a x89l x89c, .slice x93a x93l x93c] m (fun w m2 =>
        UnS w fun x94a x94l x94c =>
        St1 m2 x6b x6o (.slice x94a x94l x94c) fun m3 =>
        K2 x0 x1 x2 x6b x6o x7b x7o x8a x8l x8c (IntKind.i64.wrap (x9 + (IntKind.i64.wrap (x65 - x67)))) x41a x41l x41c x42 (IntKind.i64.wrap (x43 + 1)) m3) (panicR R)) (
      Sub m fun r1 =>
      LdV r1 x6b x6o fun v =>
      UnS v fun x70a x70l x70c =>
      NilC x0 (fun x72b x72o =>
        LdV r1 x72b x72o fun v =>
        UnP v fun x74 =>
        HC P file_File_Bytes.id #[.pointer x74, .int .i64 x12, .int .i64 x13] m (Cont (fun v m2 =>
            UnTup v fun us0 =>
            UnCons us0 fun w us1 =>
            UnS w fun x77_0a x77_0l x77_0c =>
            UnCons us1 fun w us2 =>
            UnI w .i64 fun x77_1 =>
            UnNil us2 (
              Lk r1 m2 fun r3 =>
              HC P doc_must.id #[.slice x77_0a x77_0l x77_0c, .int .i64 x77_1] m2 (Cont (fun v m4 =>
                  UnS v fun x80a x80l x80c =>
                  Lk r3 m4 fun r5 =>
                  BiN P .append #[T_sl_uint8, T_sl_uint8] T_sl_uint8 #[false, false] #[.slice x70a x70l x70c, .slice x80a x80l x80c] m4 (fun w m6 =>
                    UnS w fun x81a x81l x81c =>
                    St1 m6 x6b x6o (.slice x81a x81l x81c) fun m7 =>
                    K2 x0 x1 x2 x6b x6o x7b x7o x8a x8l x8c (IntKind.i64.wrap (x9 + (IntKind.i64.wrap (x65 - x67)))) x41a x41l x41c x42 (IntKind.i64.wrap (x43 + 1)) m7) (panicR R)) (panicR R)))) (panicR R))) (False)))
noncomputable def k3A (K2 : Option Addr → Int → Int → Nat → Nat → Nat → Nat → Option Addr → Nat → Nat → Int → Option Addr → Nat → Nat → Int → Int → Mem → Prop) (R : Ending → Mem → Prop) : ACode := (.code (sR (sR (bB (sL (sR (sR (lP (bB (sR (sL (sR (sR (sR (sR (sR (body)))))))))))))))))
def l2E (K : Option Addr → Int → Int → Nat → Nat → Nat → Nat → Option Addr → Nat → Nat → Int → Option Addr → Nat → Nat → Int → Int → Mem → Prop) : Env → Mem → Prop := fun ρ m => UnP (ρ 0) fun x0 => UnI (ρ 1) .i64 fun x1 => UnI (ρ 2) .i64 fun x2 => UnPA (ρ 6) fun x6b x6o => UnPA (ρ 7) fun x7b x7o => UnS (ρ 8) fun x8a x8l x8c => UnI (ρ 9) .i64 fun x9 => UnS (ρ 41) fun x41a x41l x41c => UnI (ρ 42) .i64 fun x42 => UnI (ρ 43) .i64 fun x43 => K x0 x1 x2 x6b x6o x7b x7o x8a x8l x8c x9 x41a x41l x41c x42 x43 m
def l2B  (K2 : Option Addr → Int → Int → Nat → Nat → Nat → Nat → Option Addr → Nat → Nat → Int → Option Addr → Nat → Nat → Int → Int → Mem → Prop) (x0 : Option Addr) (x1 : Int) (x2 : Int) (x6b : Nat) (x6o : Nat) (x7b : Nat) (x7o : Nat) (x8a : Option Addr) (x8l : Nat) (x8c : Nat) (x9 : Int) (x41a : Option Addr) (x41l : Nat) (x41c : Nat) (x42 : Int) (x43 : Int) (R : Ending → Mem → Prop) (m : Mem) : Prop :=
  Br (decide (x43 < x42)) (
    IxS x41a x41l x43 3 fun x45b x45o =>
    LdV m x45b x45o fun v =>
    UnB v fun x46_0 =>
    LdV m x45b (x45o + 1) fun v =>
    UnI v .i64 fun x46_1 =>
    LdV m x45b (x45o + 2) fun v =>
    UnI v .i64 fun x46_2 =>
    NewC m #[.bool false, .int .i64 0, .int .i64 0] T_api_Piece fun b11 m1 =>
    St1 m1 b11 0 (.bool x46_0) fun m2 =>
    St1 m2 b11 1 (.int .i64 x46_1) fun m3 =>
    St1 m3 b11 2 (.int .i64 x46_2) fun m4 =>
    Sub m4 fun r5 =>
    LdV r5 b11 1 fun v =>
    UnI v .i64 fun x48 =>
    LdV r5 b11 1 fun v =>
    UnI v .i64 fun x55 =>
    LdV r5 b11 2 fun v =>
    UnI v .i64 fun x61 =>
    k3 K2 x0 x1 x2 x6b x6o x7b x7o x8a x8l x8c x9 b11 0 (IntKind.i64.wrap (x48 + (if 0 > (IntKind.i64.wrap (x1 - x9)) then 0 else IntKind.i64.wrap (x1 - x9)))) (if x61 < (IntKind.i64.wrap ((IntKind.i64.wrap (x55 + x2)) - x9)) then x61 else IntKind.i64.wrap ((IntKind.i64.wrap (x55 + x2)) - x9)) x41a x41l x41c x42 x43 R m4) (
    LdV m x6b x6o fun v =>
    UnS v fun x96a x96l x96c =>
    St1 m x6b x6o (.slice x96a x96l x96c) fun m1 =>
    St1 m1 x7b x7o (.int .i64 0) fun m2 =>
    R (.returned (.tuple #[])) m2)
def l2  (x0 : Option Addr) (x1 : Int) (x2 : Int) (x6b : Nat) (x6o : Nat) (x7b : Nat) (x7o : Nat) (x8a : Option Addr) (x8l : Nat) (x8c : Nat) (x9 : Int) (x41a : Option Addr) (x41l : Nat) (x41c : Nat) (x42 : Int) (x43 : Int) (R : Ending → Mem → Prop) (m : Mem) : Prop :=
  ∃ (I : Nat → Option Addr → Int → Int → Nat → Nat → Nat → Nat → Option Addr → Nat → Nat → Int → Option Addr → Nat → Nat → Int → Int → Mem → Prop) (N : Nat), I N x0 x1 x2 x6b x6o x7b x7o x8a x8l x8c x9 x41a x41l x41c x42 x43 m ∧ ∀ N x0 x1 x2 x6b x6o x7b x7o x8a x8l x8c x9 x41a x41l x41c x42 x43 m, I N x0 x1 x2 x6b x6o x7b x7o x8a x8l x8c x9 x41a x41l x41c x42 x43 m → l2B  (fun x0 x1 x2 x6b x6o x7b x7o x8a x8l x8c x9 x41a x41l x41c x42 x43 m => ∃ N1, N1 < N ∧ I N1 x0 x1 x2 x6b x6o x7b x7o x8a x8l x8c x9 x41a x41l x41c x42 x43 m) x0 x1 x2 x6b x6o x7b x7o x8a x8l x8c x9 x41a x41l x41c x42 x43 R m
noncomputable def l2A  (K2 : Option Addr → Int → Int → Nat → Nat → Nat → Nat → Option Addr → Nat → Nat → Int → Option Addr → Nat → Nat → Int → Int → Mem → Prop) (R : Ending → Mem → Prop) : ACode := (.seq (.code (sL (lP (bB (sR (sL (sR (sR (sR (sR (sR (body)))))))))))) (.seq (.code (sL (sR (lP (bB (sR (sL (sR (sR (sR (sR (sR (body))))))))))))) (.seq (.block 1 (.seq (.code (sL (bB (sL (sR (sR (lP (bB (sR (sL (sR (sR (sR (sR (sR (body)))))))))))))))) (.seq (.code (sL (sR (bB (sL (sR (sR (lP (bB (sR (sL (sR (sR (sR (sR (sR (body))))))))))))))))) (.cut (k3E fun x0 x1 x2 x6b x6o x7b x7o x8a x8l x8c x9 x11b x11o x12 x13 x41a x41l x41c x42 x43 m => k3 K2 x0 x1 x2 x6b x6o x7b x7o x8a x8l x8c x9 x11b x11o x12 x13 x41a x41l x41c x42 x43 R m) (sR (sR (bB (sL (sR (sR (lP (bB (sR (sL (sR (sR (sR (sR (sR (body)))))))))))))))))))) (.code (sR (sR (sR (lP (bB (sR (sL (sR (sR (sR (sR (sR (body)))))))))))))))))
def k1E (K : Option Addr → Int → Int → Nat → Nat → Nat → Nat → Mem → Prop) : Env → Mem → Prop := fun ρ m => UnP (ρ 0) fun x0 => UnI (ρ 1) .i64 fun x1 => UnI (ρ 2) .i64 fun x2 => UnPA (ρ 6) fun x6b x6o => UnPA (ρ 7) fun x7b x7o => K x0 x1 x2 x6b x6o x7b x7o m
def k1  (x0 : Option Addr) (x1 : Int) (x2 : Int) (x6b : Nat) (x6o : Nat) (x7b : Nat) (x7o : Nat) (R : Ending → Mem → Prop) (m : Mem) : Prop :=
  NilC x0 (fun x33b x33o =>
    LdV m x33b (x33o + 1) fun v =>
    UnP v fun x35 =>
    HC P piece_Text_Added.id #[.pointer x35] m (Cont (fun v m1 =>
        UnS v fun x36a x36l x36c =>
        NilC x0 (fun x38b x38o =>
          LdV m1 x38b (x38o + 1) fun v =>
          UnP v fun x40 =>
          HC P piece_Text_Pieces.id #[.pointer x40] m1 (Cont (fun v m2 =>
              UnS v fun x41a x41l x41c =>
              l2  x0 x1 x2 x6b x6o x7b x7o x36a x36l x36c 0 x41a x41l x41c ((x41l : Nat) : Int) 0 R m2) (panicR R))) (R (.panicked (nilPanic P)) m1)) (panicR R))) (R (.panicked (nilPanic P)) m)
noncomputable def k1A  (R : Ending → Mem → Prop) : ACode := (.seq (.code (sL (sR (sR (sR (body)))))) (.seq (.code (sL (sR (sR (sR (sR (body))))))) (.seq (.seq (.code (sL (sL (sR (sR (sR (sR (sR (body))))))))) (.block 0 (.cut (l2E fun x0 x1 x2 x6b x6o x7b x7o x8a x8l x8c x9 x41a x41l x41c x42 x43 m => l2  x0 x1 x2 x6b x6o x7b x7o x8a x8l x8c x9 x41a x41l x41c x42 x43 R m) (.loop (lP (bB (sR (sL (sR (sR (sR (sR (sR (body)))))))))))))) (.code (sR (sR (sR (sR (sR (sR (body)))))))))))
theorem k3_eq (K2 : Option Addr → Int → Int → Nat → Nat → Nat → Nat → Option Addr → Nat → Nat → Int → Option Addr → Nat → Nat → Int → Int → Mem → Prop) (R : Ending → Mem → Prop) (x0 : Option Addr) (x1 : Int) (x2 : Int) (x6b : Nat) (x6o : Nat) (x7b : Nat) (x7o : Nat) (x8a : Option Addr) (x8l : Nat) (x8c : Nat) (x9 : Int) (x11b : Nat) (x11o : Nat) (x12 : Int) (x13 : Int) (x41a : Option Addr) (x41l : Nat) (x41c : Nat) (x42 : Int) (x43 : Int) (ρ : Env) (m : Mem) : k3 K2 x0 x1 x2 x6b x6o x7b x7o x8a x8l x8c x9 x11b x11o x12 x13 x41a x41l x41c x42 x43 R m = acpt P od (panicR R) (k3A K2 R) (blockQ 1 (thenQ (acpt P od (panicR R) (.code (sR (sR (sR (lP (bB (sR (sL (sR (sR (sR (sR (sR (body)))))))))))))) (thenQ (l2E K2) (blockQ 0 (thenQ (acpt P od (panicR R) (.code (sR (sR (sR (sR (sR (sR (body)))))))) (bodyQ P fnR R)) (bodyQ P fnR R))))) (thenQ (l2E K2) (blockQ 0 (thenQ (acpt P od (panicR R) (.code (sR (sR (sR (sR (sR (sR (body)))))))) (bodyQ P fnR R)) (bodyQ P fnR R)))))) (upd (upd (upd (upd (upd (upd (upd (upd (upd (upd (upd (upd (upd ρ 43 (.int .i64 x43)) 42 (.int .i64 x42)) 41 (.slice x41a x41l x41c)) 13 (.int .i64 x13)) 12 (.int .i64 x12)) 11 (.pointer (some ⟨x11b, x11o, none⟩))) 9 (.int .i64 x9)) 8 (.slice x8a x8l x8c)) 7 (.pointer (some ⟨x7b, x7o, none⟩))) 6 (.pointer (some ⟨x6b, x6o, none⟩))) 2 (.int .i64 x2)) 1 (.int .i64 x1)) 0 (.pointer x0)) m := by kernel_rfl
theorem k3_er (K2 : Option Addr → Int → Int → Nat → Nat → Nat → Nat → Option Addr → Nat → Nat → Int → Option Addr → Nat → Nat → Int → Int → Mem → Prop) (R : Ending → Mem → Prop) : (k3A K2 R).erase = sR (sR (bB (sL (sR (sR (lP (bB (sR (sL (sR (sR (sR (sR (sR (body))))))))))))))) := by kernel_rfl
theorem k3_ok (K2 : Option Addr → Int → Int → Nat → Nat → Nat → Nat → Option Addr → Nat → Nat → Int → Option Addr → Nat → Nat → Int → Int → Mem → Prop) (R : Ending → Mem → Prop) (ρ : Env) (m : Mem) (h : (k3E fun x0 x1 x2 x6b x6o x7b x7o x8a x8l x8c x9 x11b x11o x12 x13 x41a x41l x41c x42 x43 m => k3 K2 x0 x1 x2 x6b x6o x7b x7o x8a x8l x8c x9 x11b x11o x12 x13 x41a x41l x41c x42 x43 R m) ρ m) : cpt P od (panicR R) (sR (sR (bB (sL (sR (sR (lP (bB (sR (sL (sR (sR (sR (sR (sR (body)))))))))))))))) (blockQ 1 (thenQ (acpt P od (panicR R) (.code (sR (sR (sR (lP (bB (sR (sL (sR (sR (sR (sR (sR (body)))))))))))))) (thenQ (l2E K2) (blockQ 0 (thenQ (acpt P od (panicR R) (.code (sR (sR (sR (sR (sR (sR (body)))))))) (bodyQ P fnR R)) (bodyQ P fnR R))))) (thenQ (l2E K2) (blockQ 0 (thenQ (acpt P od (panicR R) (.code (sR (sR (sR (sR (sR (sR (body)))))))) (bodyQ P fnR R)) (bodyQ P fnR R)))))) ρ m := by
  unfold k3E at h
  obtain ⟨x0, e0, h⟩ := h.ex
  obtain ⟨x1, e1, h⟩ := h.ex
  obtain ⟨x2, e2, h⟩ := h.ex
  obtain ⟨x6b, x6o, e6, h⟩ := h.ex
  obtain ⟨x7b, x7o, e7, h⟩ := h.ex
  obtain ⟨x8a, x8l, x8c, e8, h⟩ := h.ex
  obtain ⟨x9, e9, h⟩ := h.ex
  obtain ⟨x11b, x11o, e11, h⟩ := h.ex
  obtain ⟨x12, e12, h⟩ := h.ex
  obtain ⟨x13, e13, h⟩ := h.ex
  obtain ⟨x41a, x41l, x41c, e41, h⟩ := h.ex
  obtain ⟨x42, e42, h⟩ := h.ex
  obtain ⟨x43, e43, h⟩ := h.ex
  rw [← upd_self e0, ← upd_self e1, ← upd_self e2, ← upd_self e6, ← upd_self e7, ← upd_self e8, ← upd_self e9, ← upd_self e11, ← upd_self e12, ← upd_self e13, ← upd_self e41, ← upd_self e42, ← upd_self e43]
  rw [← k3_er K2 R]
  refine acpt_sound (P := P) (k3A K2 R) _ _ _ True.intro ?_
  exact Eq.mp (k3_eq K2 R x0 x1 x2 x6b x6o x7b x7o x8a x8l x8c x9 x11b x11o x12 x13 x41a x41l x41c x42 x43 ρ m) h
theorem l2_eq  (K2 : Option Addr → Int → Int → Nat → Nat → Nat → Nat → Option Addr → Nat → Nat → Int → Option Addr → Nat → Nat → Int → Int → Mem → Prop) (R : Ending → Mem → Prop) (x0 : Option Addr) (x1 : Int) (x2 : Int) (x6b : Nat) (x6o : Nat) (x7b : Nat) (x7o : Nat) (x8a : Option Addr) (x8l : Nat) (x8c : Nat) (x9 : Int) (x41a : Option Addr) (x41l : Nat) (x41c : Nat) (x42 : Int) (x43 : Int) (ρ : Env) (m : Mem) : l2B  K2 x0 x1 x2 x6b x6o x7b x7o x8a x8l x8c x9 x41a x41l x41c x42 x43 R m = acpt P od (panicR R) (l2A  K2 R) (thenQ (l2E K2) (blockQ 0 (thenQ (acpt P od (panicR R) (.code (sR (sR (sR (sR (sR (sR (body)))))))) (bodyQ P fnR R)) (bodyQ P fnR R)))) (upd (upd (upd (upd (upd (upd (upd (upd (upd (upd ρ 43 (.int .i64 x43)) 42 (.int .i64 x42)) 41 (.slice x41a x41l x41c)) 9 (.int .i64 x9)) 8 (.slice x8a x8l x8c)) 7 (.pointer (some ⟨x7b, x7o, none⟩))) 6 (.pointer (some ⟨x6b, x6o, none⟩))) 2 (.int .i64 x2)) 1 (.int .i64 x1)) 0 (.pointer x0)) m := by kernel_rfl
theorem l2_er  (K2 : Option Addr → Int → Int → Nat → Nat → Nat → Nat → Option Addr → Nat → Nat → Int → Option Addr → Nat → Nat → Int → Int → Mem → Prop) (R : Ending → Mem → Prop) : (l2A  K2 R).erase = lP (bB (sR (sL (sR (sR (sR (sR (sR (body))))))))) := by kernel_rfl
theorem l2_ok  (R : Ending → Mem → Prop) (ρ : Env) (m : Mem) (h : (l2E fun x0 x1 x2 x6b x6o x7b x7o x8a x8l x8c x9 x41a x41l x41c x42 x43 m => l2  x0 x1 x2 x6b x6o x7b x7o x8a x8l x8c x9 x41a x41l x41c x42 x43 R m) ρ m) : cpt P od (panicR R) (.loop (lP (bB (sR (sL (sR (sR (sR (sR (sR (body))))))))))) (blockQ 0 (thenQ (acpt P od (panicR R) (.code (sR (sR (sR (sR (sR (sR (body)))))))) (bodyQ P fnR R)) (bodyQ P fnR R))) ρ m := by
  unfold l2E at h
  obtain ⟨x0, e0, h⟩ := h.ex
  obtain ⟨x1, e1, h⟩ := h.ex
  obtain ⟨x2, e2, h⟩ := h.ex
  obtain ⟨x6b, x6o, e6, h⟩ := h.ex
  obtain ⟨x7b, x7o, e7, h⟩ := h.ex
  obtain ⟨x8a, x8l, x8c, e8, h⟩ := h.ex
  obtain ⟨x9, e9, h⟩ := h.ex
  obtain ⟨x41a, x41l, x41c, e41, h⟩ := h.ex
  obtain ⟨x42, e42, h⟩ := h.ex
  obtain ⟨x43, e43, h⟩ := h.ex
  obtain ⟨I, N, h0, hs⟩ := h
  refine ⟨fun N => l2E (I N), N, (by show l2E (I N) ρ m; unfold l2E; rw [e0, e1, e2, e6, e7, e8, e9, e41, e42, e43]; exact h0), ?_⟩
  clear h0 e0 e1 e2 e6 e7 e8 e9 e41 e42 e43
  intro N ρ m h
  unfold l2E at h
  obtain ⟨x0, e0, h⟩ := h.ex
  obtain ⟨x1, e1, h⟩ := h.ex
  obtain ⟨x2, e2, h⟩ := h.ex
  obtain ⟨x6b, x6o, e6, h⟩ := h.ex
  obtain ⟨x7b, x7o, e7, h⟩ := h.ex
  obtain ⟨x8a, x8l, x8c, e8, h⟩ := h.ex
  obtain ⟨x9, e9, h⟩ := h.ex
  obtain ⟨x41a, x41l, x41c, e41, h⟩ := h.ex
  obtain ⟨x42, e42, h⟩ := h.ex
  obtain ⟨x43, e43, h⟩ := h.ex
  refine cpt_mono (P := P) (lP (bB (sR (sL (sR (sR (sR (sR (sR (body)))))))))) (Q := thenQ (l2E fun x0 x1 x2 x6b x6o x7b x7o x8a x8l x8c x9 x41a x41l x41c x42 x43 m => ∃ N1, N1 < N ∧ I N1 x0 x1 x2 x6b x6o x7b x7o x8a x8l x8c x9 x41a x41l x41c x42 x43 m) (blockQ 0 (thenQ (acpt P od (panicR R) (.code (sR (sR (sR (sR (sR (sR (body)))))))) (bodyQ P fnR R)) (bodyQ P fnR R)))) (fun e ρ m h => ?_) ρ m ?_
  · cases e with
    | normal =>
      have h : l2E (fun x0 x1 x2 x6b x6o x7b x7o x8a x8l x8c x9 x41a x41l x41c x42 x43 m => ∃ N1, N1 < N ∧ I N1 x0 x1 x2 x6b x6o x7b x7o x8a x8l x8c x9 x41a x41l x41c x42 x43 m) ρ m := h
      unfold l2E at h
      obtain ⟨x0, e0, h⟩ := h.ex
      obtain ⟨x1, e1, h⟩ := h.ex
      obtain ⟨x2, e2, h⟩ := h.ex
      obtain ⟨x6b, x6o, e6, h⟩ := h.ex
      obtain ⟨x7b, x7o, e7, h⟩ := h.ex
      obtain ⟨x8a, x8l, x8c, e8, h⟩ := h.ex
      obtain ⟨x9, e9, h⟩ := h.ex
      obtain ⟨x41a, x41l, x41c, e41, h⟩ := h.ex
      obtain ⟨x42, e42, h⟩ := h.ex
      obtain ⟨x43, e43, h⟩ := h.ex
      obtain ⟨N1, hlt, h⟩ := h
      exact ⟨N1, hlt, (by show l2E (I N1) ρ m; unfold l2E; rw [e0, e1, e2, e6, e7, e8, e9, e41, e42, e43]; exact h)⟩
    | _ => exact h
  have hh := hs N x0 x1 x2 x6b x6o x7b x7o x8a x8l x8c x9 x41a x41l x41c x42 x43 m h
  generalize (fun x0 x1 x2 x6b x6o x7b x7o x8a x8l x8c x9 x41a x41l x41c x42 x43 m => ∃ N1, N1 < N ∧ I N1 x0 x1 x2 x6b x6o x7b x7o x8a x8l x8c x9 x41a x41l x41c x42 x43 m : Option Addr → Int → Int → Nat → Nat → Nat → Nat → Option Addr → Nat → Nat → Int → Option Addr → Nat → Nat → Int → Int → Mem → Prop) = K2 at hh ⊢
  rw [← upd_self e0, ← upd_self e1, ← upd_self e2, ← upd_self e6, ← upd_self e7, ← upd_self e8, ← upd_self e9, ← upd_self e41, ← upd_self e42, ← upd_self e43]
  rw [← l2_er  K2 R]
  refine acpt_sound (P := P) (l2A  K2 R) _ _ _ ⟨⟨⟨True.intro, ⟨⟨(fun ρ m h => k3_ok K2 R ρ m h), True.intro⟩, True.intro⟩⟩, True.intro⟩, True.intro⟩ ?_
  exact Eq.mp (l2_eq  K2 R x0 x1 x2 x6b x6o x7b x7o x8a x8l x8c x9 x41a x41l x41c x42 x43 ρ m) hh
theorem k1_eq  (R : Ending → Mem → Prop) (x0 : Option Addr) (x1 : Int) (x2 : Int) (x6b : Nat) (x6o : Nat) (x7b : Nat) (x7o : Nat) (ρ : Env) (m : Mem) : k1  x0 x1 x2 x6b x6o x7b x7o R m = acpt P od (panicR R) (k1A  R) (bodyQ P fnR R) (upd (upd (upd (upd (upd ρ 7 (.pointer (some ⟨x7b, x7o, none⟩))) 6 (.pointer (some ⟨x6b, x6o, none⟩))) 2 (.int .i64 x2)) 1 (.int .i64 x1)) 0 (.pointer x0)) m := by kernel_rfl
theorem k1_er  (R : Ending → Mem → Prop) : (k1A  R).erase = sR (sR (sR (body))) := by kernel_rfl
theorem k1_ok  (R : Ending → Mem → Prop) (ρ : Env) (m : Mem) (h : (k1E fun x0 x1 x2 x6b x6o x7b x7o m => k1  x0 x1 x2 x6b x6o x7b x7o R m) ρ m) : cpt P od (panicR R) (sR (sR (sR (body)))) (bodyQ P fnR R) ρ m := by
  unfold k1E at h
  obtain ⟨x0, e0, h⟩ := h.ex
  obtain ⟨x1, e1, h⟩ := h.ex
  obtain ⟨x2, e2, h⟩ := h.ex
  obtain ⟨x6b, x6o, e6, h⟩ := h.ex
  obtain ⟨x7b, x7o, e7, h⟩ := h.ex
  rw [← upd_self e0, ← upd_self e1, ← upd_self e2, ← upd_self e6, ← upd_self e7]
  rw [← k1_er  R]
  refine acpt_sound (P := P) (k1A  R) _ _ _ ⟨⟨⟨True.intro, ⟨(fun ρ m h => l2_ok  R ρ m h), True.intro⟩⟩, True.intro⟩, True.intro⟩ ?_
  exact Eq.mp (k1_eq  R x0 x1 x2 x6b x6o x7b x7o ρ m) h
/-- Reading the results. -/
def out (d6b : Nat) (d6o : Nat) (d7b : Nat) (d7o : Nat) (R : Ending → Mem → Prop) (m : Mem) : Prop :=
  LdV m d6b d6o fun v =>
  UnS v fun res0a res0l res0c =>
  LdV m d7b d7o fun v =>
  UnI v .i64 fun res1 =>
  R (.returned (.tuple #[.slice res0a res0l res0c, .int .i64 res1])) m
def p0 (a0 : Option Addr) (a1 : Int) (a2 : Int) (R : Ending → Mem → Prop) (KK : Option Addr → Int → Int → Nat → Nat → Nat → Nat → Mem → Prop) (m : Mem) : Prop :=
  NewC m #[.slice none 0 0] T_sl_uint8 fun b6 m1 =>
  NewC m1 #[.int .i64 0] T_api_Errno fun b7 m2 =>
  HC P doc_Doc_none.id #[.pointer a0] m2 (Cont (fun v m3 =>
      UnB v fun x15 =>
      Br x15 (
        St1 m3 b6 0 (.slice none 0 0) fun m4 =>
        St1 m4 b7 0 (.int .i64 1) fun m5 =>
        LdV m5 b6 0 fun v =>
        UnS v fun res0a res0l res0c =>
        LdV m5 b7 0 fun v =>
        UnI v .i64 fun res1 =>
        R (.returned (.tuple #[.slice res0a res0l res0c, .int .i64 res1])) m5) (
        Br (decide (a1 < 0)) (
          St1 m3 b6 0 (.slice none 0 0) fun m4 =>
          St1 m4 b7 0 (.int .i64 1) fun m5 =>
          LdV m5 b6 0 fun v =>
          UnS v fun res0a res0l res0c =>
          LdV m5 b7 0 fun v =>
          UnI v .i64 fun res1 =>
          R (.returned (.tuple #[.slice res0a res0l res0c, .int .i64 res1])) m5) (
          Br (decide (a1 > a2)) (
            St1 m3 b6 0 (.slice none 0 0) fun m4 =>
            St1 m4 b7 0 (.int .i64 1) fun m5 =>
            LdV m5 b6 0 fun v =>
            UnS v fun res0a res0l res0c =>
            LdV m5 b7 0 fun v =>
            UnI v .i64 fun res1 =>
            R (.returned (.tuple #[.slice res0a res0l res0c, .int .i64 res1])) m5) (
            HC P doc_Doc_Len.id #[.pointer a0] m3 (Cont (fun v m4 =>
                UnI v .i64 fun x28 =>
                Br (decide (a2 > x28)) (
                  St1 m4 b6 0 (.slice none 0 0) fun m5 =>
                  St1 m5 b7 0 (.int .i64 1) fun m6 =>
                  LdV m6 b6 0 fun v =>
                  UnS v fun res0a res0l res0c =>
                  LdV m6 b7 0 fun v =>
                  UnI v .i64 fun res1 =>
                  R (.returned (.tuple #[.slice res0a res0l res0c, .int .i64 res1])) m6) (
                  KK a0 a1 a2 b6 0 b7 0 m4)) (panicR R)))))) (panicR R))
/-- The rest, its end told by the deferred call. -/
def rest0 (x0 : Option Addr) (x1 : Int) (x2 : Int) (x6b : Nat) (x6o : Nat) (x7b : Nat) (x7o : Nat) (R : Ending → Mem → Prop) (m : Mem) : Prop := k1 x0 x1 x2 x6b x6o x7b x7o (DefR P doc_Doc_Bytes_1.id #[.pointer (some ⟨x6b, x6o, none⟩), .pointer (some ⟨x7b, x7o, none⟩)] (out x6b x6o x7b x7o R)) m
theorem p0_eq (a0 : Option Addr) (a1 : Int) (a2 : Int) (R : Ending → Mem → Prop) (KK : Option Addr → Int → Int → Nat → Nat → Nat → Nat → Mem → Prop) (m : Mem) : p0 a0 a1 a2 R KK m = cpt P od (panicR R) (sL (body)) (aheadQ P fn R (fun ρ m => cpt P od (panicR R) (sL (sR (body))) (aheadQ P fn R (k1E KK)) ρ m)) (argE (#[.pointer a0, .int .i64 a1, .int .i64 a2] : Array Value).toList) m := by kernel_rfl
theorem cok : codeOk P od tb 8 fn.ntmps (sR (sR (sR (body)))) = true := by kernel_rfl
theorem rest_eq (x0 : Option Addr) (x1 : Int) (x2 : Int) (x6b : Nat) (x6o : Nat) (x7b : Nat) (x7o : Nat) (R : Ending → Mem → Prop) (ρ : Env) (m : Mem) : rest0 x0 x1 x2 x6b x6o x7b x7o R m = (k1E fun ux0 ux1 ux2 ux6b ux6o ux7b ux7o m => k1 ux0 ux1 ux2 ux6b ux6o ux7b ux7o (DefR P doc_Doc_Bytes_1.id #[.pointer (some ⟨x6b, x6o, none⟩), .pointer (some ⟨x7b, x7o, none⟩)] (out x6b x6o x7b x7o R)) m) (upd (upd (upd (upd (upd (upd ρ 7 (.pointer (some ⟨x7b, x7o, none⟩))) 6 (.pointer (some ⟨x6b, x6o, none⟩))) 2 (.int .i64 x2)) 1 (.int .i64 x1)) 0 (.pointer x0)) 31 (.func (.func 30) #[] #[.pointer (some ⟨x6b, x6o, none⟩), .pointer (some ⟨x7b, x7o, none⟩)])) m := by kernel_rfl
theorem rest_ok (x0 : Option Addr) (x1 : Int) (x2 : Int) (x6b : Nat) (x6o : Nat) (x7b : Nat) (x7o : Nat) (R : Ending → Mem → Prop) (ρ : Env) (m : Mem) (h : rest0 x0 x1 x2 x6b x6o x7b x7o R m) : cpt P od (panicR (DefR P doc_Doc_Bytes_1.id #[.pointer (some ⟨x6b, x6o, none⟩), .pointer (some ⟨x7b, x7o, none⟩)] (out x6b x6o x7b x7o R))) (sR (sR (sR (body)))) (bodyQ P fnR (DefR P doc_Doc_Bytes_1.id #[.pointer (some ⟨x6b, x6o, none⟩), .pointer (some ⟨x7b, x7o, none⟩)] (out x6b x6o x7b x7o R))) (upd (upd (upd (upd (upd (upd ρ 7 (.pointer (some ⟨x7b, x7o, none⟩))) 6 (.pointer (some ⟨x6b, x6o, none⟩))) 2 (.int .i64 x2)) 1 (.int .i64 x1)) 0 (.pointer x0)) 31 (.func (.func 30) #[] #[.pointer (some ⟨x6b, x6o, none⟩), .pointer (some ⟨x7b, x7o, none⟩)])) m := k1_ok (DefR P doc_Doc_Bytes_1.id #[.pointer (some ⟨x6b, x6o, none⟩), .pointer (some ⟨x7b, x7o, none⟩)] (out x6b x6o x7b x7o R)) (upd (upd (upd (upd (upd (upd ρ 7 (.pointer (some ⟨x7b, x7o, none⟩))) 6 (.pointer (some ⟨x6b, x6o, none⟩))) 2 (.int .i64 x2)) 1 (.int .i64 x1)) 0 (.pointer x0)) 31 (.func (.func 30) #[] #[.pointer (some ⟨x6b, x6o, none⟩), .pointer (some ⟨x7b, x7o, none⟩)])) m (Eq.mp (rest_eq x0 x1 x2 x6b x6o x7b x7o R ρ m) h)
theorem rest_eq2 (x0 : Option Addr) (x1 : Int) (x2 : Int) (x6b : Nat) (x6o : Nat) (x7b : Nat) (x7o : Nat) (R : Ending → Mem → Prop) (ρ : Env) (m : Mem) : cpt P od (panicR (DefR P doc_Doc_Bytes_1.id #[.pointer (some ⟨x6b, x6o, none⟩), .pointer (some ⟨x7b, x7o, none⟩)] (out x6b x6o x7b x7o R))) (sR (sR (sR (body)))) (bodyQ P fnR (DefR P doc_Doc_Bytes_1.id #[.pointer (some ⟨x6b, x6o, none⟩), .pointer (some ⟨x7b, x7o, none⟩)] (out x6b x6o x7b x7o R))) (upd (upd (upd (upd (upd (upd ρ 7 (.pointer (some ⟨x7b, x7o, none⟩))) 6 (.pointer (some ⟨x6b, x6o, none⟩))) 2 (.int .i64 x2)) 1 (.int .i64 x1)) 0 (.pointer x0)) 31 (.func (.func 30) #[] #[.pointer (some ⟨x6b, x6o, none⟩), .pointer (some ⟨x7b, x7o, none⟩)])) m = restP P od fn (sR (sR (sR (body)))) 30 ((#[.tmp 6, .tmp 7] : Array Operand).map (evr (upd (upd (upd (upd (upd ρ 7 (.pointer (some ⟨x7b, x7o, none⟩))) 6 (.pointer (some ⟨x6b, x6o, none⟩))) 2 (.int .i64 x2)) 1 (.int .i64 x1)) 0 (.pointer x0)))) R (upd (upd (upd (upd (upd (upd ρ 7 (.pointer (some ⟨x7b, x7o, none⟩))) 6 (.pointer (some ⟨x6b, x6o, none⟩))) 2 (.int .i64 x2)) 1 (.int .i64 x1)) 0 (.pointer x0)) 31 (.func (.func 30) #[] ((#[.tmp 6, .tmp 7] : Array Operand).map (evr (upd (upd (upd (upd (upd ρ 7 (.pointer (some ⟨x7b, x7o, none⟩))) 6 (.pointer (some ⟨x6b, x6o, none⟩))) 2 (.int .i64 x2)) 1 (.int .i64 x1)) 0 (.pointer x0)))))) m := by kernel_rfl
theorem ok (a0 : Option Addr) (a1 : Int) (a2 : Int) (R : Ending → Mem → Prop) (m : Mem) (h : p0 a0 a1 a2 R (fun x0 x1 x2 x6b x6o x7b x7o m => rest0 x0 x1 x2 x6b x6o x7b x7o R m) m) : HC P id #[.pointer a0, .int .i64 a1, .int .i64 a2] m R := by
  have h := Eq.mp (p0_eq a0 a1 a2 R (fun x0 x1 x2 x6b x6o x7b x7o m => rest0 x0 x1 x2 x6b x6o x7b x7o R m) m) h
  refine HC_of_DW (fn := fn) (c := (.seq (sL (body)) (.seq (sL (sR (body))) (.seq (.region 3 #[⟨some 31, .makeFunc (.func 30) #[] #[.tmp 6, .tmp 7], 1, "doc.go:43", #[], none⟩, ⟨none, .defer ⟨.value (.tmp 31), #[], #[]⟩, 0, "doc.go:43", #[⟨0, .data⟩], none⟩] false) (sR (sR (sR (body)))))))) Go.Proofs.Try.func18 (by kernel_rfl) (by kernel_rfl) (of_decide_eq_true (by kernel_rfl)) ?_
  refine DW_seq (tb := tb) (od := od) follows (by kernel_rfl) ?_
  refine cpt_mono (P := P) (sL (body)) (Q := aheadQ P fn R (fun ρ m => cpt P od (panicR R) (sL (sR (body))) (aheadQ P fn R (k1E (fun x0 x1 x2 x6b x6o x7b x7o m => rest0 x0 x1 x2 x6b x6o x7b x7o R m))) ρ m)) (fun e ρ m h => ?_) _ _ h
  cases e with
  | normal =>
    refine DW_seq (tb := tb) (od := od) follows (by kernel_rfl) ?_
    refine cpt_mono (P := P) (sL (sR (body))) (Q := aheadQ P fn R (k1E (fun x0 x1 x2 x6b x6o x7b x7o m => rest0 x0 x1 x2 x6b x6o x7b x7o R m))) (fun e ρ m h => ?_) _ _ h
    cases e with
    | normal =>
      have h : k1E (fun x0 x1 x2 x6b x6o x7b x7o m => rest0 x0 x1 x2 x6b x6o x7b x7o R m) ρ m := h
      unfold k1E at h
      obtain ⟨x0, e0, h⟩ := h.ex
      obtain ⟨x1, e1, h⟩ := h.ex
      obtain ⟨x2, e2, h⟩ := h.ex
      obtain ⟨x6b, x6o, e6, h⟩ := h.ex
      obtain ⟨x7b, x7o, e7, h⟩ := h.ex
      rw [← upd_self e0, ← upd_self e1, ← upd_self e2, ← upd_self e6, ← upd_self e7]
      refine DW_defer (tb := tb) (od := od) (gn := Go.Proofs.Try.f30) (lo := 8) Go.Proofs.Try.func30 (by kernel_rfl) (by kernel_rfl) follows cok (by kernel_rfl) (by kernel_rfl) ?_
      exact Eq.mp (rest_eq2 x0 x1 x2 x6b x6o x7b x7o R ρ m) (rest_ok x0 x1 x2 x6b x6o x7b x7o R ρ m h)
    | _ => exact h
  | _ => exact h
end doc_Doc_Bytes

/-! ### (*eyot/doc.Doc).At -/
namespace doc_Doc_At
noncomputable def fn : Func := Go.Proofs.Try.f19
noncomputable def body : Code := fn.body.getD .skip
def od : Nat → Ord := fun _ => .done
def tb : Nat → Tab := fun _ => (0, [], [])
def e0 (d_0 : Option Addr) (i_1 : Int) (R : Ending → Mem → Prop) (m : Mem) : Prop :=
  Br (decide (i_1 < 0)) (
    R (.returned (.tuple #[.int .u8 0, .int .i64 1])) m) (
    HC P doc_Doc_Len.id #[.pointer d_0] m (Cont (fun v m1 =>
        UnI v .i64 fun x13 =>
        Br (decide (i_1 ≥ x13)) (
          R (.returned (.tuple #[.int .u8 0, .int .i64 1])) m1) (
          HC P doc_Doc_Bytes.id #[.pointer d_0, .int .i64 i_1, .int .i64 (IntKind.i64.wrap (i_1 + 1))] m1 (Cont (fun v m2 =>
              UnTup v fun us0 =>
              UnCons us0 fun w us1 =>
              UnS w fun x21_0a x21_0l x21_0c =>
              UnCons us1 fun w us2 =>
              UnI w .i64 fun x21_1 =>
              UnNil us2 (
                Br (x21_1 != 0) (
                  R (.returned (.tuple #[.int .u8 0, .int .i64 x21_1])) m2) (
                  IxS x21_0a x21_0l 0 1 fun x28b x28o =>
                  LdV m2 x28b x28o fun v =>
                  UnI v .u8 fun x29 =>
                  R (.returned (.tuple #[.int .u8 x29, .int .i64 0])) m2))) (panicR R)))) (panicR R)))
noncomputable def e0A (R : Ending → Mem → Prop) : ACode := (.code (body))
theorem e0_eq (d_0 : Option Addr) (i_1 : Int) (R : Ending → Mem → Prop) (m : Mem) : e0 d_0 i_1 R m = acpt P od (panicR R) (e0A R) (bodyQ P fn R) (argE (#[.pointer d_0, .int .i64 i_1] : Array Value).toList) m := by kernel_rfl
theorem ok (d_0 : Option Addr) (i_1 : Int) (R : Ending → Mem → Prop) (m : Mem) (h : e0 d_0 i_1 R m) : HC P id #[.pointer d_0, .int .i64 i_1] m R := by
  refine HC_of (fn := fn) (c := body) (od := od) (tb := tb) Go.Proofs.Try.func19 (by kernel_rfl) (by kernel_rfl) follows (by kernel_rfl) (of_decide_eq_true (by kernel_rfl)) ?_
  have he : (e0A R).erase = body := by kernel_rfl
  rw [← he]
  refine acpt_sound (P := P) (e0A R) _ _ _ True.intro ?_
  exact Eq.mp (e0_eq d_0 i_1 R m) h
end doc_Doc_At

/-! ### (*eyot/page.Pages).Count -/
namespace page_Pages_Count
noncomputable def fn : Func := Go.Proofs.Try.f20
noncomputable def body : Code := fn.body.getD .skip
def od : Nat → Ord := fun _ => .done
def tb : Nat → Tab := fun _ => (0, [], [])
def e0 (p_0 : Option Addr) (R : Ending → Mem → Prop) (m : Mem) : Prop :=
  NewC m #[.pointer p_0] T_ptr_page_Pages fun b_p_1 m1 =>
  HC P page_safe_int.id #[.func (.func page_Pages_Count_1.id) #[] #[.pointer (some ⟨b_p_1, 0, none⟩)]] m1 (Cont (fun v m2 =>
      UnI v .i64 fun x4 =>
      R (.returned (.int .i64 x4)) m2) (panicR R))
noncomputable def e0A (R : Ending → Mem → Prop) : ACode := (.code (body))
theorem e0_eq (p_0 : Option Addr) (R : Ending → Mem → Prop) (m : Mem) : e0 p_0 R m = acpt P od (panicR R) (e0A R) (bodyQ P fn R) (argE (#[.pointer p_0] : Array Value).toList) m := by kernel_rfl
theorem ok (p_0 : Option Addr) (R : Ending → Mem → Prop) (m : Mem) (h : e0 p_0 R m) : HC P id #[.pointer p_0] m R := by
  refine HC_of (fn := fn) (c := body) (od := od) (tb := tb) Go.Proofs.Try.func20 (by kernel_rfl) (by kernel_rfl) follows (by kernel_rfl) (of_decide_eq_true (by kernel_rfl)) ?_
  have he : (e0A R).erase = body := by kernel_rfl
  rw [← he]
  refine acpt_sound (P := P) (e0A R) _ _ _ True.intro ?_
  exact Eq.mp (e0_eq p_0 R m) h
end page_Pages_Count

/-! ### (*eyot/page.Pages).Fault -/
namespace page_Pages_Fault
noncomputable def fn : Func := Go.Proofs.Try.f21
noncomputable def body : Code := fn.body.getD .skip
def od : Nat → Ord := fun _ => .done
def tb : Nat → Tab := fun _ => (0, [], [])
def l1E (K : Option Addr → Option Addr → Nat → Nat → Int → Int → Mem → Prop) : Env → Mem → Prop := fun ρ m => UnP (ρ 0) fun p_0 => UnS (ρ 12) fun x12a x12l x12c => UnI (ρ 13) .i64 fun x13 => UnI (ρ 14) .i64 fun x14 => K p_0 x12a x12l x12c x13 x14 m
def l1B  (K1 : Option Addr → Option Addr → Nat → Nat → Int → Int → Mem → Prop) (p_0 : Option Addr) (x12a : Option Addr) (x12l : Nat) (x12c : Nat) (x13 : Int) (x14 : Int) (R : Ending → Mem → Prop) (m : Mem) : Prop :=
  Br (decide (x14 < x13)) (
    IxS x12a x12l x14 1 fun x16b x16o =>
    LdV m x16b x16o fun v =>
    UnI v .i64 fun x17 =>
    NilC p_0 (fun x19b x19o =>
      LdV m x19b (x19o + 2) fun v =>
      UnM v fun x21 =>
      MapUpN P m T_map_int_bool (.map x21) (.int .i64 x17) (.bool true) (fun m1 =>
        K1 p_0 x12a x12l x12c x13 (IntKind.i64.wrap (x14 + 1)) m1) (panicR R)) (R (.panicked (nilPanic P)) m)) (
    R (.returned (.tuple #[])) m)
def l1  (p_0 : Option Addr) (x12a : Option Addr) (x12l : Nat) (x12c : Nat) (x13 : Int) (x14 : Int) (R : Ending → Mem → Prop) (m : Mem) : Prop :=
  ∃ (I : Nat → Option Addr → Option Addr → Nat → Nat → Int → Int → Mem → Prop) (N : Nat), I N p_0 x12a x12l x12c x13 x14 m ∧ ∀ N p_0 x12a x12l x12c x13 x14 m, I N p_0 x12a x12l x12c x13 x14 m → l1B  (fun p_0 x12a x12l x12c x13 x14 m => ∃ N1, N1 < N ∧ I N1 p_0 x12a x12l x12c x13 x14 m) p_0 x12a x12l x12c x13 x14 R m
noncomputable def l1A  (K1 : Option Addr → Option Addr → Nat → Nat → Int → Int → Mem → Prop) (R : Ending → Mem → Prop) : ACode := (.code (lP (bB (sR (sR (sR (body)))))))
def e0 (p_0 : Option Addr) (l_1a : Option Addr) (l_1l : Nat) (l_1c : Nat) (R : Ending → Mem → Prop) (m : Mem) : Prop :=
  Br p_0.isNone (
    R (.returned (.tuple #[])) m) (
    NewM m fun b9 m1 =>
    NilC p_0 (fun x10b x10o =>
      St1 m1 x10b (x10o + 2) (.map (some b9)) fun m2 =>
      l1  p_0 l_1a l_1l l_1c ((l_1l : Nat) : Int) 0 R m2) (R (.panicked (nilPanic P)) m1))
noncomputable def e0A (R : Ending → Mem → Prop) : ACode := (.seq (.code (sL (body))) (.seq (.code (sL (sR (body)))) (.seq (.code (sL (sR (sR (body))))) (.block 0 (.cut (l1E fun p_0 x12a x12l x12c x13 x14 m => l1  p_0 x12a x12l x12c x13 x14 R m) (.loop (lP (bB (sR (sR (sR (body))))))))))))
theorem l1_eq  (K1 : Option Addr → Option Addr → Nat → Nat → Int → Int → Mem → Prop) (R : Ending → Mem → Prop) (p_0 : Option Addr) (x12a : Option Addr) (x12l : Nat) (x12c : Nat) (x13 : Int) (x14 : Int) (ρ : Env) (m : Mem) : l1B  K1 p_0 x12a x12l x12c x13 x14 R m = acpt P od (panicR R) (l1A  K1 R) (thenQ (l1E K1) (blockQ 0 (bodyQ P fn R))) (upd (upd (upd (upd ρ 14 (.int .i64 x14)) 13 (.int .i64 x13)) 12 (.slice x12a x12l x12c)) 0 (.pointer p_0)) m := by kernel_rfl
theorem l1_er  (K1 : Option Addr → Option Addr → Nat → Nat → Int → Int → Mem → Prop) (R : Ending → Mem → Prop) : (l1A  K1 R).erase = lP (bB (sR (sR (sR (body))))) := by kernel_rfl
theorem l1_ok  (R : Ending → Mem → Prop) (ρ : Env) (m : Mem) (h : (l1E fun p_0 x12a x12l x12c x13 x14 m => l1  p_0 x12a x12l x12c x13 x14 R m) ρ m) : cpt P od (panicR R) (.loop (lP (bB (sR (sR (sR (body))))))) (blockQ 0 (bodyQ P fn R)) ρ m := by
  unfold l1E at h
  obtain ⟨p_0, e0, h⟩ := h.ex
  obtain ⟨x12a, x12l, x12c, e12, h⟩ := h.ex
  obtain ⟨x13, e13, h⟩ := h.ex
  obtain ⟨x14, e14, h⟩ := h.ex
  obtain ⟨I, N, h0, hs⟩ := h
  refine ⟨fun N => l1E (I N), N, (by show l1E (I N) ρ m; unfold l1E; rw [e0, e12, e13, e14]; exact h0), ?_⟩
  clear h0 e0 e12 e13 e14
  intro N ρ m h
  unfold l1E at h
  obtain ⟨p_0, e0, h⟩ := h.ex
  obtain ⟨x12a, x12l, x12c, e12, h⟩ := h.ex
  obtain ⟨x13, e13, h⟩ := h.ex
  obtain ⟨x14, e14, h⟩ := h.ex
  refine cpt_mono (P := P) (lP (bB (sR (sR (sR (body)))))) (Q := thenQ (l1E fun p_0 x12a x12l x12c x13 x14 m => ∃ N1, N1 < N ∧ I N1 p_0 x12a x12l x12c x13 x14 m) (blockQ 0 (bodyQ P fn R))) (fun e ρ m h => ?_) ρ m ?_
  · cases e with
    | normal =>
      have h : l1E (fun p_0 x12a x12l x12c x13 x14 m => ∃ N1, N1 < N ∧ I N1 p_0 x12a x12l x12c x13 x14 m) ρ m := h
      unfold l1E at h
      obtain ⟨p_0, e0, h⟩ := h.ex
      obtain ⟨x12a, x12l, x12c, e12, h⟩ := h.ex
      obtain ⟨x13, e13, h⟩ := h.ex
      obtain ⟨x14, e14, h⟩ := h.ex
      obtain ⟨N1, hlt, h⟩ := h
      exact ⟨N1, hlt, (by show l1E (I N1) ρ m; unfold l1E; rw [e0, e12, e13, e14]; exact h)⟩
    | _ => exact h
  have hh := hs N p_0 x12a x12l x12c x13 x14 m h
  generalize (fun p_0 x12a x12l x12c x13 x14 m => ∃ N1, N1 < N ∧ I N1 p_0 x12a x12l x12c x13 x14 m : Option Addr → Option Addr → Nat → Nat → Int → Int → Mem → Prop) = K1 at hh ⊢
  rw [← upd_self e0, ← upd_self e12, ← upd_self e13, ← upd_self e14]
  rw [← l1_er  K1 R]
  refine acpt_sound (P := P) (l1A  K1 R) _ _ _ True.intro ?_
  exact Eq.mp (l1_eq  K1 R p_0 x12a x12l x12c x13 x14 ρ m) hh
theorem e0_eq (p_0 : Option Addr) (l_1a : Option Addr) (l_1l : Nat) (l_1c : Nat) (R : Ending → Mem → Prop) (m : Mem) : e0 p_0 l_1a l_1l l_1c R m = acpt P od (panicR R) (e0A R) (bodyQ P fn R) (argE (#[.pointer p_0, .slice l_1a l_1l l_1c] : Array Value).toList) m := by kernel_rfl
theorem ok (p_0 : Option Addr) (l_1a : Option Addr) (l_1l : Nat) (l_1c : Nat) (R : Ending → Mem → Prop) (m : Mem) (h : e0 p_0 l_1a l_1l l_1c R m) : HC P id #[.pointer p_0, .slice l_1a l_1l l_1c] m R := by
  refine HC_of (fn := fn) (c := body) (od := od) (tb := tb) Go.Proofs.Try.func21 (by kernel_rfl) (by kernel_rfl) follows (by kernel_rfl) (of_decide_eq_true (by kernel_rfl)) ?_
  have he : (e0A R).erase = body := by kernel_rfl
  rw [← he]
  refine acpt_sound (P := P) (e0A R) _ _ _ ⟨⟨⟨(fun ρ m h => l1_ok  R ρ m h), True.intro⟩, True.intro⟩, True.intro⟩ ?_
  exact Eq.mp (e0_eq p_0 l_1a l_1l l_1c R m) h
end page_Pages_Fault

/-! ### (*eyot/page.Pages).Reads -/
namespace page_Pages_Reads
noncomputable def fn : Func := Go.Proofs.Try.f22
noncomputable def body : Code := fn.body.getD .skip
def od : Nat → Ord := fun _ => .done
def tb : Nat → Tab := fun _ => (0, [], [])
def e0 (p_0 : Option Addr) (R : Ending → Mem → Prop) (m : Mem) : Prop :=
  NewC m #[.pointer p_0] T_ptr_page_Pages fun b_p_1 m1 =>
  HC P page_safe_s_int.id #[.func (.func page_Pages_Reads_1.id) #[] #[.pointer (some ⟨b_p_1, 0, none⟩)]] m1 (Cont (fun v m2 =>
      UnS v fun x4a x4l x4c =>
      R (.returned (.slice x4a x4l x4c)) m2) (panicR R))
noncomputable def e0A (R : Ending → Mem → Prop) : ACode := (.code (body))
theorem e0_eq (p_0 : Option Addr) (R : Ending → Mem → Prop) (m : Mem) : e0 p_0 R m = acpt P od (panicR R) (e0A R) (bodyQ P fn R) (argE (#[.pointer p_0] : Array Value).toList) m := by kernel_rfl
theorem ok (p_0 : Option Addr) (R : Ending → Mem → Prop) (m : Mem) (h : e0 p_0 R m) : HC P id #[.pointer p_0] m R := by
  refine HC_of (fn := fn) (c := body) (od := od) (tb := tb) Go.Proofs.Try.func22 (by kernel_rfl) (by kernel_rfl) follows (by kernel_rfl) (of_decide_eq_true (by kernel_rfl)) ?_
  have he : (e0A R).erase = body := by kernel_rfl
  rw [← he]
  refine acpt_sound (P := P) (e0A R) _ _ _ True.intro ?_
  exact Eq.mp (e0_eq p_0 R m) h
end page_Pages_Reads

end
end Go.E
