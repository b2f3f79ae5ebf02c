/- This project's own logic, printed forms and lemmas, as far as this claim needs them (part 2). -/
import Derived.Test.YtigbchimmpjneaaQChunkMoves1
set_option linter.unusedVariables false
set_option maxRecDepth 100000
namespace Go.E
open Go.H
noncomputable section
noncomputable abbrev P : Program := Go.Proofs.Try.prog
theorem follows : P.follows .mixedOrders = true := by kernel_rfl
abbrev T_ : TypeId := 0
abbrev T_api_Node : TypeId := 47
abbrev T_api_Span : TypeId := 50
abbrev T_bool : TypeId := 4
abbrev T_chunk_Chunk : TypeId := 28
abbrev T_chunk_Store : TypeId := 42
abbrev T_int : TypeId := 3
abbrev T_lru_Cache_chunk_Chunk : TypeId := 59
abbrev T_lru_entry_chunk_Chunk : TypeId := 63
abbrev T_sl_api_Node : TypeId := 48
abbrev T_sl_api_Span : TypeId := 26
abbrev T_sl_chunk_Chunk : TypeId := 31
abbrev T_sl_int : TypeId := 51
abbrev T_sl_lru_entry_chunk_Chunk : TypeId := 57
abbrev T_sl_uint8 : TypeId := 35
abbrev T_uint8 : TypeId := 5
namespace slices_heapSortCmpFunc_chunk_Chunk
def id : FuncId := 35
end slices_heapSortCmpFunc_chunk_Chunk
namespace slices_breakPatternsCmpFunc_chunk_Chunk
def id : FuncId := 36
end slices_breakPatternsCmpFunc_chunk_Chunk
namespace slices_choosePivotCmpFunc_chunk_Chunk
def id : FuncId := 37
end slices_choosePivotCmpFunc_chunk_Chunk
namespace slices_reverseRangeCmpFunc_chunk_Chunk
def id : FuncId := 38
end slices_reverseRangeCmpFunc_chunk_Chunk
namespace slices_partialInsertionSortCmpFunc_chunk_Chunk
def id : FuncId := 39
end slices_partialInsertionSortCmpFunc_chunk_Chunk
namespace slices_partitionEqualCmpFunc_chunk_Chunk
def id : FuncId := 40
end slices_partitionEqualCmpFunc_chunk_Chunk
namespace slices_partitionCmpFunc_chunk_Chunk
def id : FuncId := 41
end slices_partitionCmpFunc_chunk_Chunk
namespace slices_overlaps_lru_entry_chunk_Chunk
def id : FuncId := 44
end slices_overlaps_lru_entry_chunk_Chunk
def eyotlaw28_ChunkNear.id : FuncId := 3
def eyotlaw28_ChunkMoves.id : FuncId := 4
def eyotlaw28_begun.id : FuncId := 5
def chunk_New.id : FuncId := 6
def chunk_Store_Put.id : FuncId := 7
def eyotlaw28_made.id : FuncId := 8
def chunk_Store_Edit.id : FuncId := 9
def chunk_Store_Kept.id : FuncId := 10
def eyotlaw28_same.id : FuncId := 11
def chunk_Store_Get.id : FuncId := 12
def lru_New_chunk_Chunk.id : FuncId := 13
def lru_Cache_chunk_Chunk_Put.id : FuncId := 14
def chunk_move.id : FuncId := 15
def lru_Cache_chunk_Chunk_Keys.id : FuncId := 16
def slices_Reverse_s_int_int.id : FuncId := 17
def lru_Cache_chunk_Chunk_Get.id : FuncId := 18
def slices_SortFunc_s_chunk_Chunk_chunk_Chunk.id : FuncId := 19
def chunk_Store_Kept_1.id : FuncId := 20
def eyotref23_SameSpans.id : FuncId := 21
def lru_Cache_chunk_Chunk_Drop.id : FuncId := 22
def lru_Cache_chunk_Chunk_front.id : FuncId := 23
def tree_Move.id : FuncId := 24
def lru_Cache_chunk_Chunk_at.id : FuncId := 25
def slices_Delete_s_lru_entry_chunk_Chunk_lru_entry_chunk_Chunk.id : FuncId := 26
def slices_pdqsortCmpFunc_chunk_Chunk.id : FuncId := 27
def math_bits_Len.id : FuncId := 28
def eyotref18_Same.id : FuncId := 29
def slices_Insert_s_lru_entry_chunk_Chunk_lru_entry_chunk_Chunk.id : FuncId := 30
def slices_Clone_s_api_Node_api_Node.id : FuncId := 31
def slices_IndexFunc_s_lru_entry_chunk_Chunk_lru_entry_chunk_Chunk.id : FuncId := 32
def lru_Cache_chunk_Chunk_at_1.id : FuncId := 33
def slices_insertionSortCmpFunc_chunk_Chunk.id : FuncId := 34
def math_bits_Len64.id : FuncId := 43
def slices_rotateRight_lru_entry_chunk_Chunk.id : FuncId := 45
def slices_rotateLeft_lru_entry_chunk_Chunk.id : FuncId := 51
def slices_Reverse_s_lru_entry_chunk_Chunk_lru_entry_chunk_Chunk.id : FuncId := 53
/-! ### eyot/eyotlaw28.ChunkMoves -/
namespace eyotlaw28_ChunkMoves
noncomputable def fn : Func := Go.Proofs.Try.f4
noncomputable def body : Code := fn.body.getD .skip
def od : Nat → Ord := fun _ => .done
def tb : Nat → Tab := fun _ => (0, [], [])
def l3E (K : Option Addr → Nat → Nat → Int → Option Addr → Nat → Nat → Option Addr → Nat → Nat → Int → Mem → Prop) : Env → Mem → Prop := fun ρ m => UnS (ρ 0) fun l_0a l_0l l_0c => UnI (ρ 9) .i64 fun at_9 => UnS (ρ 12) fun x_12a x_12l x_12c => UnS (ρ 13) fun y_13a y_13l y_13c => UnI (ρ 14) .i64 fun i_14 => K l_0a l_0l l_0c at_9 x_12a x_12l x_12c y_13a y_13l y_13c i_14 m
def l3B  (K3 : Option Addr → Nat → Nat → Int → Option Addr → Nat → Nat → Option Addr → Nat → Nat → Int → Mem → Prop) (l_0a : Option Addr) (l_0l : Nat) (l_0c : Nat) (at_9 : Int) (x_12a : Option Addr) (x_12l : Nat) (x_12c : Nat) (y_13a : Option Addr) (y_13l : Nat) (y_13c : Nat) (i_14 : Int) (R : Ending → Mem → Prop) (m : Mem) : Prop :=
 Br (decide (i_14 < ((l_0l : Nat) : Int))) (
  IxS l_0a l_0l i_14 1 fun x122b x122o =>
  LdV m x122b x122o fun v =>
  UnI v .u8 fun x123 =>
  IxS x_12a x_12l i_14 3 fun x129b x129o =>
  LdV m x129b x129o fun v =>
  UnI v .i64 fun x130_0 =>
  LdV m x129b (x129o + 1) fun v =>
  UnI v .i64 fun x130_1 =>
  LdV m x129b (x129o + 2) fun v =>
  UnS v fun x130_2a x130_2l x130_2c =>
  HC P eyotlaw28_same.id #[.agg #[.int .i64 x130_0, .int .i64 x130_1, .slice x130_2a x130_2l x130_2c], .int .i64 at_9, .int .i64 (IntKind.i64.wrap ((IntKind.i64.wrap (at_9 + 1)) + (IntKind.i64.wrap (Int.tmod x123 20))))] m (Cont (fun v m1 =>
    UnB v fun x133 =>
    Br (!x133) (
     R (.returned (.bool false)) m1) (
     IxS y_13a y_13l i_14 3 fun x138b x138o =>
     LdV m1 x138b x138o fun v =>
     UnI v .i64 fun x139_0 =>
     LdV m1 x138b (x138o + 1) fun v =>
     UnI v .i64 fun x139_1 =>
     LdV m1 x138b (x138o + 2) fun v =>
     UnS v fun x139_2a x139_2l x139_2c =>
     HC P eyotlaw28_same.id #[.agg #[.int .i64 x139_0, .int .i64 x139_1, .slice x139_2a x139_2l x139_2c], .int .i64 at_9, .int .i64 (IntKind.i64.wrap ((IntKind.i64.wrap (at_9 + 1)) + (IntKind.i64.wrap (Int.tmod x123 20))))] m1 (Cont (fun v m2 =>
       UnB v fun x142 =>
       Br (!x142) (
        R (.returned (.bool false)) m2) (
        K3 l_0a l_0l l_0c (IntKind.i64.wrap ((IntKind.i64.wrap (at_9 + 1)) + (IntKind.i64.wrap (Int.tmod x123 20)))) x_12a x_12l x_12c y_13a y_13l y_13c (IntKind.i64.wrap (i_14 + 1)) m2)) (panicR R)))) (panicR R))) (
  R (.returned (.bool true)) m)
def l3  (l_0a : Option Addr) (l_0l : Nat) (l_0c : Nat) (at_9 : Int) (x_12a : Option Addr) (x_12l : Nat) (x_12c : Nat) (y_13a : Option Addr) (y_13l : Nat) (y_13c : Nat) (i_14 : Int) (R : Ending → Mem → Prop) (m : Mem) : Prop :=
  ∃ (I : Nat → Option Addr → Nat → Nat → Int → Option Addr → Nat → Nat → Option Addr → Nat → Nat → Int → Mem → Prop) (N : Nat), I N l_0a l_0l l_0c at_9 x_12a x_12l x_12c y_13a y_13l y_13c i_14 m ∧ ∀ N l_0a l_0l l_0c at_9 x_12a x_12l x_12c y_13a y_13l y_13c i_14 m, I N l_0a l_0l l_0c at_9 x_12a x_12l x_12c y_13a y_13l y_13c i_14 m → l3B  (fun l_0a l_0l l_0c at_9 x_12a x_12l x_12c y_13a y_13l y_13c i_14 m => ∃ N1, N1 < N ∧ I N1 l_0a l_0l l_0c at_9 x_12a x_12l x_12c y_13a y_13l y_13c i_14 m) l_0a l_0l l_0c at_9 x_12a x_12l x_12c y_13a y_13l y_13c i_14 R m
noncomputable def l3A  (K3 : Option Addr → Nat → Nat → Int → Option Addr → Nat → Nat → Option Addr → Nat → Nat → Int → Mem → Prop) (R : Ending → Mem → Prop) : ACode := (.code (lP (bB (sR (sL (sR (sR (sR (sR (sR (sR (sR (sR (sR (sR (sR (sR (sR (sR (body))))))))))))))))))))
def k2E (K : Option Addr → Nat → Nat → Int → Int → Option Addr → Option Addr → Int → Mem → Prop) : Env → Mem → Prop := fun ρ m => UnS (ρ 0) fun l_0a l_0l l_0c => UnI (ρ 1) .u8 fun a_1 => UnI (ρ 2) .u8 fun b_2 => UnP (ρ 7) fun s_7 => UnP (ρ 8) fun t_8 => UnI (ρ 9) .i64 fun at_9 => K l_0a l_0l l_0c a_1 b_2 s_7 t_8 at_9 m
def k2  (l_0a : Option Addr) (l_0l : Nat) (l_0c : Nat) (a_1 : Int) (b_2 : Int) (s_7 : Option Addr) (t_8 : Option Addr) (at_9 : Int) (R : Ending → Mem → Prop) (m : Mem) : Prop :=
 HC P chunk_Store_Edit.id #[.pointer s_7, .int .i64 0, .int .i64 0, .int .i64 (IntKind.i64.wrap a_1), .int .i64 10] m (Cont (fun v m1 =>
   UnTup v fun us0 =>
   UnNil us0 (
    HC P chunk_Store_Edit.id #[.pointer s_7, .int .i64 0, .int .i64 0, .int .i64 (IntKind.i64.wrap b_2), .int .i64 10] m1 (Cont (fun v m2 =>
      UnTup v fun us0 =>
      UnNil us0 (
       HC P chunk_Store_Edit.id #[.pointer t_8, .int .i64 0, .int .i64 0, .int .i64 (IntKind.i64.wrap ((IntKind.i64.wrap a_1) + (IntKind.i64.wrap b_2))), .int .i64 10] m2 (Cont (fun v m3 =>
        UnTup v fun us0 =>
        UnNil us0 (
        HC P chunk_Store_Edit.id #[.pointer t_8, .int .i64 (IntKind.i64.wrap ((IntKind.i64.wrap (at_9 + (IntKind.i64.wrap ((IntKind.i64.wrap a_1) + (IntKind.i64.wrap b_2))))) + 10)), .int .i64 (IntKind.i64.wrap ((IntKind.i64.wrap (at_9 + (IntKind.i64.wrap ((IntKind.i64.wrap a_1) + (IntKind.i64.wrap b_2))))) + 20)), .int .i64 3, .int .i64 10] m3 (Cont (fun v m4 =>
        UnTup v fun us0 =>
        UnNil us0 (
        HC P chunk_Store_Kept.id #[.pointer s_7] m4 (Cont (fun v m5 =>
        UnS v fun x95a x95l x95c =>
        HC P chunk_Store_Kept.id #[.pointer t_8] m5 (Cont (fun v m6 =>
        UnS v fun x97a x97l x97c =>
        Br (((x95l : Nat) : Int) != ((l_0l : Nat) : Int)) (
        R (.returned (.bool false)) m6) (
        Br (((x97l : Nat) : Int) != ((l_0l : Nat) : Int)) (
        R (.returned (.bool false)) m6) (
        l3  l_0a l_0l l_0c (IntKind.i64.wrap (40 + (IntKind.i64.wrap ((IntKind.i64.wrap a_1) + (IntKind.i64.wrap b_2))))) x95a x95l x95c x97a x97l x97c 0 R m6))) (panicR R))) (panicR R)))) (panicR R)))) (panicR R)))) (panicR R)))) (panicR R))
noncomputable def k2A  (R : Ending → Mem → Prop) : ACode := (.seq (.code (sL (sR (sR (sR (sR (sR (sR (body))))))))) (.seq (.code (sL (sR (sR (sR (sR (sR (sR (sR (body)))))))))) (.seq (.code (sL (sR (sR (sR (sR (sR (sR (sR (sR (body))))))))))) (.seq (.code (sL (sR (sR (sR (sR (sR (sR (sR (sR (sR (body)))))))))))) (.seq (.code (sL (sR (sR (sR (sR (sR (sR (sR (sR (sR (sR (body))))))))))))) (.seq (.code (sL (sR (sR (sR (sR (sR (sR (sR (sR (sR (sR (sR (body)))))))))))))) (.seq (.code (sL (sR (sR (sR (sR (sR (sR (sR (sR (sR (sR (sR (sR (body))))))))))))))) (.seq (.code (sL (sR (sR (sR (sR (sR (sR (sR (sR (sR (sR (sR (sR (sR (body)))))))))))))))) (.seq (.seq (.code (sL (sL (sR (sR (sR (sR (sR (sR (sR (sR (sR (sR (sR (sR (sR (sR (body)))))))))))))))))) (.block 2 (.cut (l3E fun l_0a l_0l l_0c at_9 x_12a x_12l x_12c y_13a y_13l y_13c i_14 m => l3  l_0a l_0l l_0c at_9 x_12a x_12l x_12c y_13a y_13l y_13c i_14 R m) (.loop (lP (bB (sR (sL (sR (sR (sR (sR (sR (sR (sR (sR (sR (sR (sR (sR (sR (sR (body))))))))))))))))))))))) (.code (sR (sR (sR (sR (sR (sR (sR (sR (sR (sR (sR (sR (sR (sR (sR (body))))))))))))))))))))))))))
def l1E (K : Option Addr → Nat → Nat → Int → Int → Option Addr → Option Addr → Int → Int → Mem → Prop) : Env → Mem → Prop := fun ρ m => UnS (ρ 0) fun l_0a l_0l l_0c => UnI (ρ 1) .u8 fun a_1 => UnI (ρ 2) .u8 fun b_2 => UnP (ρ 7) fun s_7 => UnP (ρ 8) fun t_8 => UnI (ρ 9) .i64 fun at_9 => UnI (ρ 10) .i64 fun i_10 => K l_0a l_0l l_0c a_1 b_2 s_7 t_8 at_9 i_10 m
def l1B  (K1 : Option Addr → Nat → Nat → Int → Int → Option Addr → Option Addr → Int → Int → Mem → Prop) (l_0a : Option Addr) (l_0l : Nat) (l_0c : Nat) (a_1 : Int) (b_2 : Int) (s_7 : Option Addr) (t_8 : Option Addr) (at_9 : Int) (i_10 : Int) (R : Ending → Mem → Prop) (m : Mem) : Prop :=
 Br (decide (i_10 < ((l_0l : Nat) : Int))) (
  IxS l_0a l_0l i_10 1 fun x35b x35o =>
  LdV m x35b x35o fun v =>
  UnI v .u8 fun x36 =>
  HC P eyotlaw28_made.id #[.int .i64 at_9, .int .i64 (IntKind.i64.wrap ((IntKind.i64.wrap (at_9 + 1)) + (IntKind.i64.wrap (Int.tmod x36 20))))] m (Cont (fun v m1 =>
    UnAgg v fun l =>
    UnCons l fun v l =>
    UnI v .i64 fun x40_0 =>
    UnCons l fun v l =>
    UnI v .i64 fun x40_1 =>
    UnCons l fun v l =>
    UnS v fun x40_2a x40_2l x40_2c =>
    UnNil l (
     HC P chunk_Store_Put.id #[.pointer s_7, .agg #[.int .i64 x40_0, .int .i64 x40_1, .slice x40_2a x40_2l x40_2c]] m1 (Cont (fun v m2 =>
       UnTup v fun us0 =>
       UnNil us0 (
        IxS l_0a l_0l i_10 1 fun x48b x48o =>
        LdV m2 x48b x48o fun v =>
        UnI v .u8 fun x49 =>
        HC P eyotlaw28_made.id #[.int .i64 at_9, .int .i64 (IntKind.i64.wrap ((IntKind.i64.wrap (at_9 + 1)) + (IntKind.i64.wrap (Int.tmod x49 20))))] m2 (Cont (fun v m3 =>
        UnAgg v fun l =>
        UnCons l fun v l =>
        UnI v .i64 fun x53_0 =>
        UnCons l fun v l =>
        UnI v .i64 fun x53_1 =>
        UnCons l fun v l =>
        UnS v fun x53_2a x53_2l x53_2c =>
        UnNil l (
        HC P chunk_Store_Put.id #[.pointer t_8, .agg #[.int .i64 x53_0, .int .i64 x53_1, .slice x53_2a x53_2l x53_2c]] m3 (Cont (fun v m4 =>
        UnTup v fun us0 =>
        UnNil us0 (
        IxS l_0a l_0l i_10 1 fun x59b x59o =>
        LdV m4 x59b x59o fun v =>
        UnI v .u8 fun x60 =>
        K1 l_0a l_0l l_0c a_1 b_2 s_7 t_8 (IntKind.i64.wrap ((IntKind.i64.wrap (at_9 + 1)) + (IntKind.i64.wrap (Int.tmod x60 20)))) (IntKind.i64.wrap (i_10 + 1)) m4)) (panicR R)))) (panicR R)))) (panicR R)))) (panicR R))) (
  k2  l_0a l_0l l_0c a_1 b_2 s_7 t_8 at_9 R m)
def l1  (l_0a : Option Addr) (l_0l : Nat) (l_0c : Nat) (a_1 : Int) (b_2 : Int) (s_7 : Option Addr) (t_8 : Option Addr) (at_9 : Int) (i_10 : Int) (R : Ending → Mem → Prop) (m : Mem) : Prop :=
  ∃ (I : Nat → Option Addr → Nat → Nat → Int → Int → Option Addr → Option Addr → Int → Int → Mem → Prop) (N : Nat), I N l_0a l_0l l_0c a_1 b_2 s_7 t_8 at_9 i_10 m ∧ ∀ N l_0a l_0l l_0c a_1 b_2 s_7 t_8 at_9 i_10 m, I N l_0a l_0l l_0c a_1 b_2 s_7 t_8 at_9 i_10 m → l1B  (fun l_0a l_0l l_0c a_1 b_2 s_7 t_8 at_9 i_10 m => ∃ N1, N1 < N ∧ I N1 l_0a l_0l l_0c a_1 b_2 s_7 t_8 at_9 i_10 m) l_0a l_0l l_0c a_1 b_2 s_7 t_8 at_9 i_10 R m
noncomputable def l1A  (K1 : Option Addr → Nat → Nat → Int → Int → Option Addr → Option Addr → Int → Int → Mem → Prop) (R : Ending → Mem → Prop) : ACode := (.code (lP (bB (sR (sL (sR (sR (sR (sR (sR (body)))))))))))
def e0 (l_0a : Option Addr) (l_0l : Nat) (l_0c : Nat) (a_1 : Int) (b_2 : Int) (R : Ending → Mem → Prop) (m : Mem) : Prop :=
 HC P eyotlaw28_begun.id #[] m (Cont (fun v m1 =>
   UnB v fun x16 =>
   Br (!x16) (
    R (.returned (.bool false)) m1) (
    Br (decide (((l_0l : Nat) : Int) > 6)) (
     R (.returned (.bool true)) m1) (
     HC P chunk_New.id #[.int .i64 20] m1 (Cont (fun v m2 =>
       UnP v fun x21 =>
       HC P chunk_New.id #[.int .i64 20] m2 (Cont (fun v m3 =>
        UnP v fun x22 =>
        l1  l_0a l_0l l_0c a_1 b_2 x21 x22 40 0 R m3) (panicR R))) (panicR R))))) (panicR R))
noncomputable def e0A (R : Ending → Mem → Prop) : ACode := (.seq (.code (sL (body))) (.seq (.code (sL (sR (body)))) (.seq (.code (sL (sR (sR (body))))) (.seq (.code (sL (sR (sR (sR (body)))))) (.seq (.code (sL (sR (sR (sR (sR (body))))))) (.seq (.seq (.code (sL (sL (sR (sR (sR (sR (sR (body))))))))) (.block 0 (.cut (l1E fun l_0a l_0l l_0c a_1 b_2 s_7 t_8 at_9 i_10 m => l1  l_0a l_0l l_0c a_1 b_2 s_7 t_8 at_9 i_10 R m) (.loop (lP (bB (sR (sL (sR (sR (sR (sR (sR (body)))))))))))))) (.cut (k2E fun l_0a l_0l l_0c a_1 b_2 s_7 t_8 at_9 m => k2  l_0a l_0l l_0c a_1 b_2 s_7 t_8 at_9 R m) (sR (sR (sR (sR (sR (sR (body))))))))))))))
abbrev k2Q  (R : Ending → Mem → Prop) : Exit → Env → Mem → Prop := (bodyQ P fn R)
abbrev l1Q  (R : Ending → Mem → Prop) : Exit → Env → Mem → Prop := (blockQ 0 (thenQ (acpt P od (panicR R) (.cut (k2E fun l_0a l_0l l_0c a_1 b_2 s_7 t_8 at_9 m => k2  l_0a l_0l l_0c a_1 b_2 s_7 t_8 at_9 R m) (sR (sR (sR (sR (sR (sR (body)))))))) (bodyQ P fn R)) (bodyQ P fn R)))
abbrev l3Q  (R : Ending → Mem → Prop) : Exit → Env → Mem → Prop := (blockQ 2 (thenQ (acpt P od (panicR R) (.code (sR (sR (sR (sR (sR (sR (sR (sR (sR (sR (sR (sR (sR (sR (sR (body))))))))))))))))) (k2Q  R)) (k2Q  R)))
theorem l3_eq  (K3 : Option Addr → Nat → Nat → Int → Option Addr → Nat → Nat → Option Addr → Nat → Nat → Int → Mem → Prop) (R : Ending → Mem → Prop) (l_0a : Option Addr) (l_0l : Nat) (l_0c : Nat) (at_9 : Int) (x_12a : Option Addr) (x_12l : Nat) (x_12c : Nat) (y_13a : Option Addr) (y_13l : Nat) (y_13c : Nat) (i_14 : Int) (ρ : Env) (m : Mem) : l3B  K3 l_0a l_0l l_0c at_9 x_12a x_12l x_12c y_13a y_13l y_13c i_14 R m = acpt P od (panicR R) (l3A  K3 R) (thenQ (l3E K3) (l3Q  R)) (upd (upd (upd (upd (upd ρ 14 (.int .i64 i_14)) 13 (.slice y_13a y_13l y_13c)) 12 (.slice x_12a x_12l x_12c)) 9 (.int .i64 at_9)) 0 (.slice l_0a l_0l l_0c)) m := by kernel_rfl
theorem l3_er  (K3 : Option Addr → Nat → Nat → Int → Option Addr → Nat → Nat → Option Addr → Nat → Nat → Int → Mem → Prop) (R : Ending → Mem → Prop) : (l3A  K3 R).erase = lP (bB (sR (sL (sR (sR (sR (sR (sR (sR (sR (sR (sR (sR (sR (sR (sR (sR (body)))))))))))))))))) := by kernel_rfl
theorem l3_ok  (R : Ending → Mem → Prop) (ρ : Env) (m : Mem) (h : (l3E fun l_0a l_0l l_0c at_9 x_12a x_12l x_12c y_13a y_13l y_13c i_14 m => l3  l_0a l_0l l_0c at_9 x_12a x_12l x_12c y_13a y_13l y_13c i_14 R m) ρ m) : cpt P od (panicR R) (.loop (lP (bB (sR (sL (sR (sR (sR (sR (sR (sR (sR (sR (sR (sR (sR (sR (sR (sR (body)))))))))))))))))))) (l3Q  R) ρ m := by
  unfold l3E at h
  obtain ⟨l_0a, l_0l, l_0c, e0, h⟩ := h.ex
  obtain ⟨at_9, e9, h⟩ := h.ex
  obtain ⟨x_12a, x_12l, x_12c, e12, h⟩ := h.ex
  obtain ⟨y_13a, y_13l, y_13c, e13, h⟩ := h.ex
  obtain ⟨i_14, e14, h⟩ := h.ex
  obtain ⟨I, N, h0, hs⟩ := h
  refine ⟨fun N => l3E (I N), N, (by show l3E (I N) ρ m; unfold l3E; rw [e0, e9, e12, e13, e14]; exact h0), ?_⟩
  clear h0 e0 e9 e12 e13 e14
  intro N ρ m h
  unfold l3E at h
  obtain ⟨l_0a, l_0l, l_0c, e0, h⟩ := h.ex
  obtain ⟨at_9, e9, h⟩ := h.ex
  obtain ⟨x_12a, x_12l, x_12c, e12, h⟩ := h.ex
  obtain ⟨y_13a, y_13l, y_13c, e13, h⟩ := h.ex
  obtain ⟨i_14, e14, h⟩ := h.ex
  refine cpt_mono (P := P) (lP (bB (sR (sL (sR (sR (sR (sR (sR (sR (sR (sR (sR (sR (sR (sR (sR (sR (body))))))))))))))))))) (Q := thenQ (l3E fun l_0a l_0l l_0c at_9 x_12a x_12l x_12c y_13a y_13l y_13c i_14 m => ∃ N1, N1 < N ∧ I N1 l_0a l_0l l_0c at_9 x_12a x_12l x_12c y_13a y_13l y_13c i_14 m) (l3Q  R)) (fun e ρ m h => ?_) ρ m ?_
  · cases e with
    | normal =>
      have h : l3E (fun l_0a l_0l l_0c at_9 x_12a x_12l x_12c y_13a y_13l y_13c i_14 m => ∃ N1, N1 < N ∧ I N1 l_0a l_0l l_0c at_9 x_12a x_12l x_12c y_13a y_13l y_13c i_14 m) ρ m := h
      unfold l3E at h
      obtain ⟨l_0a, l_0l, l_0c, e0, h⟩ := h.ex
      obtain ⟨at_9, e9, h⟩ := h.ex
      obtain ⟨x_12a, x_12l, x_12c, e12, h⟩ := h.ex
      obtain ⟨y_13a, y_13l, y_13c, e13, h⟩ := h.ex
      obtain ⟨i_14, e14, h⟩ := h.ex
      obtain ⟨N1, hlt, h⟩ := h
      exact ⟨N1, hlt, (by show l3E (I N1) ρ m; unfold l3E; rw [e0, e9, e12, e13, e14]; exact h)⟩
    | _ => exact h
  have hh := hs N l_0a l_0l l_0c at_9 x_12a x_12l x_12c y_13a y_13l y_13c i_14 m h
  generalize (fun l_0a l_0l l_0c at_9 x_12a x_12l x_12c y_13a y_13l y_13c i_14 m => ∃ N1, N1 < N ∧ I N1 l_0a l_0l l_0c at_9 x_12a x_12l x_12c y_13a y_13l y_13c i_14 m : Option Addr → Nat → Nat → Int → Option Addr → Nat → Nat → Option Addr → Nat → Nat → Int → Mem → Prop) = K3 at hh ⊢
  rw [← upd_self e0, ← upd_self e9, ← upd_self e12, ← upd_self e13, ← upd_self e14]
  rw [← l3_er  K3 R]
  refine acpt_sound (P := P) (l3A  K3 R) _ _ _ True.intro ?_
  exact Eq.mp (l3_eq  K3 R l_0a l_0l l_0c at_9 x_12a x_12l x_12c y_13a y_13l y_13c i_14 ρ m) hh
theorem k2_eq  (R : Ending → Mem → Prop) (l_0a : Option Addr) (l_0l : Nat) (l_0c : Nat) (a_1 : Int) (b_2 : Int) (s_7 : Option Addr) (t_8 : Option Addr) (at_9 : Int) (ρ : Env) (m : Mem) : k2  l_0a l_0l l_0c a_1 b_2 s_7 t_8 at_9 R m = acpt P od (panicR R) (k2A  R) (k2Q  R) (upd (upd (upd (upd (upd (upd ρ 9 (.int .i64 at_9)) 8 (.pointer t_8)) 7 (.pointer s_7)) 2 (.int .u8 b_2)) 1 (.int .u8 a_1)) 0 (.slice l_0a l_0l l_0c)) m := by kernel_rfl
theorem k2_er  (R : Ending → Mem → Prop) : (k2A  R).erase = sR (sR (sR (sR (sR (sR (body)))))) := by kernel_rfl
theorem k2_ok  (R : Ending → Mem → Prop) (ρ : Env) (m : Mem) (h : (k2E fun l_0a l_0l l_0c a_1 b_2 s_7 t_8 at_9 m => k2  l_0a l_0l l_0c a_1 b_2 s_7 t_8 at_9 R m) ρ m) : cpt P od (panicR R) (sR (sR (sR (sR (sR (sR (body))))))) (k2Q  R) ρ m := by
  unfold k2E at h
  obtain ⟨l_0a, l_0l, l_0c, e0, h⟩ := h.ex
  obtain ⟨a_1, e1, h⟩ := h.ex
  obtain ⟨b_2, e2, h⟩ := h.ex
  obtain ⟨s_7, e7, h⟩ := h.ex
  obtain ⟨t_8, e8, h⟩ := h.ex
  obtain ⟨at_9, e9, h⟩ := h.ex
  rw [← upd_self e0, ← upd_self e1, ← upd_self e2, ← upd_self e7, ← upd_self e8, ← upd_self e9]
  rw [← k2_er  R]
  refine acpt_sound (P := P) (k2A  R) _ _ _ ⟨⟨⟨⟨⟨⟨⟨⟨⟨True.intro, ⟨(fun ρ m h => l3_ok  R ρ m h), True.intro⟩⟩, True.intro⟩, True.intro⟩, True.intro⟩, True.intro⟩, True.intro⟩, True.intro⟩, True.intro⟩, True.intro⟩ ?_
  exact Eq.mp (k2_eq  R l_0a l_0l l_0c a_1 b_2 s_7 t_8 at_9 ρ m) h
theorem l1_eq  (K1 : Option Addr → Nat → Nat → Int → Int → Option Addr → Option Addr → Int → Int → Mem → Prop) (R : Ending → Mem → Prop) (l_0a : Option Addr) (l_0l : Nat) (l_0c : Nat) (a_1 : Int) (b_2 : Int) (s_7 : Option Addr) (t_8 : Option Addr) (at_9 : Int) (i_10 : Int) (ρ : Env) (m : Mem) : l1B  K1 l_0a l_0l l_0c a_1 b_2 s_7 t_8 at_9 i_10 R m = acpt P od (panicR R) (l1A  K1 R) (thenQ (l1E K1) (l1Q  R)) (upd (upd (upd (upd (upd (upd (upd ρ 10 (.int .i64 i_10)) 9 (.int .i64 at_9)) 8 (.pointer t_8)) 7 (.pointer s_7)) 2 (.int .u8 b_2)) 1 (.int .u8 a_1)) 0 (.slice l_0a l_0l l_0c)) m := by kernel_rfl
theorem l1_er  (K1 : Option Addr → Nat → Nat → Int → Int → Option Addr → Option Addr → Int → Int → Mem → Prop) (R : Ending → Mem → Prop) : (l1A  K1 R).erase = lP (bB (sR (sL (sR (sR (sR (sR (sR (body))))))))) := by kernel_rfl
theorem l1_ok  (R : Ending → Mem → Prop) (ρ : Env) (m : Mem) (h : (l1E fun l_0a l_0l l_0c a_1 b_2 s_7 t_8 at_9 i_10 m => l1  l_0a l_0l l_0c a_1 b_2 s_7 t_8 at_9 i_10 R m) ρ m) : cpt P od (panicR R) (.loop (lP (bB (sR (sL (sR (sR (sR (sR (sR (body))))))))))) (l1Q  R) ρ m := by
  unfold l1E at h
  obtain ⟨l_0a, l_0l, l_0c, e0, h⟩ := h.ex
  obtain ⟨a_1, e1, h⟩ := h.ex
  obtain ⟨b_2, e2, h⟩ := h.ex
  obtain ⟨s_7, e7, h⟩ := h.ex
  obtain ⟨t_8, e8, h⟩ := h.ex
  obtain ⟨at_9, e9, h⟩ := h.ex
  obtain ⟨i_10, e10, h⟩ := h.ex
  obtain ⟨I, N, h0, hs⟩ := h
  refine ⟨fun N => l1E (I N), N, (by show l1E (I N) ρ m; unfold l1E; rw [e0, e1, e2, e7, e8, e9, e10]; exact h0), ?_⟩
  clear h0 e0 e1 e2 e7 e8 e9 e10
  intro N ρ m h
  unfold l1E at h
  obtain ⟨l_0a, l_0l, l_0c, e0, h⟩ := h.ex
  obtain ⟨a_1, e1, h⟩ := h.ex
  obtain ⟨b_2, e2, h⟩ := h.ex
  obtain ⟨s_7, e7, h⟩ := h.ex
  obtain ⟨t_8, e8, h⟩ := h.ex
  obtain ⟨at_9, e9, h⟩ := h.ex
  obtain ⟨i_10, e10, h⟩ := h.ex
  refine cpt_mono (P := P) (lP (bB (sR (sL (sR (sR (sR (sR (sR (body)))))))))) (Q := thenQ (l1E fun l_0a l_0l l_0c a_1 b_2 s_7 t_8 at_9 i_10 m => ∃ N1, N1 < N ∧ I N1 l_0a l_0l l_0c a_1 b_2 s_7 t_8 at_9 i_10 m) (l1Q  R)) (fun e ρ m h => ?_) ρ m ?_
  · cases e with
    | normal =>
      have h : l1E (fun l_0a l_0l l_0c a_1 b_2 s_7 t_8 at_9 i_10 m => ∃ N1, N1 < N ∧ I N1 l_0a l_0l l_0c a_1 b_2 s_7 t_8 at_9 i_10 m) ρ m := h
      unfold l1E at h
      obtain ⟨l_0a, l_0l, l_0c, e0, h⟩ := h.ex
      obtain ⟨a_1, e1, h⟩ := h.ex
      obtain ⟨b_2, e2, h⟩ := h.ex
      obtain ⟨s_7, e7, h⟩ := h.ex
      obtain ⟨t_8, e8, h⟩ := h.ex
      obtain ⟨at_9, e9, h⟩ := h.ex
      obtain ⟨i_10, e10, h⟩ := h.ex
      obtain ⟨N1, hlt, h⟩ := h
      exact ⟨N1, hlt, (by show l1E (I N1) ρ m; unfold l1E; rw [e0, e1, e2, e7, e8, e9, e10]; exact h)⟩
    | _ => exact h
  have hh := hs N l_0a l_0l l_0c a_1 b_2 s_7 t_8 at_9 i_10 m h
  generalize (fun l_0a l_0l l_0c a_1 b_2 s_7 t_8 at_9 i_10 m => ∃ N1, N1 < N ∧ I N1 l_0a l_0l l_0c a_1 b_2 s_7 t_8 at_9 i_10 m : Option Addr → Nat → Nat → Int → Int → Option Addr → Option Addr → Int → Int → Mem → Prop) = K1 at hh ⊢
  rw [← upd_self e0, ← upd_self e1, ← upd_self e2, ← upd_self e7, ← upd_self e8, ← upd_self e9, ← upd_self e10]
  rw [← l1_er  K1 R]
  refine acpt_sound (P := P) (l1A  K1 R) _ _ _ True.intro ?_
  exact Eq.mp (l1_eq  K1 R l_0a l_0l l_0c a_1 b_2 s_7 t_8 at_9 i_10 ρ m) hh
theorem e0_eq (l_0a : Option Addr) (l_0l : Nat) (l_0c : Nat) (a_1 : Int) (b_2 : Int) (R : Ending → Mem → Prop) (m : Mem) : e0 l_0a l_0l l_0c a_1 b_2 R m = acpt P od (panicR R) (e0A R) (bodyQ P fn R) (argE (#[.slice l_0a l_0l l_0c, .int .u8 a_1, .int .u8 b_2] : Array Value).toList) m := by kernel_rfl
theorem ok (l_0a : Option Addr) (l_0l : Nat) (l_0c : Nat) (a_1 : Int) (b_2 : Int) (R : Ending → Mem → Prop) (m : Mem) (h : e0 l_0a l_0l l_0c a_1 b_2 R m) : HC P id #[.slice l_0a l_0l l_0c, .int .u8 a_1, .int .u8 b_2] m R := by
  refine HC_of (fn := fn) (c := body) (od := od) (tb := tb) Go.Proofs.Try.func4 (by kernel_rfl) (by kernel_rfl) follows (by kernel_rfl) (of_decide_eq_true (by kernel_rfl)) ?_
  have he : (e0A R).erase = body := by kernel_rfl
  rw [← he]
  refine acpt_sound (P := P) (e0A R) _ _ _ ⟨⟨⟨⟨⟨⟨(fun ρ m h => k2_ok  R ρ m h), ⟨(fun ρ m h => l1_ok  R ρ m h), True.intro⟩⟩, True.intro⟩, True.intro⟩, True.intro⟩, True.intro⟩, True.intro⟩ ?_
  exact Eq.mp (e0_eq l_0a l_0l l_0c a_1 b_2 R m) h
end eyotlaw28_ChunkMoves
/-! ### eyot/eyotlaw28.begun -/
namespace eyotlaw28_begun
noncomputable def fn : Func := Go.Proofs.Try.f5
noncomputable def body : Code := fn.body.getD .skip
def od : Nat → Ord := fun _ => .done
def tb : Nat → Tab := fun _ => (0, [], [])
def e0  (R : Ending → Mem → Prop) (m : Mem) : Prop :=
 HC P chunk_New.id #[.int .i64 2] m (Cont (fun v m1 =>
   UnP v fun x4 =>
   HC P chunk_Store_Put.id #[.pointer x4, .agg #[.int .i64 4, .int .i64 8, .slice none 0 0]] m1 (Cont (fun v m2 =>
     UnTup v fun us0 =>
     UnNil us0 (
      HC P chunk_Store_Edit.id #[.pointer x4, .int .i64 0, .int .i64 0, .int .i64 3, .int .i64 1] m2 (Cont (fun v m3 =>
        UnTup v fun us0 =>
        UnNil us0 (
        HC P chunk_Store_Get.id #[.pointer x4, .int .i64 7] m3 (Cont (fun v m4 =>
        UnTup v fun us0 =>
        UnCons us0 fun w us1 =>
        UnAgg w fun l =>
        UnCons l fun v l =>
        UnI v .i64 fun x12_0_0 =>
        UnCons l fun v l =>
        UnI v .i64 fun x12_0_1 =>
        UnCons l fun v l =>
        UnS v fun x12_0_2a x12_0_2l x12_0_2c =>
        UnNil l (
        UnCons us1 fun w us2 =>
        UnB w fun x12_1 =>
        UnNil us2 (
        NewC m4 #[.int .i64 0, .int .i64 0, .slice none 0 0] T_chunk_Chunk fun b_c_2 m5 =>
        St1 m5 b_c_2 0 (.int .i64 x12_0_0) fun m6 =>
        St1 m6 b_c_2 1 (.int .i64 x12_0_1) fun m7 =>
        St1 m7 b_c_2 2 (.slice x12_0_2a x12_0_2l x12_0_2c) fun m8 =>
        Br x12_1 (
        LdV m8 b_c_2 1 fun v =>
        UnI v .i64 fun x18 =>
        Br (x18 == 11) (
        HC P chunk_Store_Kept.id #[.pointer x4] m8 (Cont (fun v m9 =>
        UnS v fun x23a x23l x23c =>
        R (.returned (.bool (((x23l : Nat) : Int) == 1))) m9) (panicR R))) (
        R (.returned (.bool false)) m8)) (
        R (.returned (.bool false)) m8)))) (panicR R)))) (panicR R)))) (panicR R))) (panicR R))
noncomputable def e0A (R : Ending → Mem → Prop) : ACode := (.code (body))
theorem e0_eq  (R : Ending → Mem → Prop) (m : Mem) : e0  R m = acpt P od (panicR R) (e0A R) (bodyQ P fn R) (argE (#[] : Array Value).toList) m := by kernel_rfl
theorem ok  (R : Ending → Mem → Prop) (m : Mem) (h : e0  R m) : HC P id #[] m R := by
  refine HC_of (fn := fn) (c := body) (od := od) (tb := tb) Go.Proofs.Try.func5 (by kernel_rfl) (by kernel_rfl) follows (by kernel_rfl) (of_decide_eq_true (by kernel_rfl)) ?_
  have he : (e0A R).erase = body := by kernel_rfl
  rw [← he]
  refine acpt_sound (P := P) (e0A R) _ _ _ True.intro ?_
  exact Eq.mp (e0_eq  R m) h
end eyotlaw28_begun
/-! ### eyot/chunk.New -/
namespace chunk_New
noncomputable def fn : Func := Go.Proofs.Try.f6
noncomputable def body : Code := fn.body.getD .skip
def od : Nat → Ord := fun _ => .done
def tb : Nat → Tab := fun _ => (0, [], [])
def e0 (most_0 : Int) (R : Ending → Mem → Prop) (m : Mem) : Prop :=
 HC P lru_New_chunk_Chunk.id #[.int .i64 most_0] m (Cont (fun v m1 =>
   UnP v fun x5 =>
   NewC m1 #[.int .i64 most_0, .pointer x5] T_chunk_Store fun b7 m2 =>
   R (.returned (.pointer (some ⟨b7, 0, none⟩))) m2) (panicR R))
noncomputable def e0A (R : Ending → Mem → Prop) : ACode := (.code (body))
theorem e0_eq (most_0 : Int) (R : Ending → Mem → Prop) (m : Mem) : e0 most_0 R m = acpt P od (panicR R) (e0A R) (bodyQ P fn R) (argE (#[.int .i64 most_0] : Array Value).toList) m := by kernel_rfl
theorem ok (most_0 : Int) (R : Ending → Mem → Prop) (m : Mem) (h : e0 most_0 R m) : HC P id #[.int .i64 most_0] m R := by
  refine HC_of (fn := fn) (c := body) (od := od) (tb := tb) Go.Proofs.Try.func6 (by kernel_rfl) (by kernel_rfl) follows (by kernel_rfl) (of_decide_eq_true (by kernel_rfl)) ?_
  have he : (e0A R).erase = body := by kernel_rfl
  rw [← he]
  refine acpt_sound (P := P) (e0A R) _ _ _ True.intro ?_
  exact Eq.mp (e0_eq most_0 R m) h
end chunk_New
/-! ### (*eyot/chunk.Store).Put -/
namespace chunk_Store_Put
noncomputable def fn : Func := Go.Proofs.Try.f7
noncomputable def body : Code := fn.body.getD .skip
def od : Nat → Ord := fun | 4 => ordL [(0, 3), (1, 3), (2, 3), (3, 1), (4, 3), (5, 1), (6, 0), (7, 0), (8, 2)] .done | _ => .done
def tb : Nat → Tab := fun | 4 => (256, [0, 1, 3, 7, 0, 16, 0, 64, 255], [(0, 1, 20), (1, 524288, 21), (2, 1048576, 22), (4, 2097152, 23), (0, 8, 24), (16, 8388608, 25), (0, 8, 26), (64, 33554432, 27), (168, 88080384, 28)]) | _ => (0, [], [])
def k1E (K : Option Addr → Nat → Nat → Mem → Prop) : Env → Mem → Prop := fun ρ m => UnP (ρ 0) fun s_0 => UnPA (ρ 3) fun c_3b c_3o => K s_0 c_3b c_3o m
def k1  (s_0 : Option Addr) (c_3b : Nat) (c_3o : Nat) (R : Ending → Mem → Prop) (m : Mem) : Prop :=
 Sub m fun r1 =>
 NilC s_0 (fun x20b x20o =>
  LdV r1 x20b (x20o + 1) fun v =>
  UnP v fun x22 =>
  LdV r1 c_3b c_3o fun v =>
  UnI v .i64 fun x24 =>
  LdV m c_3b c_3o fun v =>
  UnI v .i64 fun x25_0 =>
  LdV m c_3b (c_3o + 1) fun v =>
  UnI v .i64 fun x25_1 =>
  LdV m c_3b (c_3o + 2) fun v =>
  UnS v fun x25_2a x25_2l x25_2c =>
  HC P chunk_move.id #[.agg #[.int .i64 x25_0, .int .i64 x25_1, .slice x25_2a x25_2l x25_2c], .int .i64 0] m (Cont (fun v m2 =>
    UnAgg v fun l =>
    UnCons l fun v l =>
    UnI v .i64 fun x26_0 =>
    UnCons l fun v l =>
    UnI v .i64 fun x26_1 =>
    UnCons l fun v l =>
    UnS v fun x26_2a x26_2l x26_2c =>
    UnNil l (
     Lk r1 m2 fun r3 =>
     HC P lru_Cache_chunk_Chunk_Put.id #[.pointer x22, .int .i64 x24, .agg #[.int .i64 x26_0, .int .i64 x26_1, .slice x26_2a x26_2l x26_2c]] m2 (Cont (fun v m4 =>
       UnTup v fun us0 =>
       UnCons us0 fun w us1 =>
       UnI w .i64 fun x27_0 =>
       UnCons us1 fun w us2 =>
       UnB w fun x27_1 =>
       UnNil us2 (
        R (.returned (.tuple #[])) m4)) (panicR R)))) (panicR R))) (False)
noncomputable def k1A  (R : Ending → Mem → Prop) : ACode := (.code (sR (sR (sR (body)))))
def e0 (s_0 : Option Addr) (c_1_0 : Int) (c_1_1 : Int) (c_1_2a : Option Addr) (c_1_2l : Nat) (c_1_2c : Nat) (R : Ending → Mem → Prop) (m : Mem) : Prop :=
 NewC m #[.int .i64 c_1_0, .int .i64 c_1_1, .slice c_1_2a c_1_2l c_1_2c] T_chunk_Chunk fun b_c_3 m1 =>
 Br s_0.isNone (
  R (.returned (.tuple #[])) m1) (
  NilC s_0 (fun x7b x7o =>
   LdV m1 x7b (x7o + 1) fun v =>
   UnP v fun x9 =>
   Br x9.isNone (
    NilC s_0 (fun x13b x13o =>
     LdV m1 x13b x13o fun v =>
     UnI v .i64 fun x15 =>
     HC P lru_New_chunk_Chunk.id #[.int .i64 x15] m1 (Cont (fun v m2 =>
       UnP v fun x16 =>
       NilC s_0 (fun x17b x17o =>
        St1 m2 x17b (x17o + 1) (.pointer x16) fun m3 =>
        k1  s_0 b_c_3 0 R m3) (R (.panicked (nilPanic P)) m2)) (panicR R))) (R (.panicked (nilPanic P)) m1)) (
    k1  s_0 b_c_3 0 R m1)) (R (.panicked (nilPanic P)) m1))
noncomputable def e0A (R : Ending → Mem → Prop) : ACode := (.seq (.code (sL (body))) (.seq (.code (sL (sR (body)))) (.seq (.code (sL (sR (sR (body))))) (.cut (k1E fun s_0 c_3b c_3o m => k1  s_0 c_3b c_3o R m) (sR (sR (sR (body))))))))
abbrev k1Q  (R : Ending → Mem → Prop) : Exit → Env → Mem → Prop := (bodyQ P fn R)
theorem k1_eq  (R : Ending → Mem → Prop) (s_0 : Option Addr) (c_3b : Nat) (c_3o : Nat) (ρ : Env) (m : Mem) : k1  s_0 c_3b c_3o R m = acpt P od (panicR R) (k1A  R) (k1Q  R) (upd (upd ρ 3 (.pointer (some ⟨c_3b, c_3o, none⟩))) 0 (.pointer s_0)) m := by kernel_rfl
theorem k1_er  (R : Ending → Mem → Prop) : (k1A  R).erase = sR (sR (sR (body))) := by kernel_rfl
theorem k1_ok  (R : Ending → Mem → Prop) (ρ : Env) (m : Mem) (h : (k1E fun s_0 c_3b c_3o m => k1  s_0 c_3b c_3o R m) ρ m) : cpt P od (panicR R) (sR (sR (sR (body)))) (k1Q  R) ρ m := by
  unfold k1E at h
  obtain ⟨s_0, e0, h⟩ := h.ex
  obtain ⟨c_3b, c_3o, e3, h⟩ := h.ex
  rw [← upd_self e0, ← upd_self e3]
  rw [← k1_er  R]
  refine acpt_sound (P := P) (k1A  R) _ _ _ True.intro ?_
  exact Eq.mp (k1_eq  R s_0 c_3b c_3o ρ m) h
theorem e0_eq (s_0 : Option Addr) (c_1_0 : Int) (c_1_1 : Int) (c_1_2a : Option Addr) (c_1_2l : Nat) (c_1_2c : Nat) (R : Ending → Mem → Prop) (m : Mem) : e0 s_0 c_1_0 c_1_1 c_1_2a c_1_2l c_1_2c R m = acpt P od (panicR R) (e0A R) (bodyQ P fn R) (argE (#[.pointer s_0, .agg #[.int .i64 c_1_0, .int .i64 c_1_1, .slice c_1_2a c_1_2l c_1_2c]] : Array Value).toList) m := by kernel_rfl
theorem ok (s_0 : Option Addr) (c_1_0 : Int) (c_1_1 : Int) (c_1_2a : Option Addr) (c_1_2l : Nat) (c_1_2c : Nat) (R : Ending → Mem → Prop) (m : Mem) (h : e0 s_0 c_1_0 c_1_1 c_1_2a c_1_2l c_1_2c R m) : HC P id #[.pointer s_0, .agg #[.int .i64 c_1_0, .int .i64 c_1_1, .slice c_1_2a c_1_2l c_1_2c]] m R := by
  refine HC_of (fn := fn) (c := body) (od := od) (tb := tb) Go.Proofs.Try.func7 (by kernel_rfl) (by kernel_rfl) follows (by kernel_rfl) (of_decide_eq_true (by kernel_rfl)) ?_
  have he : (e0A R).erase = body := by kernel_rfl
  rw [← he]
  refine acpt_sound (P := P) (e0A R) _ _ _ ⟨⟨⟨(fun ρ m h => k1_ok  R ρ m h), True.intro⟩, True.intro⟩, True.intro⟩ ?_
  exact Eq.mp (e0_eq s_0 c_1_0 c_1_1 c_1_2a c_1_2l c_1_2c R m) h
end chunk_Store_Put
/-! ### eyot/eyotlaw28.made -/
namespace eyotlaw28_made
noncomputable def fn : Func := Go.Proofs.Try.f8
noncomputable def body : Code := fn.body.getD .skip
def od : Nat → Ord := fun _ => .done
def tb : Nat → Tab := fun _ => (0, [], [])
def e0 (a_0 : Int) (b_1 : Int) (R : Ending → Mem → Prop) (m : Mem) : Prop :=
 NewC m #[.int .i64 0, .int .i64 0, .slice none 0 0] T_chunk_Chunk fun b4 m1 =>
 NewC m1 #[.int .i64 0, .int .i64 0, .int .i64 (-1), .int .i64 a_0, .int .i64 b_1] T_api_Node fun b12 m2 =>
 NewC m2 #[.int .i64 a_0, .int .i64 b_1, .slice (some ⟨b12, 0, none⟩) 1 1] T_api_Span fun b14 m3 =>
 St1 m3 b4 0 (.int .i64 a_0) fun m4 =>
 St1 m4 b4 1 (.int .i64 b_1) fun m5 =>
 St1 m5 b4 2 (.slice (some ⟨b14, 0, none⟩) 1 1) fun m6 =>
 LdV m6 b4 0 fun v =>
 UnI v .i64 fun res0_0 =>
 LdV m6 b4 1 fun v =>
 UnI v .i64 fun res0_1 =>
 LdV m6 b4 2 fun v =>
 UnS v fun res0_2a res0_2l res0_2c =>
 R (.returned (.agg #[.int .i64 res0_0, .int .i64 res0_1, .slice res0_2a res0_2l res0_2c])) m6
noncomputable def e0A (R : Ending → Mem → Prop) : ACode := (.code (body))
theorem e0_eq (a_0 : Int) (b_1 : Int) (R : Ending → Mem → Prop) (m : Mem) : e0 a_0 b_1 R m = acpt P od (panicR R) (e0A R) (bodyQ P fn R) (argE (#[.int .i64 a_0, .int .i64 b_1] : Array Value).toList) m := by kernel_rfl
theorem ok (a_0 : Int) (b_1 : Int) (R : Ending → Mem → Prop) (m : Mem) (h : e0 a_0 b_1 R m) : HC P id #[.int .i64 a_0, .int .i64 b_1] m R := by
  refine HC_of (fn := fn) (c := body) (od := od) (tb := tb) Go.Proofs.Try.func8 (by kernel_rfl) (by kernel_rfl) follows (by kernel_rfl) (of_decide_eq_true (by kernel_rfl)) ?_
  have he : (e0A R).erase = body := by kernel_rfl
  rw [← he]
  refine acpt_sound (P := P) (e0A R) _ _ _ True.intro ?_
  exact Eq.mp (e0_eq a_0 b_1 R m) h
end eyotlaw28_made
/-! ### (*eyot/chunk.Store).Edit -/
namespace chunk_Store_Edit
noncomputable def fn : Func := Go.Proofs.Try.f9
noncomputable def body : Code := fn.body.getD .skip
def od : Nat → Ord := fun _ => .done
def tb : Nat → Tab := fun _ => (0, [], [])
def k2E (K : Option Addr → Option Addr → Mem → Prop) : Env → Mem → Prop := fun ρ m => UnP (ρ 0) fun s_0 => UnP (ρ 11) fun kept_11 => K s_0 kept_11 m
def k2  (s_0 : Option Addr) (kept_11 : Option Addr) (R : Ending → Mem → Prop) (m : Mem) : Prop :=
 NilC s_0 (fun x79b x79o =>
  St1 m x79b (x79o + 1) (.pointer kept_11) fun m1 =>
  R (.returned (.tuple #[])) m1) (R (.panicked (nilPanic P)) m)
noncomputable def k2A  (R : Ending → Mem → Prop) : ACode := (.code (sR (sR (sR (sR (sR (body)))))))
def l1E (K : Option Addr → Int → Int → Int → Int → Option Addr → Option Addr → Nat → Nat → Int → Int → Mem → Prop) : Env → Mem → Prop := fun ρ m => UnP (ρ 0) fun s_0 => UnI (ρ 1) .i64 fun a_1 => UnI (ρ 2) .i64 fun b_2 => UnI (ρ 3) .i64 fun n_3 => UnI (ρ 4) .i64 fun reach_4 => UnP (ρ 11) fun kept_11 => UnS (ρ 30) fun x30a x30l x30c => UnI (ρ 31) .i64 fun x31 => UnI (ρ 32) .i64 fun x32 => K s_0 a_1 b_2 n_3 reach_4 kept_11 x30a x30l x30c x31 x32 m
def l1B  (K1 : Option Addr → Int → Int → Int → Int → Option Addr → Option Addr → Nat → Nat → Int → Int → Mem → Prop) (s_0 : Option Addr) (a_1 : Int) (b_2 : Int) (n_3 : Int) (reach_4 : Int) (kept_11 : Option Addr) (x30a : Option Addr) (x30l : Nat) (x30c : Nat) (x31 : Int) (x32 : Int) (R : Ending → Mem → Prop) (m : Mem) : Prop :=
 Br (decide (x32 < x31)) (
  IxS x30a x30l x32 1 fun x34b x34o =>
  LdV m x34b x34o fun v =>
  UnI v .i64 fun x35 =>
  NilC s_0 (fun x38b x38o =>
   LdV m x38b (x38o + 1) fun v =>
   UnP v fun x40 =>
   HC P lru_Cache_chunk_Chunk_Get.id #[.pointer x40, .int .i64 x35] m (Cont (fun v m1 =>
     UnTup v fun us0 =>
     UnCons us0 fun w us1 =>
     UnAgg w fun l =>
     UnCons l fun v l =>
     UnI v .i64 fun x42_0_0 =>
     UnCons l fun v l =>
     UnI v .i64 fun x42_0_1 =>
     UnCons l fun v l =>
     UnS v fun x42_0_2a x42_0_2l x42_0_2c =>
     UnNil l (
      UnCons us1 fun w us2 =>
      UnB w fun x42_1 =>
      UnNil us2 (
       NewC m1 #[.int .i64 0, .int .i64 0, .slice none 0 0] T_chunk_Chunk fun b_c_14 m2 =>
       St1 m2 b_c_14 0 (.int .i64 x42_0_0) fun m3 =>
       St1 m3 b_c_14 1 (.int .i64 x42_0_1) fun m4 =>
       St1 m4 b_c_14 2 (.slice x42_0_2a x42_0_2l x42_0_2c) fun m5 =>
       LdV m5 b_c_14 1 fun v =>
       UnI v .i64 fun x47 =>
       Br (decide (x47 ≤ (IntKind.i64.wrap (a_1 - reach_4)))) (
        LdV m5 b_c_14 0 fun v =>
        UnI v .i64 fun x54 =>
        LdV m5 b_c_14 0 fun v =>
        UnI v .i64 fun x55_0 =>
        LdV m5 b_c_14 1 fun v =>
        UnI v .i64 fun x55_1 =>
        LdV m5 b_c_14 2 fun v =>
        UnS v fun x55_2a x55_2l x55_2c =>
        HC P lru_Cache_chunk_Chunk_Put.id #[.pointer kept_11, .int .i64 x54, .agg #[.int .i64 x55_0, .int .i64 x55_1, .slice x55_2a x55_2l x55_2c]] m5 (Cont (fun v m6 =>
        UnTup v fun us0 =>
        UnCons us0 fun w us1 =>
        UnI w .i64 fun x56_0 =>
        UnCons us1 fun w us2 =>
        UnB w fun x56_1 =>
        UnNil us2 (
        K1 s_0 a_1 b_2 n_3 reach_4 kept_11 x30a x30l x30c x31 (IntKind.i64.wrap (x32 + 1)) m6)) (panicR R))) (
        LdV m5 b_c_14 0 fun v =>
        UnI v .i64 fun x59 =>
        Br (decide ((IntKind.i64.wrap (x59 - reach_4)) ≥ b_2)) (
        LdV m5 b_c_14 0 fun v =>
        UnI v .i64 fun x64_0 =>
        LdV m5 b_c_14 1 fun v =>
        UnI v .i64 fun x64_1 =>
        LdV m5 b_c_14 2 fun v =>
        UnS v fun x64_2a x64_2l x64_2c =>
        HC P chunk_move.id #[.agg #[.int .i64 x64_0, .int .i64 x64_1, .slice x64_2a x64_2l x64_2c], .int .i64 (IntKind.i64.wrap (n_3 - (IntKind.i64.wrap (b_2 - a_1))))] m5 (Cont (fun v m6 =>
        UnAgg v fun l =>
        UnCons l fun v l =>
        UnI v .i64 fun x70_0 =>
        UnCons l fun v l =>
        UnI v .i64 fun x70_1 =>
        UnCons l fun v l =>
        UnS v fun x70_2a x70_2l x70_2c =>
        UnNil l (
        St1 m6 b_c_14 0 (.int .i64 x70_0) fun m7 =>
        St1 m7 b_c_14 1 (.int .i64 x70_1) fun m8 =>
        St1 m8 b_c_14 2 (.slice x70_2a x70_2l x70_2c) fun m9 =>
        LdV m9 b_c_14 0 fun v =>
        UnI v .i64 fun x73 =>
        LdV m9 b_c_14 0 fun v =>
        UnI v .i64 fun x74_0 =>
        LdV m9 b_c_14 1 fun v =>
        UnI v .i64 fun x74_1 =>
        LdV m9 b_c_14 2 fun v =>
        UnS v fun x74_2a x74_2l x74_2c =>
        HC P lru_Cache_chunk_Chunk_Put.id #[.pointer kept_11, .int .i64 x73, .agg #[.int .i64 x74_0, .int .i64 x74_1, .slice x74_2a x74_2l x74_2c]] m9 (Cont (fun v m10 =>
        UnTup v fun us0 =>
        UnCons us0 fun w us1 =>
        UnI w .i64 fun x75_0 =>
        UnCons us1 fun w us2 =>
        UnB w fun x75_1 =>
        UnNil us2 (
        K1 s_0 a_1 b_2 n_3 reach_4 kept_11 x30a x30l x30c x31 (IntKind.i64.wrap (x32 + 1)) m10)) (panicR R)))) (panicR R))) (
        K1 s_0 a_1 b_2 n_3 reach_4 kept_11 x30a x30l x30c x31 (IntKind.i64.wrap (x32 + 1)) m5))))) (panicR R))) (R (.panicked (nilPanic P)) m)) (
  k2  s_0 kept_11 R m)
def l1  (s_0 : Option Addr) (a_1 : Int) (b_2 : Int) (n_3 : Int) (reach_4 : Int) (kept_11 : Option Addr) (x30a : Option Addr) (x30l : Nat) (x30c : Nat) (x31 : Int) (x32 : Int) (R : Ending → Mem → Prop) (m : Mem) : Prop :=
  ∃ (I : Nat → Option Addr → Int → Int → Int → Int → Option Addr → Option Addr → Nat → Nat → Int → Int → Mem → Prop) (N : Nat), I N s_0 a_1 b_2 n_3 reach_4 kept_11 x30a x30l x30c x31 x32 m ∧ ∀ N s_0 a_1 b_2 n_3 reach_4 kept_11 x30a x30l x30c x31 x32 m, I N s_0 a_1 b_2 n_3 reach_4 kept_11 x30a x30l x30c x31 x32 m → l1B  (fun s_0 a_1 b_2 n_3 reach_4 kept_11 x30a x30l x30c x31 x32 m => ∃ N1, N1 < N ∧ I N1 s_0 a_1 b_2 n_3 reach_4 kept_11 x30a x30l x30c x31 x32 m) s_0 a_1 b_2 n_3 reach_4 kept_11 x30a x30l x30c x31 x32 R m
noncomputable def l1A  (K1 : Option Addr → Int → Int → Int → Int → Option Addr → Option Addr → Nat → Nat → Int → Int → Mem → Prop) (R : Ending → Mem → Prop) : ACode := (.code (lP (bB (sR (sL (sR (sR (sR (sR (body))))))))))
def e0 (s_0 : Option Addr) (a_1 : Int) (b_2 : Int) (n_3 : Int) (reach_4 : Int) (R : Ending → Mem → Prop) (m : Mem) : Prop :=
 Br s_0.isNone (
  R (.returned (.tuple #[])) m) (
  NilC s_0 (fun x19b x19o =>
   LdV m x19b (x19o + 1) fun v =>
   UnP v fun x21 =>
   HC P lru_Cache_chunk_Chunk_Keys.id #[.pointer x21] m (Cont (fun v m1 =>
     UnS v fun x22a x22l x22c =>
     HC P slices_Reverse_s_int_int.id #[.slice x22a x22l x22c] m1 (Cont (fun v m2 =>
       UnTup v fun us0 =>
       UnNil us0 (
        NilC s_0 (fun x26b x26o =>
        LdV m2 x26b x26o fun v =>
        UnI v .i64 fun x28 =>
        HC P lru_New_chunk_Chunk.id #[.int .i64 x28] m2 (Cont (fun v m3 =>
        UnP v fun x29 =>
        l1  s_0 a_1 b_2 n_3 reach_4 x29 x22a x22l x22c ((x22l : Nat) : Int) 0 R m3) (panicR R))) (R (.panicked (nilPanic P)) m2))) (panicR R))) (panicR R))) (R (.panicked (nilPanic P)) m))
noncomputable def e0A (R : Ending → Mem → Prop) : ACode := (.seq (.code (sL (body))) (.seq (.code (sL (sR (body)))) (.seq (.code (sL (sR (sR (body))))) (.seq (.code (sL (sR (sR (sR (body)))))) (.seq (.seq (.code (sL (sL (sR (sR (sR (sR (body)))))))) (.block 0 (.cut (l1E fun s_0 a_1 b_2 n_3 reach_4 kept_11 x30a x30l x30c x31 x32 m => l1  s_0 a_1 b_2 n_3 reach_4 kept_11 x30a x30l x30c x31 x32 R m) (.loop (lP (bB (sR (sL (sR (sR (sR (sR (body))))))))))))) (.cut (k2E fun s_0 kept_11 m => k2  s_0 kept_11 R m) (sR (sR (sR (sR (sR (body))))))))))))
abbrev k2Q  (R : Ending → Mem → Prop) : Exit → Env → Mem → Prop := (bodyQ P fn R)
abbrev l1Q  (R : Ending → Mem → Prop) : Exit → Env → Mem → Prop := (blockQ 0 (thenQ (acpt P od (panicR R) (.cut (k2E fun s_0 kept_11 m => k2  s_0 kept_11 R m) (sR (sR (sR (sR (sR (body))))))) (bodyQ P fn R)) (bodyQ P fn R)))
theorem k2_eq  (R : Ending → Mem → Prop) (s_0 : Option Addr) (kept_11 : Option Addr) (ρ : Env) (m : Mem) : k2  s_0 kept_11 R m = acpt P od (panicR R) (k2A  R) (k2Q  R) (upd (upd ρ 11 (.pointer kept_11)) 0 (.pointer s_0)) m := by kernel_rfl
theorem k2_er  (R : Ending → Mem → Prop) : (k2A  R).erase = sR (sR (sR (sR (sR (body))))) := by kernel_rfl
theorem k2_ok  (R : Ending → Mem → Prop) (ρ : Env) (m : Mem) (h : (k2E fun s_0 kept_11 m => k2  s_0 kept_11 R m) ρ m) : cpt P od (panicR R) (sR (sR (sR (sR (sR (body)))))) (k2Q  R) ρ m := by
  unfold k2E at h
  obtain ⟨s_0, e0, h⟩ := h.ex
  obtain ⟨kept_11, e11, h⟩ := h.ex
  rw [← upd_self e0, ← upd_self e11]
  rw [← k2_er  R]
  refine acpt_sound (P := P) (k2A  R) _ _ _ True.intro ?_
  exact Eq.mp (k2_eq  R s_0 kept_11 ρ m) h
theorem l1_eq  (K1 : Option Addr → Int → Int → Int → Int → Option Addr → Option Addr → Nat → Nat → Int → Int → Mem → Prop) (R : Ending → Mem → Prop) (s_0 : Option Addr) (a_1 : Int) (b_2 : Int) (n_3 : Int) (reach_4 : Int) (kept_11 : Option Addr) (x30a : Option Addr) (x30l : Nat) (x30c : Nat) (x31 : Int) (x32 : Int) (ρ : Env) (m : Mem) : l1B  K1 s_0 a_1 b_2 n_3 reach_4 kept_11 x30a x30l x30c x31 x32 R m = acpt P od (panicR R) (l1A  K1 R) (thenQ (l1E K1) (l1Q  R)) (upd (upd (upd (upd (upd (upd (upd (upd (upd ρ 32 (.int .i64 x32)) 31 (.int .i64 x31)) 30 (.slice x30a x30l x30c)) 11 (.pointer kept_11)) 4 (.int .i64 reach_4)) 3 (.int .i64 n_3)) 2 (.int .i64 b_2)) 1 (.int .i64 a_1)) 0 (.pointer s_0)) m := by kernel_rfl
theorem l1_er  (K1 : Option Addr → Int → Int → Int → Int → Option Addr → Option Addr → Nat → Nat → Int → Int → Mem → Prop) (R : Ending → Mem → Prop) : (l1A  K1 R).erase = lP (bB (sR (sL (sR (sR (sR (sR (body)))))))) := by kernel_rfl
theorem l1_ok  (R : Ending → Mem → Prop) (ρ : Env) (m : Mem) (h : (l1E fun s_0 a_1 b_2 n_3 reach_4 kept_11 x30a x30l x30c x31 x32 m => l1  s_0 a_1 b_2 n_3 reach_4 kept_11 x30a x30l x30c x31 x32 R m) ρ m) : cpt P od (panicR R) (.loop (lP (bB (sR (sL (sR (sR (sR (sR (body)))))))))) (l1Q  R) ρ m := by
  unfold l1E at h
  obtain ⟨s_0, e0, h⟩ := h.ex
  obtain ⟨a_1, e1, h⟩ := h.ex
  obtain ⟨b_2, e2, h⟩ := h.ex
  obtain ⟨n_3, e3, h⟩ := h.ex
  obtain ⟨reach_4, e4, h⟩ := h.ex
  obtain ⟨kept_11, e11, h⟩ := h.ex
  obtain ⟨x30a, x30l, x30c, e30, h⟩ := h.ex
  obtain ⟨x31, e31, h⟩ := h.ex
  obtain ⟨x32, e32, h⟩ := h.ex
  obtain ⟨I, N, h0, hs⟩ := h
  refine ⟨fun N => l1E (I N), N, (by show l1E (I N) ρ m; unfold l1E; rw [e0, e1, e2, e3, e4, e11, e30, e31, e32]; exact h0), ?_⟩
  clear h0 e0 e1 e2 e3 e4 e11 e30 e31 e32
  intro N ρ m h
  unfold l1E at h
  obtain ⟨s_0, e0, h⟩ := h.ex
  obtain ⟨a_1, e1, h⟩ := h.ex
  obtain ⟨b_2, e2, h⟩ := h.ex
  obtain ⟨n_3, e3, h⟩ := h.ex
  obtain ⟨reach_4, e4, h⟩ := h.ex
  obtain ⟨kept_11, e11, h⟩ := h.ex
  obtain ⟨x30a, x30l, x30c, e30, h⟩ := h.ex
  obtain ⟨x31, e31, h⟩ := h.ex
  obtain ⟨x32, e32, h⟩ := h.ex
  refine cpt_mono (P := P) (lP (bB (sR (sL (sR (sR (sR (sR (body))))))))) (Q := thenQ (l1E fun s_0 a_1 b_2 n_3 reach_4 kept_11 x30a x30l x30c x31 x32 m => ∃ N1, N1 < N ∧ I N1 s_0 a_1 b_2 n_3 reach_4 kept_11 x30a x30l x30c x31 x32 m) (l1Q  R)) (fun e ρ m h => ?_) ρ m ?_
  · cases e with
    | normal =>
      have h : l1E (fun s_0 a_1 b_2 n_3 reach_4 kept_11 x30a x30l x30c x31 x32 m => ∃ N1, N1 < N ∧ I N1 s_0 a_1 b_2 n_3 reach_4 kept_11 x30a x30l x30c x31 x32 m) ρ m := h
      unfold l1E at h
      obtain ⟨s_0, e0, h⟩ := h.ex
      obtain ⟨a_1, e1, h⟩ := h.ex
      obtain ⟨b_2, e2, h⟩ := h.ex
      obtain ⟨n_3, e3, h⟩ := h.ex
      obtain ⟨reach_4, e4, h⟩ := h.ex
      obtain ⟨kept_11, e11, h⟩ := h.ex
      obtain ⟨x30a, x30l, x30c, e30, h⟩ := h.ex
      obtain ⟨x31, e31, h⟩ := h.ex
      obtain ⟨x32, e32, h⟩ := h.ex
      obtain ⟨N1, hlt, h⟩ := h
      exact ⟨N1, hlt, (by show l1E (I N1) ρ m; unfold l1E; rw [e0, e1, e2, e3, e4, e11, e30, e31, e32]; exact h)⟩
    | _ => exact h
  have hh := hs N s_0 a_1 b_2 n_3 reach_4 kept_11 x30a x30l x30c x31 x32 m h
  generalize (fun s_0 a_1 b_2 n_3 reach_4 kept_11 x30a x30l x30c x31 x32 m => ∃ N1, N1 < N ∧ I N1 s_0 a_1 b_2 n_3 reach_4 kept_11 x30a x30l x30c x31 x32 m : Option Addr → Int → Int → Int → Int → Option Addr → Option Addr → Nat → Nat → Int → Int → Mem → Prop) = K1 at hh ⊢
  rw [← upd_self e0, ← upd_self e1, ← upd_self e2, ← upd_self e3, ← upd_self e4, ← upd_self e11, ← upd_self e30, ← upd_self e31, ← upd_self e32]
  rw [← l1_er  K1 R]
  refine acpt_sound (P := P) (l1A  K1 R) _ _ _ True.intro ?_
  exact Eq.mp (l1_eq  K1 R s_0 a_1 b_2 n_3 reach_4 kept_11 x30a x30l x30c x31 x32 ρ m) hh
theorem e0_eq (s_0 : Option Addr) (a_1 : Int) (b_2 : Int) (n_3 : Int) (reach_4 : Int) (R : Ending → Mem → Prop) (m : Mem) : e0 s_0 a_1 b_2 n_3 reach_4 R m = acpt P od (panicR R) (e0A R) (bodyQ P fn R) (argE (#[.pointer s_0, .int .i64 a_1, .int .i64 b_2, .int .i64 n_3, .int .i64 reach_4] : Array Value).toList) m := by kernel_rfl
theorem ok (s_0 : Option Addr) (a_1 : Int) (b_2 : Int) (n_3 : Int) (reach_4 : Int) (R : Ending → Mem → Prop) (m : Mem) (h : e0 s_0 a_1 b_2 n_3 reach_4 R m) : HC P id #[.pointer s_0, .int .i64 a_1, .int .i64 b_2, .int .i64 n_3, .int .i64 reach_4] m R := by
  refine HC_of (fn := fn) (c := body) (od := od) (tb := tb) Go.Proofs.Try.func9 (by kernel_rfl) (by kernel_rfl) follows (by kernel_rfl) (of_decide_eq_true (by kernel_rfl)) ?_
  have he : (e0A R).erase = body := by kernel_rfl
  rw [← he]
  refine acpt_sound (P := P) (e0A R) _ _ _ ⟨⟨⟨⟨⟨(fun ρ m h => k2_ok  R ρ m h), ⟨(fun ρ m h => l1_ok  R ρ m h), True.intro⟩⟩, True.intro⟩, True.intro⟩, True.intro⟩, True.intro⟩ ?_
  exact Eq.mp (e0_eq s_0 a_1 b_2 n_3 reach_4 R m) h
end chunk_Store_Edit
/-! ### (*eyot/chunk.Store).Kept -/
namespace chunk_Store_Kept
noncomputable def fn : Func := Go.Proofs.Try.f10
noncomputable def body : Code := fn.body.getD .skip
def od : Nat → Ord := fun | 14 => ordL [(0, 3), (1, 3), (2, 3), (3, 1), (4, 3), (5, 3), (6, 3), (7, 0), (8, 2)] .done | _ => .done
def tb : Nat → Tab := fun | 14 => (256, [0, 1, 3, 7, 0, 0, 48, 112, 255], [(0, 1, 46), (1, 35184372088832, 47), (2, 70368744177664, 48), (4, 140737488355328, 49), (0, 8, 50), (0, 512, 51), (48, 1688849860263936, 52), (64, 2251799813685248, 53), (136, 4785074604081152, 54)]) | _ => (0, [], [])
def k4E (K : Option Addr → Nat → Nat → Mem → Prop) : Env → Mem → Prop := fun ρ m => UnS (ρ 4) fun out_4a out_4l out_4c => K out_4a out_4l out_4c m
def k4  (out_4a : Option Addr) (out_4l : Nat) (out_4c : Nat) (R : Ending → Mem → Prop) (m : Mem) : Prop :=
 HC P slices_SortFunc_s_chunk_Chunk_chunk_Chunk.id #[.slice out_4a out_4l out_4c, .func (.func chunk_Store_Kept_1.id) #[] #[]] m (Cont (fun v m1 =>
   UnTup v fun us0 =>
   UnNil us0 (
    R (.returned (.slice out_4a out_4l out_4c)) m1)) (panicR R))
noncomputable def k4A  (R : Ending → Mem → Prop) : ACode := (.code (sR (sR (sR (sR (sR (sR (body))))))))
def l3E (K : Option Addr → Option Addr → Nat → Nat → Option Addr → Nat → Nat → Int → Mem → Prop) : Env → Mem → Prop := fun ρ m => UnP (ρ 0) fun s_0 => UnS (ρ 3) fun keys_3a keys_3l keys_3c => UnS (ρ 4) fun out_4a out_4l out_4c => UnI (ρ 9) .i64 fun i_9 => K s_0 keys_3a keys_3l keys_3c out_4a out_4l out_4c i_9 m
def l3B  (K3 : Option Addr → Option Addr → Nat → Nat → Option Addr → Nat → Nat → Int → Mem → Prop) (s_0 : Option Addr) (keys_3a : Option Addr) (keys_3l : Nat) (keys_3c : Nat) (out_4a : Option Addr) (out_4l : Nat) (out_4c : Nat) (i_9 : Int) (R : Ending → Mem → Prop) (m : Mem) : Prop :=
 Br (decide (i_9 ≥ 0)) (
  Sub m fun r1 =>
  NilC s_0 (fun x46b x46o =>
   LdV r1 x46b (x46o + 1) fun v =>
   UnP v fun x48 =>
   IxS keys_3a keys_3l i_9 1 fun x51b x51o =>
   LdV m x51b x51o fun v =>
   UnI v .i64 fun x52 =>
   HC P lru_Cache_chunk_Chunk_Get.id #[.pointer x48, .int .i64 x52] m (Cont (fun v m2 =>
     UnTup v fun us0 =>
     UnCons us0 fun w us1 =>
     UnAgg w fun l =>
     UnCons l fun v l =>
     UnI v .i64 fun x53_0_0 =>
     UnCons l fun v l =>
     UnI v .i64 fun x53_0_1 =>
     UnCons l fun v l =>
     UnS v fun x53_0_2a x53_0_2l x53_0_2c =>
     UnNil l (
      UnCons us1 fun w us2 =>
      UnB w fun x53_1 =>
      UnNil us2 (
       K3 s_0 keys_3a keys_3l keys_3c out_4a out_4l out_4c (IntKind.i64.wrap (i_9 - 1)) m2))) (panicR R))) (False)) (
  k4  out_4a out_4l out_4c R m)
def l3  (s_0 : Option Addr) (keys_3a : Option Addr) (keys_3l : Nat) (keys_3c : Nat) (out_4a : Option Addr) (out_4l : Nat) (out_4c : Nat) (i_9 : Int) (R : Ending → Mem → Prop) (m : Mem) : Prop :=
  ∃ (I : Nat → Option Addr → Option Addr → Nat → Nat → Option Addr → Nat → Nat → Int → Mem → Prop) (N : Nat), I N s_0 keys_3a keys_3l keys_3c out_4a out_4l out_4c i_9 m ∧ ∀ N s_0 keys_3a keys_3l keys_3c out_4a out_4l out_4c i_9 m, I N s_0 keys_3a keys_3l keys_3c out_4a out_4l out_4c i_9 m → l3B  (fun s_0 keys_3a keys_3l keys_3c out_4a out_4l out_4c i_9 m => ∃ N1, N1 < N ∧ I N1 s_0 keys_3a keys_3l keys_3c out_4a out_4l out_4c i_9 m) s_0 keys_3a keys_3l keys_3c out_4a out_4l out_4c i_9 R m
noncomputable def l3A  (K3 : Option Addr → Option Addr → Nat → Nat → Option Addr → Nat → Nat → Int → Mem → Prop) (R : Ending → Mem → Prop) : ACode := (.code (lP (bB (sR (sL (sR (sR (sR (sR (sR (body)))))))))))
def k2E (K : Option Addr → Option Addr → Nat → Nat → Option Addr → Nat → Nat → Mem → Prop) : Env → Mem → Prop := fun ρ m => UnP (ρ 0) fun s_0 => UnS (ρ 3) fun keys_3a keys_3l keys_3c => UnS (ρ 4) fun out_4a out_4l out_4c => K s_0 keys_3a keys_3l keys_3c out_4a out_4l out_4c m
def k2  (s_0 : Option Addr) (keys_3a : Option Addr) (keys_3l : Nat) (keys_3c : Nat) (out_4a : Option Addr) (out_4l : Nat) (out_4c : Nat) (R : Ending → Mem → Prop) (m : Mem) : Prop :=
 l3  s_0 keys_3a keys_3l keys_3c out_4a out_4l out_4c (IntKind.i64.wrap (((keys_3l : Nat) : Int) - 1)) R m
noncomputable def k2A  (R : Ending → Mem → Prop) : ACode := (.seq (.seq (.code (sL (sL (sR (sR (sR (sR (sR (body))))))))) (.block 2 (.cut (l3E fun s_0 keys_3a keys_3l keys_3c out_4a out_4l out_4c i_9 m => l3  s_0 keys_3a keys_3l keys_3c out_4a out_4l out_4c i_9 R m) (.loop (lP (bB (sR (sL (sR (sR (sR (sR (sR (body)))))))))))))) (.cut (k4E fun out_4a out_4l out_4c m => k4  out_4a out_4l out_4c R m) (sR (sR (sR (sR (sR (sR (body)))))))))
def l1E (K : Option Addr → Option Addr → Nat → Nat → Option Addr → Nat → Nat → Option Addr → Nat → Nat → Int → Int → Mem → Prop) : Env → Mem → Prop := fun ρ m => UnP (ρ 0) fun s_0 => UnS (ρ 3) fun keys_3a keys_3l keys_3c => UnS (ρ 4) fun out_4a out_4l out_4c => UnS (ρ 17) fun x17a x17l x17c => UnI (ρ 18) .i64 fun x18 => UnI (ρ 19) .i64 fun x19 => K s_0 keys_3a keys_3l keys_3c out_4a out_4l out_4c x17a x17l x17c x18 x19 m
def l1B  (K1 : Option Addr → Option Addr → Nat → Nat → Option Addr → Nat → Nat → Option Addr → Nat → Nat → Int → Int → Mem → Prop) (s_0 : Option Addr) (keys_3a : Option Addr) (keys_3l : Nat) (keys_3c : Nat) (out_4a : Option Addr) (out_4l : Nat) (out_4c : Nat) (x17a : Option Addr) (x17l : Nat) (x17c : Nat) (x18 : Int) (x19 : Int) (R : Ending → Mem → Prop) (m : Mem) : Prop :=
 Br (decide (x19 < x18)) (
  IxS x17a x17l x19 1 fun x21b x21o =>
  LdV m x21b x21o fun v =>
  UnI v .i64 fun x22 =>
  NilC s_0 (fun x25b x25o =>
   LdV m x25b (x25o + 1) fun v =>
   UnP v fun x27 =>
   HC P lru_Cache_chunk_Chunk_Get.id #[.pointer x27, .int .i64 x22] m (Cont (fun v m1 =>
     UnTup v fun us0 =>
     UnCons us0 fun w us1 =>
     UnAgg w fun l =>
     UnCons l fun v l =>
     UnI v .i64 fun x29_0_0 =>
     UnCons l fun v l =>
     UnI v .i64 fun x29_0_1 =>
     UnCons l fun v l =>
     UnS v fun x29_0_2a x29_0_2l x29_0_2c =>
     UnNil l (
      UnCons us1 fun w us2 =>
      UnB w fun x29_1 =>
      UnNil us2 (
       NewC m1 #[.int .i64 0, .int .i64 0, .slice none 0 0] T_chunk_Chunk fun b_c_7 m2 =>
       St1 m2 b_c_7 0 (.int .i64 x29_0_0) fun m3 =>
       St1 m3 b_c_7 1 (.int .i64 x29_0_1) fun m4 =>
       St1 m4 b_c_7 2 (.slice x29_0_2a x29_0_2l x29_0_2c) fun m5 =>
       LdV m5 b_c_7 0 fun v =>
       UnI v .i64 fun x33_0 =>
       LdV m5 b_c_7 1 fun v =>
       UnI v .i64 fun x33_1 =>
       LdV m5 b_c_7 2 fun v =>
       UnS v fun x33_2a x33_2l x33_2c =>
       HC P chunk_move.id #[.agg #[.int .i64 x33_0, .int .i64 x33_1, .slice x33_2a x33_2l x33_2c], .int .i64 0] m5 (Cont (fun v m6 =>
        UnAgg v fun l =>
        UnCons l fun v l =>
        UnI v .i64 fun x34_0 =>
        UnCons l fun v l =>
        UnI v .i64 fun x34_1 =>
        UnCons l fun v l =>
        UnS v fun x34_2a x34_2l x34_2c =>
        UnNil l (
        NewC m6 #[.int .i64 x34_0, .int .i64 x34_1, .slice x34_2a x34_2l x34_2c] T_chunk_Chunk fun b35 m7 =>
        BiN P .append #[T_sl_chunk_Chunk, T_sl_chunk_Chunk] T_sl_chunk_Chunk #[false, false] #[.slice out_4a out_4l out_4c, .slice (some ⟨b35, 0, none⟩) 1 1] m7 (fun w m8 =>
        UnS w fun x36a x36l x36c =>
        K1 s_0 keys_3a keys_3l keys_3c x36a x36l x36c x17a x17l x17c x18 (IntKind.i64.wrap (x19 + 1)) m8) (panicR R))) (panicR R))))) (panicR R))) (R (.panicked (nilPanic P)) m)) (
  k2  s_0 keys_3a keys_3l keys_3c out_4a out_4l out_4c R m)
def l1  (s_0 : Option Addr) (keys_3a : Option Addr) (keys_3l : Nat) (keys_3c : Nat) (out_4a : Option Addr) (out_4l : Nat) (out_4c : Nat) (x17a : Option Addr) (x17l : Nat) (x17c : Nat) (x18 : Int) (x19 : Int) (R : Ending → Mem → Prop) (m : Mem) : Prop :=
  ∃ (I : Nat → Option Addr → Option Addr → Nat → Nat → Option Addr → Nat → Nat → Option Addr → Nat → Nat → Int → Int → Mem → Prop) (N : Nat), I N s_0 keys_3a keys_3l keys_3c out_4a out_4l out_4c x17a x17l x17c x18 x19 m ∧ ∀ N s_0 keys_3a keys_3l keys_3c out_4a out_4l out_4c x17a x17l x17c x18 x19 m, I N s_0 keys_3a keys_3l keys_3c out_4a out_4l out_4c x17a x17l x17c x18 x19 m → l1B  (fun s_0 keys_3a keys_3l keys_3c out_4a out_4l out_4c x17a x17l x17c x18 x19 m => ∃ N1, N1 < N ∧ I N1 s_0 keys_3a keys_3l keys_3c out_4a out_4l out_4c x17a x17l x17c x18 x19 m) s_0 keys_3a keys_3l keys_3c out_4a out_4l out_4c x17a x17l x17c x18 x19 R m
noncomputable def l1A  (K1 : Option Addr → Option Addr → Nat → Nat → Option Addr → Nat → Nat → Option Addr → Nat → Nat → Int → Int → Mem → Prop) (R : Ending → Mem → Prop) : ACode := (.code (lP (bB (sR (sL (sR (sR (sR (sR (body))))))))))
def e0 (s_0 : Option Addr) (R : Ending → Mem → Prop) (m : Mem) : Prop :=
 Br s_0.isNone (
  R (.returned (.slice none 0 0)) m) (
  NilC s_0 (fun x13b x13o =>
   LdV m x13b (x13o + 1) fun v =>
   UnP v fun x15 =>
   HC P lru_Cache_chunk_Chunk_Keys.id #[.pointer x15] m (Cont (fun v m1 =>
     UnS v fun x16a x16l x16c =>
     l1  s_0 x16a x16l x16c none 0 0 x16a x16l x16c ((x16l : Nat) : Int) 0 R m1) (panicR R))) (R (.panicked (nilPanic P)) m))
noncomputable def e0A (R : Ending → Mem → Prop) : ACode := (.seq (.code (sL (body))) (.seq (.code (sL (sR (body)))) (.seq (.code (sL (sR (sR (body))))) (.seq (.code (sL (sR (sR (sR (body)))))) (.seq (.seq (.code (sL (sL (sR (sR (sR (sR (body)))))))) (.block 0 (.cut (l1E fun s_0 keys_3a keys_3l keys_3c out_4a out_4l out_4c x17a x17l x17c x18 x19 m => l1  s_0 keys_3a keys_3l keys_3c out_4a out_4l out_4c x17a x17l x17c x18 x19 R m) (.loop (lP (bB (sR (sL (sR (sR (sR (sR (body))))))))))))) (.cut (k2E fun s_0 keys_3a keys_3l keys_3c out_4a out_4l out_4c m => k2  s_0 keys_3a keys_3l keys_3c out_4a out_4l out_4c R m) (sR (sR (sR (sR (sR (body))))))))))))
abbrev k2Q  (R : Ending → Mem → Prop) : Exit → Env → Mem → Prop := (bodyQ P fn R)
abbrev k4Q  (R : Ending → Mem → Prop) : Exit → Env → Mem → Prop := (k2Q  R)
abbrev l1Q  (R : Ending → Mem → Prop) : Exit → Env → Mem → Prop := (blockQ 0 (thenQ (acpt P od (panicR R) (.cut (k2E fun s_0 keys_3a keys_3l keys_3c out_4a out_4l out_4c m => k2  s_0 keys_3a keys_3l keys_3c out_4a out_4l out_4c R m) (sR (sR (sR (sR (sR (body))))))) (bodyQ P fn R)) (bodyQ P fn R)))
abbrev l3Q  (R : Ending → Mem → Prop) : Exit → Env → Mem → Prop := (blockQ 2 (thenQ (acpt P od (panicR R) (.cut (k4E fun out_4a out_4l out_4c m => k4  out_4a out_4l out_4c R m) (sR (sR (sR (sR (sR (sR (body)))))))) (k2Q  R)) (k2Q  R)))
theorem k4_eq  (R : Ending → Mem → Prop) (out_4a : Option Addr) (out_4l : Nat) (out_4c : Nat) (ρ : Env) (m : Mem) : k4  out_4a out_4l out_4c R m = acpt P od (panicR R) (k4A  R) (k4Q  R) (upd ρ 4 (.slice out_4a out_4l out_4c)) m := by kernel_rfl
theorem k4_er  (R : Ending → Mem → Prop) : (k4A  R).erase = sR (sR (sR (sR (sR (sR (body)))))) := by kernel_rfl
theorem k4_ok  (R : Ending → Mem → Prop) (ρ : Env) (m : Mem) (h : (k4E fun out_4a out_4l out_4c m => k4  out_4a out_4l out_4c R m) ρ m) : cpt P od (panicR R) (sR (sR (sR (sR (sR (sR (body))))))) (k4Q  R) ρ m := by
  unfold k4E at h
  obtain ⟨out_4a, out_4l, out_4c, e4, h⟩ := h.ex
  rw [← upd_self e4]
  rw [← k4_er  R]
  refine acpt_sound (P := P) (k4A  R) _ _ _ True.intro ?_
  exact Eq.mp (k4_eq  R out_4a out_4l out_4c ρ m) h
theorem l3_eq  (K3 : Option Addr → Option Addr → Nat → Nat → Option Addr → Nat → Nat → Int → Mem → Prop) (R : Ending → Mem → Prop) (s_0 : Option Addr) (keys_3a : Option Addr) (keys_3l : Nat) (keys_3c : Nat) (out_4a : Option Addr) (out_4l : Nat) (out_4c : Nat) (i_9 : Int) (ρ : Env) (m : Mem) : l3B  K3 s_0 keys_3a keys_3l keys_3c out_4a out_4l out_4c i_9 R m = acpt P od (panicR R) (l3A  K3 R) (thenQ (l3E K3) (l3Q  R)) (upd (upd (upd (upd ρ 9 (.int .i64 i_9)) 4 (.slice out_4a out_4l out_4c)) 3 (.slice keys_3a keys_3l keys_3c)) 0 (.pointer s_0)) m := by kernel_rfl
theorem l3_er  (K3 : Option Addr → Option Addr → Nat → Nat → Option Addr → Nat → Nat → Int → Mem → Prop) (R : Ending → Mem → Prop) : (l3A  K3 R).erase = lP (bB (sR (sL (sR (sR (sR (sR (sR (body))))))))) := by kernel_rfl
theorem l3_ok  (R : Ending → Mem → Prop) (ρ : Env) (m : Mem) (h : (l3E fun s_0 keys_3a keys_3l keys_3c out_4a out_4l out_4c i_9 m => l3  s_0 keys_3a keys_3l keys_3c out_4a out_4l out_4c i_9 R m) ρ m) : cpt P od (panicR R) (.loop (lP (bB (sR (sL (sR (sR (sR (sR (sR (body))))))))))) (l3Q  R) ρ m := by
  unfold l3E at h
  obtain ⟨s_0, e0, h⟩ := h.ex
  obtain ⟨keys_3a, keys_3l, keys_3c, e3, h⟩ := h.ex
  obtain ⟨out_4a, out_4l, out_4c, e4, h⟩ := h.ex
  obtain ⟨i_9, e9, h⟩ := h.ex
  obtain ⟨I, N, h0, hs⟩ := h
  refine ⟨fun N => l3E (I N), N, (by show l3E (I N) ρ m; unfold l3E; rw [e0, e3, e4, e9]; exact h0), ?_⟩
  clear h0 e0 e3 e4 e9
  intro N ρ m h
  unfold l3E at h
  obtain ⟨s_0, e0, h⟩ := h.ex
  obtain ⟨keys_3a, keys_3l, keys_3c, e3, h⟩ := h.ex
  obtain ⟨out_4a, out_4l, out_4c, e4, h⟩ := h.ex
  obtain ⟨i_9, e9, h⟩ := h.ex
  refine cpt_mono (P := P) (lP (bB (sR (sL (sR (sR (sR (sR (sR (body)))))))))) (Q := thenQ (l3E fun s_0 keys_3a keys_3l keys_3c out_4a out_4l out_4c i_9 m => ∃ N1, N1 < N ∧ I N1 s_0 keys_3a keys_3l keys_3c out_4a out_4l out_4c i_9 m) (l3Q  R)) (fun e ρ m h => ?_) ρ m ?_
  · cases e with
    | normal =>
      have h : l3E (fun s_0 keys_3a keys_3l keys_3c out_4a out_4l out_4c i_9 m => ∃ N1, N1 < N ∧ I N1 s_0 keys_3a keys_3l keys_3c out_4a out_4l out_4c i_9 m) ρ m := h
      unfold l3E at h
      obtain ⟨s_0, e0, h⟩ := h.ex
      obtain ⟨keys_3a, keys_3l, keys_3c, e3, h⟩ := h.ex
      obtain ⟨out_4a, out_4l, out_4c, e4, h⟩ := h.ex
      obtain ⟨i_9, e9, h⟩ := h.ex
      obtain ⟨N1, hlt, h⟩ := h
      exact ⟨N1, hlt, (by show l3E (I N1) ρ m; unfold l3E; rw [e0, e3, e4, e9]; exact h)⟩
    | _ => exact h
  have hh := hs N s_0 keys_3a keys_3l keys_3c out_4a out_4l out_4c i_9 m h
  generalize (fun s_0 keys_3a keys_3l keys_3c out_4a out_4l out_4c i_9 m => ∃ N1, N1 < N ∧ I N1 s_0 keys_3a keys_3l keys_3c out_4a out_4l out_4c i_9 m : Option Addr → Option Addr → Nat → Nat → Option Addr → Nat → Nat → Int → Mem → Prop) = K3 at hh ⊢
  rw [← upd_self e0, ← upd_self e3, ← upd_self e4, ← upd_self e9]
  rw [← l3_er  K3 R]
  refine acpt_sound (P := P) (l3A  K3 R) _ _ _ True.intro ?_
  exact Eq.mp (l3_eq  K3 R s_0 keys_3a keys_3l keys_3c out_4a out_4l out_4c i_9 ρ m) hh
theorem k2_eq  (R : Ending → Mem → Prop) (s_0 : Option Addr) (keys_3a : Option Addr) (keys_3l : Nat) (keys_3c : Nat) (out_4a : Option Addr) (out_4l : Nat) (out_4c : Nat) (ρ : Env) (m : Mem) : k2  s_0 keys_3a keys_3l keys_3c out_4a out_4l out_4c R m = acpt P od (panicR R) (k2A  R) (k2Q  R) (upd (upd (upd ρ 4 (.slice out_4a out_4l out_4c)) 3 (.slice keys_3a keys_3l keys_3c)) 0 (.pointer s_0)) m := by kernel_rfl
theorem k2_er  (R : Ending → Mem → Prop) : (k2A  R).erase = sR (sR (sR (sR (sR (body))))) := by kernel_rfl
theorem k2_ok  (R : Ending → Mem → Prop) (ρ : Env) (m : Mem) (h : (k2E fun s_0 keys_3a keys_3l keys_3c out_4a out_4l out_4c m => k2  s_0 keys_3a keys_3l keys_3c out_4a out_4l out_4c R m) ρ m) : cpt P od (panicR R) (sR (sR (sR (sR (sR (body)))))) (k2Q  R) ρ m := by
  unfold k2E at h
  obtain ⟨s_0, e0, h⟩ := h.ex
  obtain ⟨keys_3a, keys_3l, keys_3c, e3, h⟩ := h.ex
  obtain ⟨out_4a, out_4l, out_4c, e4, h⟩ := h.ex
  rw [← upd_self e0, ← upd_self e3, ← upd_self e4]
  rw [← k2_er  R]
  refine acpt_sound (P := P) (k2A  R) _ _ _ ⟨(fun ρ m h => k4_ok  R ρ m h), ⟨(fun ρ m h => l3_ok  R ρ m h), True.intro⟩⟩ ?_
  exact Eq.mp (k2_eq  R s_0 keys_3a keys_3l keys_3c out_4a out_4l out_4c ρ m) h
theorem l1_eq  (K1 : Option Addr → Option Addr → Nat → Nat → Option Addr → Nat → Nat → Option Addr → Nat → Nat → Int → Int → Mem → Prop) (R : Ending → Mem → Prop) (s_0 : Option Addr) (keys_3a : Option Addr) (keys_3l : Nat) (keys_3c : Nat) (out_4a : Option Addr) (out_4l : Nat) (out_4c : Nat) (x17a : Option Addr) (x17l : Nat) (x17c : Nat) (x18 : Int) (x19 : Int) (ρ : Env) (m : Mem) : l1B  K1 s_0 keys_3a keys_3l keys_3c out_4a out_4l out_4c x17a x17l x17c x18 x19 R m = acpt P od (panicR R) (l1A  K1 R) (thenQ (l1E K1) (l1Q  R)) (upd (upd (upd (upd (upd (upd ρ 19 (.int .i64 x19)) 18 (.int .i64 x18)) 17 (.slice x17a x17l x17c)) 4 (.slice out_4a out_4l out_4c)) 3 (.slice keys_3a keys_3l keys_3c)) 0 (.pointer s_0)) m := by kernel_rfl
theorem l1_er  (K1 : Option Addr → Option Addr → Nat → Nat → Option Addr → Nat → Nat → Option Addr → Nat → Nat → Int → Int → Mem → Prop) (R : Ending → Mem → Prop) : (l1A  K1 R).erase = lP (bB (sR (sL (sR (sR (sR (sR (body)))))))) := by kernel_rfl
theorem l1_ok  (R : Ending → Mem → Prop) (ρ : Env) (m : Mem) (h : (l1E fun s_0 keys_3a keys_3l keys_3c out_4a out_4l out_4c x17a x17l x17c x18 x19 m => l1  s_0 keys_3a keys_3l keys_3c out_4a out_4l out_4c x17a x17l x17c x18 x19 R m) ρ m) : cpt P od (panicR R) (.loop (lP (bB (sR (sL (sR (sR (sR (sR (body)))))))))) (l1Q  R) ρ m := by
  unfold l1E at h
  obtain ⟨s_0, e0, h⟩ := h.ex
  obtain ⟨keys_3a, keys_3l, keys_3c, e3, h⟩ := h.ex
  obtain ⟨out_4a, out_4l, out_4c, e4, h⟩ := h.ex
  obtain ⟨x17a, x17l, x17c, e17, h⟩ := h.ex
  obtain ⟨x18, e18, h⟩ := h.ex
  obtain ⟨x19, e19, h⟩ := h.ex
  obtain ⟨I, N, h0, hs⟩ := h
  refine ⟨fun N => l1E (I N), N, (by show l1E (I N) ρ m; unfold l1E; rw [e0, e3, e4, e17, e18, e19]; exact h0), ?_⟩
  clear h0 e0 e3 e4 e17 e18 e19
  intro N ρ m h
  unfold l1E at h
  obtain ⟨s_0, e0, h⟩ := h.ex
  obtain ⟨keys_3a, keys_3l, keys_3c, e3, h⟩ := h.ex
  obtain ⟨out_4a, out_4l, out_4c, e4, h⟩ := h.ex
  obtain ⟨x17a, x17l, x17c, e17, h⟩ := h.ex
  obtain ⟨x18, e18, h⟩ := h.ex
  obtain ⟨x19, e19, h⟩ := h.ex
  refine cpt_mono (P := P) (lP (bB (sR (sL (sR (sR (sR (sR (body))))))))) (Q := thenQ (l1E fun s_0 keys_3a keys_3l keys_3c out_4a out_4l out_4c x17a x17l x17c x18 x19 m => ∃ N1, N1 < N ∧ I N1 s_0 keys_3a keys_3l keys_3c out_4a out_4l out_4c x17a x17l x17c x18 x19 m) (l1Q  R)) (fun e ρ m h => ?_) ρ m ?_
  · cases e with
    | normal =>
      have h : l1E (fun s_0 keys_3a keys_3l keys_3c out_4a out_4l out_4c x17a x17l x17c x18 x19 m => ∃ N1, N1 < N ∧ I N1 s_0 keys_3a keys_3l keys_3c out_4a out_4l out_4c x17a x17l x17c x18 x19 m) ρ m := h
      unfold l1E at h
      obtain ⟨s_0, e0, h⟩ := h.ex
      obtain ⟨keys_3a, keys_3l, keys_3c, e3, h⟩ := h.ex
      obtain ⟨out_4a, out_4l, out_4c, e4, h⟩ := h.ex
      obtain ⟨x17a, x17l, x17c, e17, h⟩ := h.ex
      obtain ⟨x18, e18, h⟩ := h.ex
      obtain ⟨x19, e19, h⟩ := h.ex
      obtain ⟨N1, hlt, h⟩ := h
      exact ⟨N1, hlt, (by show l1E (I N1) ρ m; unfold l1E; rw [e0, e3, e4, e17, e18, e19]; exact h)⟩
    | _ => exact h
  have hh := hs N s_0 keys_3a keys_3l keys_3c out_4a out_4l out_4c x17a x17l x17c x18 x19 m h
  generalize (fun s_0 keys_3a keys_3l keys_3c out_4a out_4l out_4c x17a x17l x17c x18 x19 m => ∃ N1, N1 < N ∧ I N1 s_0 keys_3a keys_3l keys_3c out_4a out_4l out_4c x17a x17l x17c x18 x19 m : Option Addr → Option Addr → Nat → Nat → Option Addr → Nat → Nat → Option Addr → Nat → Nat → Int → Int → Mem → Prop) = K1 at hh ⊢
  rw [← upd_self e0, ← upd_self e3, ← upd_self e4, ← upd_self e17, ← upd_self e18, ← upd_self e19]
  rw [← l1_er  K1 R]
  refine acpt_sound (P := P) (l1A  K1 R) _ _ _ True.intro ?_
  exact Eq.mp (l1_eq  K1 R s_0 keys_3a keys_3l keys_3c out_4a out_4l out_4c x17a x17l x17c x18 x19 ρ m) hh
theorem e0_eq (s_0 : Option Addr) (R : Ending → Mem → Prop) (m : Mem) : e0 s_0 R m = acpt P od (panicR R) (e0A R) (bodyQ P fn R) (argE (#[.pointer s_0] : Array Value).toList) m := by kernel_rfl
theorem ok (s_0 : Option Addr) (R : Ending → Mem → Prop) (m : Mem) (h : e0 s_0 R m) : HC P id #[.pointer s_0] m R := by
  refine HC_of (fn := fn) (c := body) (od := od) (tb := tb) Go.Proofs.Try.func10 (by kernel_rfl) (by kernel_rfl) follows (by kernel_rfl) (of_decide_eq_true (by kernel_rfl)) ?_
  have he : (e0A R).erase = body := by kernel_rfl
  rw [← he]
  refine acpt_sound (P := P) (e0A R) _ _ _ ⟨⟨⟨⟨⟨(fun ρ m h => k2_ok  R ρ m h), ⟨(fun ρ m h => l1_ok  R ρ m h), True.intro⟩⟩, True.intro⟩, True.intro⟩, True.intro⟩, True.intro⟩ ?_
  exact Eq.mp (e0_eq s_0 R m) h
end chunk_Store_Kept
/-! ### eyot/eyotlaw28.same -/
namespace eyotlaw28_same
noncomputable def fn : Func := Go.Proofs.Try.f11
noncomputable def body : Code := fn.body.getD .skip
def od : Nat → Ord := fun _ => .done
def tb : Nat → Tab := fun _ => (0, [], [])
def e0 (c_0_0 : Int) (c_0_1 : Int) (c_0_2a : Option Addr) (c_0_2l : Nat) (c_0_2c : Nat) (a_1 : Int) (b_2 : Int) (R : Ending → Mem → Prop) (m : Mem) : Prop :=
 NewC m #[.int .i64 c_0_0, .int .i64 c_0_1, .slice c_0_2a c_0_2l c_0_2c] T_chunk_Chunk fun b_c_3 m1 =>
 HC P eyotlaw28_made.id #[.int .i64 a_1, .int .i64 b_2] m1 (Cont (fun v m2 =>
   UnAgg v fun l =>
   UnCons l fun v l =>
   UnI v .i64 fun x10_0 =>
   UnCons l fun v l =>
   UnI v .i64 fun x10_1 =>
   UnCons l fun v l =>
   UnS v fun x10_2a x10_2l x10_2c =>
   UnNil l (
    NewC m2 #[.int .i64 0, .int .i64 0, .slice none 0 0] T_chunk_Chunk fun b_m_7 m3 =>
    St1 m3 b_m_7 0 (.int .i64 x10_0) fun m4 =>
    St1 m4 b_m_7 1 (.int .i64 x10_1) fun m5 =>
    St1 m5 b_m_7 2 (.slice x10_2a x10_2l x10_2c) fun m6 =>
    LdV m6 b_c_3 0 fun v =>
    UnI v .i64 fun x12 =>
    Br (x12 == a_1) (
     LdV m6 b_c_3 1 fun v =>
     UnI v .i64 fun x17 =>
     Br (x17 == b_2) (
      LdV m6 b_c_3 2 fun v =>
      UnS v fun x23a x23l x23c =>
      LdV m6 b_m_7 2 fun v =>
      UnS v fun x25a x25l x25c =>
      HC P eyotref23_SameSpans.id #[.slice x23a x23l x23c, .slice x25a x25l x25c] m6 (Cont (fun v m7 =>
        UnB v fun x26 =>
        R (.returned (.bool x26)) m7) (panicR R))) (
      R (.returned (.bool false)) m6)) (
     R (.returned (.bool false)) m6))) (panicR R))
noncomputable def e0A (R : Ending → Mem → Prop) : ACode := (.code (body))
theorem e0_eq (c_0_0 : Int) (c_0_1 : Int) (c_0_2a : Option Addr) (c_0_2l : Nat) (c_0_2c : Nat) (a_1 : Int) (b_2 : Int) (R : Ending → Mem → Prop) (m : Mem) : e0 c_0_0 c_0_1 c_0_2a c_0_2l c_0_2c a_1 b_2 R m = acpt P od (panicR R) (e0A R) (bodyQ P fn R) (argE (#[.agg #[.int .i64 c_0_0, .int .i64 c_0_1, .slice c_0_2a c_0_2l c_0_2c], .int .i64 a_1, .int .i64 b_2] : Array Value).toList) m := by kernel_rfl
theorem ok (c_0_0 : Int) (c_0_1 : Int) (c_0_2a : Option Addr) (c_0_2l : Nat) (c_0_2c : Nat) (a_1 : Int) (b_2 : Int) (R : Ending → Mem → Prop) (m : Mem) (h : e0 c_0_0 c_0_1 c_0_2a c_0_2l c_0_2c a_1 b_2 R m) : HC P id #[.agg #[.int .i64 c_0_0, .int .i64 c_0_1, .slice c_0_2a c_0_2l c_0_2c], .int .i64 a_1, .int .i64 b_2] m R := by
  refine HC_of (fn := fn) (c := body) (od := od) (tb := tb) Go.Proofs.Try.func11 (by kernel_rfl) (by kernel_rfl) follows (by kernel_rfl) (of_decide_eq_true (by kernel_rfl)) ?_
  have he : (e0A R).erase = body := by kernel_rfl
  rw [← he]
  refine acpt_sound (P := P) (e0A R) _ _ _ True.intro ?_
  exact Eq.mp (e0_eq c_0_0 c_0_1 c_0_2a c_0_2l c_0_2c a_1 b_2 R m) h
end eyotlaw28_same
/-! ### (*eyot/chunk.Store).Get -/
namespace chunk_Store_Get
noncomputable def fn : Func := Go.Proofs.Try.f12
noncomputable def body : Code := fn.body.getD .skip
def od : Nat → Ord := fun _ => .done
def tb : Nat → Tab := fun _ => (0, [], [])
def e0 (s_0 : Option Addr) (at_1 : Int) (R : Ending → Mem → Prop) (m : Mem) : Prop :=
 NewC m #[.int .i64 0, .int .i64 0, .slice none 0 0] T_chunk_Chunk fun b4 m1 =>
 Br s_0.isNone (
  St1 m1 b4 0 (.int .i64 0) fun m2 =>
  St1 m2 b4 1 (.int .i64 0) fun m3 =>
  St1 m3 b4 2 (.slice none 0 0) fun m4 =>
  LdV m4 b4 0 fun v =>
  UnI v .i64 fun res0_0 =>
  LdV m4 b4 1 fun v =>
  UnI v .i64 fun res0_1 =>
  LdV m4 b4 2 fun v =>
  UnS v fun res0_2a res0_2l res0_2c =>
  R (.returned (.tuple #[.agg #[.int .i64 res0_0, .int .i64 res0_1, .slice res0_2a res0_2l res0_2c], .bool false])) m4) (
  NilC s_0 (fun x13b x13o =>
   LdV m1 x13b (x13o + 1) fun v =>
   UnP v fun x15 =>
   HC P lru_Cache_chunk_Chunk_Get.id #[.pointer x15, .int .i64 at_1] m1 (Cont (fun v m2 =>
     UnTup v fun us0 =>
     UnCons us0 fun w us1 =>
     UnAgg w fun l =>
     UnCons l fun v l =>
     UnI v .i64 fun x17_0_0 =>
     UnCons l fun v l =>
     UnI v .i64 fun x17_0_1 =>
     UnCons l fun v l =>
     UnS v fun x17_0_2a x17_0_2l x17_0_2c =>
     UnNil l (
      UnCons us1 fun w us2 =>
      UnB w fun x17_1 =>
      UnNil us2 (
       NewC m2 #[.int .i64 0, .int .i64 0, .slice none 0 0] T_chunk_Chunk fun b_c_6 m3 =>
       St1 m3 b_c_6 0 (.int .i64 x17_0_0) fun m4 =>
       St1 m4 b_c_6 1 (.int .i64 x17_0_1) fun m5 =>
       St1 m5 b_c_6 2 (.slice x17_0_2a x17_0_2l x17_0_2c) fun m6 =>
       LdV m6 b_c_6 0 fun v =>
       UnI v .i64 fun x20_0 =>
       LdV m6 b_c_6 1 fun v =>
       UnI v .i64 fun x20_1 =>
       LdV m6 b_c_6 2 fun v =>
       UnS v fun x20_2a x20_2l x20_2c =>
       HC P chunk_move.id #[.agg #[.int .i64 x20_0, .int .i64 x20_1, .slice x20_2a x20_2l x20_2c], .int .i64 0] m6 (Cont (fun v m7 =>
        UnAgg v fun l =>
        UnCons l fun v l =>
        UnI v .i64 fun x21_0 =>
        UnCons l fun v l =>
        UnI v .i64 fun x21_1 =>
        UnCons l fun v l =>
        UnS v fun x21_2a x21_2l x21_2c =>
        UnNil l (
        St1 m7 b4 0 (.int .i64 x21_0) fun m8 =>
        St1 m8 b4 1 (.int .i64 x21_1) fun m9 =>
        St1 m9 b4 2 (.slice x21_2a x21_2l x21_2c) fun m10 =>
        LdV m10 b4 0 fun v =>
        UnI v .i64 fun res0_0 =>
        LdV m10 b4 1 fun v =>
        UnI v .i64 fun res0_1 =>
        LdV m10 b4 2 fun v =>
        UnS v fun res0_2a res0_2l res0_2c =>
        R (.returned (.tuple #[.agg #[.int .i64 res0_0, .int .i64 res0_1, .slice res0_2a res0_2l res0_2c], .bool x17_1])) m10)) (panicR R))))) (panicR R))) (R (.panicked (nilPanic P)) m1))
noncomputable def e0A (R : Ending → Mem → Prop) : ACode := (.code (body))
theorem e0_eq (s_0 : Option Addr) (at_1 : Int) (R : Ending → Mem → Prop) (m : Mem) : e0 s_0 at_1 R m = acpt P od (panicR R) (e0A R) (bodyQ P fn R) (argE (#[.pointer s_0, .int .i64 at_1] : Array Value).toList) m := by kernel_rfl
theorem ok (s_0 : Option Addr) (at_1 : Int) (R : Ending → Mem → Prop) (m : Mem) (h : e0 s_0 at_1 R m) : HC P id #[.pointer s_0, .int .i64 at_1] m R := by
  refine HC_of (fn := fn) (c := body) (od := od) (tb := tb) Go.Proofs.Try.func12 (by kernel_rfl) (by kernel_rfl) follows (by kernel_rfl) (of_decide_eq_true (by kernel_rfl)) ?_
  have he : (e0A R).erase = body := by kernel_rfl
  rw [← he]
  refine acpt_sound (P := P) (e0A R) _ _ _ True.intro ?_
  exact Eq.mp (e0_eq s_0 at_1 R m) h
end chunk_Store_Get
/-! ### eyot/lru.New[eyot/chunk.Chunk] -/
namespace lru_New_chunk_Chunk
noncomputable def fn : Func := Go.Proofs.Try.f13
noncomputable def body : Code := fn.body.getD .skip
def od : Nat → Ord := fun _ => .done
def tb : Nat → Tab := fun _ => (0, [], [])
def e0 (most_0 : Int) (R : Ending → Mem → Prop) (m : Mem) : Prop :=
 NewC m #[.int .i64 most_0, .slice none 0 0] T_lru_Cache_chunk_Chunk fun b5 m1 =>
 R (.returned (.pointer (some ⟨b5, 0, none⟩))) m1
noncomputable def e0A (R : Ending → Mem → Prop) : ACode := (.code (body))
theorem e0_eq (most_0 : Int) (R : Ending → Mem → Prop) (m : Mem) : e0 most_0 R m = acpt P od (panicR R) (e0A R) (bodyQ P fn R) (argE (#[.int .i64 most_0] : Array Value).toList) m := by kernel_rfl
theorem ok (most_0 : Int) (R : Ending → Mem → Prop) (m : Mem) (h : e0 most_0 R m) : HC P id #[.int .i64 most_0] m R := by
  refine HC_of (fn := fn) (c := body) (od := od) (tb := tb) Go.Proofs.Try.func13 (by kernel_rfl) (by kernel_rfl) follows (by kernel_rfl) (of_decide_eq_true (by kernel_rfl)) ?_
  have he : (e0A R).erase = body := by kernel_rfl
  rw [← he]
  refine acpt_sound (P := P) (e0A R) _ _ _ True.intro ?_
  exact Eq.mp (e0_eq most_0 R m) h
end lru_New_chunk_Chunk
/-! ### (*eyot/lru.Cache[eyot/chunk.Chunk]).Put -/
namespace lru_Cache_chunk_Chunk_Put
noncomputable def fn : Func := Go.Proofs.Try.f14
noncomputable def body : Code := fn.body.getD .skip
def od : Nat → Ord := fun _ => .done
def tb : Nat → Tab := fun _ => (0, [], [])
def e0 (c_0 : Option Addr) (k_1 : Int) (v_2_0 : Int) (v_2_1 : Int) (v_2_2a : Option Addr) (v_2_2l : Nat) (v_2_2c : Nat) (R : Ending → Mem → Prop) (m : Mem) : Prop :=
 NewC m #[.int .i64 v_2_0, .int .i64 v_2_1, .slice v_2_2a v_2_2l v_2_2c] T_chunk_Chunk fun b_v_5 m1 =>
 Br c_0.isNone (
  R (.returned (.tuple #[.int .i64 0, .bool false])) m1) (
  HC P lru_Cache_chunk_Chunk_Drop.id #[.pointer c_0, .int .i64 k_1] m1 (Cont (fun v m2 =>
    UnB v fun x13 =>
    LdV m2 b_v_5 0 fun v =>
    UnI v .i64 fun x16_0 =>
    LdV m2 b_v_5 1 fun v =>
    UnI v .i64 fun x16_1 =>
    LdV m2 b_v_5 2 fun v =>
    UnS v fun x16_2a x16_2l x16_2c =>
    HC P lru_Cache_chunk_Chunk_front.id #[.pointer c_0, .agg #[.int .i64 k_1, .int .i64 x16_0, .int .i64 x16_1, .slice x16_2a x16_2l x16_2c]] m2 (Cont (fun v m3 =>
      UnTup v fun us0 =>
      UnNil us0 (
       NilC c_0 (fun x20b x20o =>
        LdV m3 x20b (x20o + 1) fun v =>
        UnS v fun x22a x22l x22c =>
        NilC c_0 (fun x27b x27o =>
        LdV m3 x27b x27o fun v =>
        UnI v .i64 fun x29 =>
        Br (decide ((IntKind.i64.wrap (((x22l : Nat) : Int) - 1)) < (if 1 > x29 then 1 else x29))) (
        R (.returned (.tuple #[.int .i64 0, .bool false])) m3) (
        NilC c_0 (fun x33b x33o =>
        LdV m3 x33b (x33o + 1) fun v =>
        UnS v fun x35a x35l x35c =>
        IxS x35a x35l (IntKind.i64.wrap (((x22l : Nat) : Int) - 1)) 4 fun x37b x37o =>
        LdV m3 x37b x37o fun v =>
        UnI v .i64 fun x39 =>
        NilC c_0 (fun x42b x42o =>
        LdV m3 x42b (x42o + 1) fun v =>
        UnS v fun x44a x44l x44c =>
        SlS x44a x44c 0 (IntKind.i64.wrap (((x22l : Nat) : Int) - 1)) 4 fun x46a x46l x46c =>
        NilC c_0 (fun x47b x47o =>
        St1 m3 x47b (x47o + 1) (.slice x46a x46l x46c) fun m4 =>
        R (.returned (.tuple #[.int .i64 x39, .bool true])) m4) (R (.panicked (nilPanic P)) m3)) (R (.panicked (nilPanic P)) m3)) (R (.panicked (nilPanic P)) m3))) (R (.panicked (nilPanic P)) m3)) (R (.panicked (nilPanic P)) m3))) (panicR R))) (panicR R)))
noncomputable def e0A (R : Ending → Mem → Prop) : ACode := (.code (body))
theorem e0_eq (c_0 : Option Addr) (k_1 : Int) (v_2_0 : Int) (v_2_1 : Int) (v_2_2a : Option Addr) (v_2_2l : Nat) (v_2_2c : Nat) (R : Ending → Mem → Prop) (m : Mem) : e0 c_0 k_1 v_2_0 v_2_1 v_2_2a v_2_2l v_2_2c R m = acpt P od (panicR R) (e0A R) (bodyQ P fn R) (argE (#[.pointer c_0, .int .i64 k_1, .agg #[.int .i64 v_2_0, .int .i64 v_2_1, .slice v_2_2a v_2_2l v_2_2c]] : Array Value).toList) m := by kernel_rfl
theorem ok (c_0 : Option Addr) (k_1 : Int) (v_2_0 : Int) (v_2_1 : Int) (v_2_2a : Option Addr) (v_2_2l : Nat) (v_2_2c : Nat) (R : Ending → Mem → Prop) (m : Mem) (h : e0 c_0 k_1 v_2_0 v_2_1 v_2_2a v_2_2l v_2_2c R m) : HC P id #[.pointer c_0, .int .i64 k_1, .agg #[.int .i64 v_2_0, .int .i64 v_2_1, .slice v_2_2a v_2_2l v_2_2c]] m R := by
  refine HC_of (fn := fn) (c := body) (od := od) (tb := tb) Go.Proofs.Try.func14 (by kernel_rfl) (by kernel_rfl) follows (by kernel_rfl) (of_decide_eq_true (by kernel_rfl)) ?_
  have he : (e0A R).erase = body := by kernel_rfl
  rw [← he]
  refine acpt_sound (P := P) (e0A R) _ _ _ True.intro ?_
  exact Eq.mp (e0_eq c_0 k_1 v_2_0 v_2_1 v_2_2a v_2_2l v_2_2c R m) h
end lru_Cache_chunk_Chunk_Put
/-! ### eyot/chunk.move -/
namespace chunk_move
noncomputable def fn : Func := Go.Proofs.Try.f15
noncomputable def body : Code := fn.body.getD .skip
def od : Nat → Ord := fun | 5 => ordL [(0, 3), (1, 1), (2, 3), (3, 1), (4, 3), (5, 3), (6, 3), (7, 1), (8, 3), (9, 3), (10, 3), (11, 1), (12, 3), (13, 0), (14, 3), (15, 0), (16, 2), (17, 3), (18, 2)] .done | _ => .done
def tb : Nat → Tab := fun | 5 => (327680, [0, 1, 0, 4, 0, 28, 0, 64, 0, 448, 0, 1024, 0, 7168, 16380, 32764, 65535, 131071, 262143], [(0, 32, 25), (1, 16777216, 26), (0, 128, 27), (4, 67108864, 28), (0, 2, 29), (24, 402653184, 30), (0, 128, 31), (64, 1073741824, 32), (0, 2, 33), (384, 6442450944, 34), (0, 128, 35), (1024, 17179869184, 36), (0, 2, 37), (6144, 103079215104, 38), (8736, 146565758976, 39), (16384, 274877906944, 40), (40962, 549789368320, 41), (131071, 32, 42), (262143, 3298534883328, 0)]) | _ => (0, [], [])
def l1E (K : Int → Nat → Nat → Nat → Nat → Option Addr → Nat → Nat → Int → Int → Mem → Prop) : Env → Mem → Prop := fun ρ m => UnI (ρ 1) .i64 fun by_1 => UnPA (ρ 4) fun x4b x4o => UnPA (ρ 5) fun out_5b out_5o => UnS (ρ 18) fun x18a x18l x18c => UnI (ρ 19) .i64 fun x19 => UnI (ρ 20) .i64 fun x20 => K by_1 x4b x4o out_5b out_5o x18a x18l x18c x19 x20 m
def l1B  (K1 : Int → Nat → Nat → Nat → Nat → Option Addr → Nat → Nat → Int → Int → Mem → Prop) (by_1 : Int) (x4b : Nat) (x4o : Nat) (out_5b : Nat) (out_5o : Nat) (x18a : Option Addr) (x18l : Nat) (x18c : Nat) (x19 : Int) (x20 : Int) (R : Ending → Mem → Prop) (m : Mem) : Prop :=
 Br (decide (x20 < x19)) (
  IxS x18a x18l x20 3 fun x22b x22o =>
  LdV m x22b x22o fun v =>
  UnI v .i64 fun x23_0 =>
  LdV m x22b (x22o + 1) fun v =>
  UnI v .i64 fun x23_1 =>
  LdV m x22b (x22o + 2) fun v =>
  UnS v fun x23_2a x23_2l x23_2c =>
  NewC m #[.int .i64 0, .int .i64 0, .slice none 0 0] T_api_Span fun b_s_7 m1 =>
  St1 m1 b_s_7 0 (.int .i64 x23_0) fun m2 =>
  St1 m2 b_s_7 1 (.int .i64 x23_1) fun m3 =>
  St1 m3 b_s_7 2 (.slice x23_2a x23_2l x23_2c) fun m4 =>
  Sub m4 fun r5 =>
  LdV r5 out_5b (out_5o + 2) fun v =>
  UnS v fun x25a x25l x25c =>
  LdV r5 b_s_7 0 fun v =>
  UnI v .i64 fun x27 =>
  LdV r5 b_s_7 1 fun v =>
  UnI v .i64 fun x31 =>
  LdV r5 b_s_7 2 fun v =>
  UnS v fun x35a x35l x35c =>
  HC P tree_Move.id #[.slice x35a x35l x35c, .int .i64 by_1] m4 (Cont (fun v m6 =>
    UnS v fun x37a x37l x37c =>
    Lk r5 m6 fun r7 =>
    NewC m6 #[.int .i64 (IntKind.i64.wrap (x27 + by_1)), .int .i64 (IntKind.i64.wrap (x31 + by_1)), .slice x37a x37l x37c] T_api_Span fun b39 m8 =>
    Lk r7 m8 fun r9 =>
    BiN P .append #[T_sl_api_Span, T_sl_api_Span] T_sl_api_Span #[false, false] #[.slice x25a x25l x25c, .slice (some ⟨b39, 0, none⟩) 1 1] m8 (fun w m10 =>
     UnS w fun x40a x40l x40c =>
     St1 m10 out_5b (out_5o + 2) (.slice x40a x40l x40c) fun m11 =>
     K1 by_1 x4b x4o out_5b out_5o x18a x18l x18c x19 (IntKind.i64.wrap (x20 + 1)) m11) (panicR R)) (panicR R))) (
  LdV m out_5b out_5o fun v =>
  UnI v .i64 fun x43_0 =>
  LdV m out_5b (out_5o + 1) fun v =>
  UnI v .i64 fun x43_1 =>
  LdV m out_5b (out_5o + 2) fun v =>
  UnS v fun x43_2a x43_2l x43_2c =>
  St1 m x4b x4o (.int .i64 x43_0) fun m1 =>
  St1 m1 x4b (x4o + 1) (.int .i64 x43_1) fun m2 =>
  St1 m2 x4b (x4o + 2) (.slice x43_2a x43_2l x43_2c) fun m3 =>
  LdV m3 x4b x4o fun v =>
  UnI v .i64 fun res0_0 =>
  LdV m3 x4b (x4o + 1) fun v =>
  UnI v .i64 fun res0_1 =>
  LdV m3 x4b (x4o + 2) fun v =>
  UnS v fun res0_2a res0_2l res0_2c =>
  R (.returned (.agg #[.int .i64 res0_0, .int .i64 res0_1, .slice res0_2a res0_2l res0_2c])) m3)
def l1  (by_1 : Int) (x4b : Nat) (x4o : Nat) (out_5b : Nat) (out_5o : Nat) (x18a : Option Addr) (x18l : Nat) (x18c : Nat) (x19 : Int) (x20 : Int) (R : Ending → Mem → Prop) (m : Mem) : Prop :=
  ∃ (I : Nat → Int → Nat → Nat → Nat → Nat → Option Addr → Nat → Nat → Int → Int → Mem → Prop) (N : Nat), I N by_1 x4b x4o out_5b out_5o x18a x18l x18c x19 x20 m ∧ ∀ N by_1 x4b x4o out_5b out_5o x18a x18l x18c x19 x20 m, I N by_1 x4b x4o out_5b out_5o x18a x18l x18c x19 x20 m → l1B  (fun by_1 x4b x4o out_5b out_5o x18a x18l x18c x19 x20 m => ∃ N1, N1 < N ∧ I N1 by_1 x4b x4o out_5b out_5o x18a x18l x18c x19 x20 m) by_1 x4b x4o out_5b out_5o x18a x18l x18c x19 x20 R m
noncomputable def l1A  (K1 : Int → Nat → Nat → Nat → Nat → Option Addr → Nat → Nat → Int → Int → Mem → Prop) (R : Ending → Mem → Prop) : ACode := (.code (lP (bB (sR (sL (sR (sR (body))))))))
def e0 (c_0_0 : Int) (c_0_1 : Int) (c_0_2a : Option Addr) (c_0_2l : Nat) (c_0_2c : Nat) (by_1 : Int) (R : Ending → Mem → Prop) (m : Mem) : Prop :=
 NewC m #[.int .i64 c_0_0, .int .i64 c_0_1, .slice c_0_2a c_0_2l c_0_2c] T_chunk_Chunk fun b_c_2 m1 =>
 NewC m1 #[.int .i64 0, .int .i64 0, .slice none 0 0] T_chunk_Chunk fun b4 m2 =>
 LdV m2 b_c_2 0 fun v =>
 UnI v .i64 fun x9 =>
 LdV m2 b_c_2 1 fun v =>
 UnI v .i64 fun x13 =>
 NewC m2 #[.int .i64 0, .int .i64 0, .slice none 0 0] T_chunk_Chunk fun b_out_5 m3 =>
 St1 m3 b_out_5 0 (.int .i64 (IntKind.i64.wrap (x9 + by_1))) fun m4 =>
 St1 m4 b_out_5 1 (.int .i64 (IntKind.i64.wrap (x13 + by_1))) fun m5 =>
 St1 m5 b_out_5 2 (.slice none 0 0) fun m6 =>
 LdV m6 b_c_2 2 fun v =>
 UnS v fun x18a x18l x18c =>
 l1  by_1 b4 0 b_out_5 0 x18a x18l x18c ((x18l : Nat) : Int) 0 R m6
noncomputable def e0A (R : Ending → Mem → Prop) : ACode := (.seq (.code (sL (body))) (.seq (.code (sL (sR (body)))) (.seq (.seq (.code (sL (sL (sR (sR (body)))))) (.block 0 (.cut (l1E fun by_1 x4b x4o out_5b out_5o x18a x18l x18c x19 x20 m => l1  by_1 x4b x4o out_5b out_5o x18a x18l x18c x19 x20 R m) (.loop (lP (bB (sR (sL (sR (sR (body))))))))))) (.code (sR (sR (sR (body))))))))
abbrev l1Q  (R : Ending → Mem → Prop) : Exit → Env → Mem → Prop := (blockQ 0 (thenQ (acpt P od (panicR R) (.code (sR (sR (sR (body))))) (bodyQ P fn R)) (bodyQ P fn R)))
theorem l1_eq  (K1 : Int → Nat → Nat → Nat → Nat → Option Addr → Nat → Nat → Int → Int → Mem → Prop) (R : Ending → Mem → Prop) (by_1 : Int) (x4b : Nat) (x4o : Nat) (out_5b : Nat) (out_5o : Nat) (x18a : Option Addr) (x18l : Nat) (x18c : Nat) (x19 : Int) (x20 : Int) (ρ : Env) (m : Mem) : l1B  K1 by_1 x4b x4o out_5b out_5o x18a x18l x18c x19 x20 R m = acpt P od (panicR R) (l1A  K1 R) (thenQ (l1E K1) (l1Q  R)) (upd (upd (upd (upd (upd (upd ρ 20 (.int .i64 x20)) 19 (.int .i64 x19)) 18 (.slice x18a x18l x18c)) 5 (.pointer (some ⟨out_5b, out_5o, none⟩))) 4 (.pointer (some ⟨x4b, x4o, none⟩))) 1 (.int .i64 by_1)) m := by kernel_rfl
theorem l1_er  (K1 : Int → Nat → Nat → Nat → Nat → Option Addr → Nat → Nat → Int → Int → Mem → Prop) (R : Ending → Mem → Prop) : (l1A  K1 R).erase = lP (bB (sR (sL (sR (sR (body)))))) := by kernel_rfl
theorem l1_ok  (R : Ending → Mem → Prop) (ρ : Env) (m : Mem) (h : (l1E fun by_1 x4b x4o out_5b out_5o x18a x18l x18c x19 x20 m => l1  by_1 x4b x4o out_5b out_5o x18a x18l x18c x19 x20 R m) ρ m) : cpt P od (panicR R) (.loop (lP (bB (sR (sL (sR (sR (body)))))))) (l1Q  R) ρ m := by
  unfold l1E at h
  obtain ⟨by_1, e1, h⟩ := h.ex
  obtain ⟨x4b, x4o, e4, h⟩ := h.ex
  obtain ⟨out_5b, out_5o, e5, h⟩ := h.ex
  obtain ⟨x18a, x18l, x18c, e18, h⟩ := h.ex
  obtain ⟨x19, e19, h⟩ := h.ex
  obtain ⟨x20, e20, h⟩ := h.ex
  obtain ⟨I, N, h0, hs⟩ := h
  refine ⟨fun N => l1E (I N), N, (by show l1E (I N) ρ m; unfold l1E; rw [e1, e4, e5, e18, e19, e20]; exact h0), ?_⟩
  clear h0 e1 e4 e5 e18 e19 e20
  intro N ρ m h
  unfold l1E at h
  obtain ⟨by_1, e1, h⟩ := h.ex
  obtain ⟨x4b, x4o, e4, h⟩ := h.ex
  obtain ⟨out_5b, out_5o, e5, h⟩ := h.ex
  obtain ⟨x18a, x18l, x18c, e18, h⟩ := h.ex
  obtain ⟨x19, e19, h⟩ := h.ex
  obtain ⟨x20, e20, h⟩ := h.ex
  refine cpt_mono (P := P) (lP (bB (sR (sL (sR (sR (body))))))) (Q := thenQ (l1E fun by_1 x4b x4o out_5b out_5o x18a x18l x18c x19 x20 m => ∃ N1, N1 < N ∧ I N1 by_1 x4b x4o out_5b out_5o x18a x18l x18c x19 x20 m) (l1Q  R)) (fun e ρ m h => ?_) ρ m ?_
  · cases e with
    | normal =>
      have h : l1E (fun by_1 x4b x4o out_5b out_5o x18a x18l x18c x19 x20 m => ∃ N1, N1 < N ∧ I N1 by_1 x4b x4o out_5b out_5o x18a x18l x18c x19 x20 m) ρ m := h
      unfold l1E at h
      obtain ⟨by_1, e1, h⟩ := h.ex
      obtain ⟨x4b, x4o, e4, h⟩ := h.ex
      obtain ⟨out_5b, out_5o, e5, h⟩ := h.ex
      obtain ⟨x18a, x18l, x18c, e18, h⟩ := h.ex
      obtain ⟨x19, e19, h⟩ := h.ex
      obtain ⟨x20, e20, h⟩ := h.ex
      obtain ⟨N1, hlt, h⟩ := h
      exact ⟨N1, hlt, (by show l1E (I N1) ρ m; unfold l1E; rw [e1, e4, e5, e18, e19, e20]; exact h)⟩
    | _ => exact h
  have hh := hs N by_1 x4b x4o out_5b out_5o x18a x18l x18c x19 x20 m h
  generalize (fun by_1 x4b x4o out_5b out_5o x18a x18l x18c x19 x20 m => ∃ N1, N1 < N ∧ I N1 by_1 x4b x4o out_5b out_5o x18a x18l x18c x19 x20 m : Int → Nat → Nat → Nat → Nat → Option Addr → Nat → Nat → Int → Int → Mem → Prop) = K1 at hh ⊢
  rw [← upd_self e1, ← upd_self e4, ← upd_self e5, ← upd_self e18, ← upd_self e19, ← upd_self e20]
  rw [← l1_er  K1 R]
  refine acpt_sound (P := P) (l1A  K1 R) _ _ _ True.intro ?_
  exact Eq.mp (l1_eq  K1 R by_1 x4b x4o out_5b out_5o x18a x18l x18c x19 x20 ρ m) hh
theorem e0_eq (c_0_0 : Int) (c_0_1 : Int) (c_0_2a : Option Addr) (c_0_2l : Nat) (c_0_2c : Nat) (by_1 : Int) (R : Ending → Mem → Prop) (m : Mem) : e0 c_0_0 c_0_1 c_0_2a c_0_2l c_0_2c by_1 R m = acpt P od (panicR R) (e0A R) (bodyQ P fn R) (argE (#[.agg #[.int .i64 c_0_0, .int .i64 c_0_1, .slice c_0_2a c_0_2l c_0_2c], .int .i64 by_1] : Array Value).toList) m := by kernel_rfl
theorem ok (c_0_0 : Int) (c_0_1 : Int) (c_0_2a : Option Addr) (c_0_2l : Nat) (c_0_2c : Nat) (by_1 : Int) (R : Ending → Mem → Prop) (m : Mem) (h : e0 c_0_0 c_0_1 c_0_2a c_0_2l c_0_2c by_1 R m) : HC P id #[.agg #[.int .i64 c_0_0, .int .i64 c_0_1, .slice c_0_2a c_0_2l c_0_2c], .int .i64 by_1] m R := by
  refine HC_of (fn := fn) (c := body) (od := od) (tb := tb) Go.Proofs.Try.func15 (by kernel_rfl) (by kernel_rfl) follows (by kernel_rfl) (of_decide_eq_true (by kernel_rfl)) ?_
  have he : (e0A R).erase = body := by kernel_rfl
  rw [← he]
  refine acpt_sound (P := P) (e0A R) _ _ _ ⟨⟨⟨True.intro, ⟨(fun ρ m h => l1_ok  R ρ m h), True.intro⟩⟩, True.intro⟩, True.intro⟩ ?_
  exact Eq.mp (e0_eq c_0_0 c_0_1 c_0_2a c_0_2l c_0_2c by_1 R m) h
end chunk_move
/-! ### (*eyot/lru.Cache[eyot/chunk.Chunk]).Keys -/
namespace lru_Cache_chunk_Chunk_Keys
noncomputable def fn : Func := Go.Proofs.Try.f16
noncomputable def body : Code := fn.body.getD .skip
def od : Nat → Ord := fun _ => .done
def tb : Nat → Tab := fun _ => (0, [], [])
def l1E (K : Option Addr → Nat → Nat → Option Addr → Nat → Nat → Int → Int → Mem → Prop) : Env → Mem → Prop := fun ρ m => UnS (ρ 3) fun out_3a out_3l out_3c => UnS (ρ 11) fun x11a x11l x11c => UnI (ρ 12) .i64 fun x12 => UnI (ρ 13) .i64 fun x13 => K out_3a out_3l out_3c x11a x11l x11c x12 x13 m
def l1B  (K1 : Option Addr → Nat → Nat → Option Addr → Nat → Nat → Int → Int → Mem → Prop) (out_3a : Option Addr) (out_3l : Nat) (out_3c : Nat) (x11a : Option Addr) (x11l : Nat) (x11c : Nat) (x12 : Int) (x13 : Int) (R : Ending → Mem → Prop) (m : Mem) : Prop :=
 Br (decide (x13 < x12)) (
  IxS x11a x11l x13 4 fun x15b x15o =>
  LdV m x15b x15o fun v =>
  UnI v .i64 fun x16_0 =>
  LdV m x15b (x15o + 1) fun v =>
  UnI v .i64 fun x16_1 =>
  LdV m x15b (x15o + 2) fun v =>
  UnI v .i64 fun x16_2 =>
  LdV m x15b (x15o + 3) fun v =>
  UnS v fun x16_3a x16_3l x16_3c =>
  NewC m #[.int .i64 0, .int .i64 0, .int .i64 0, .slice none 0 0] T_lru_entry_chunk_Chunk fun b_e_5 m1 =>
  St1 m1 b_e_5 0 (.int .i64 x16_0) fun m2 =>
  St1 m2 b_e_5 1 (.int .i64 x16_1) fun m3 =>
  St1 m3 b_e_5 2 (.int .i64 x16_2) fun m4 =>
  St1 m4 b_e_5 3 (.slice x16_3a x16_3l x16_3c) fun m5 =>
  LdV m5 b_e_5 0 fun v =>
  UnI v .i64 fun x19 =>
  NewC m5 #[.int .i64 x19] T_int fun b20 m6 =>
  BiN P .append #[T_sl_int, T_sl_int] T_sl_int #[false, false] #[.slice out_3a out_3l out_3c, .slice (some ⟨b20, 0, none⟩) 1 1] m6 (fun w m7 =>
   UnS w fun x21a x21l x21c =>
   K1 x21a x21l x21c x11a x11l x11c x12 (IntKind.i64.wrap (x13 + 1)) m7) (panicR R)) (
  R (.returned (.slice out_3a out_3l out_3c)) m)
def l1  (out_3a : Option Addr) (out_3l : Nat) (out_3c : Nat) (x11a : Option Addr) (x11l : Nat) (x11c : Nat) (x12 : Int) (x13 : Int) (R : Ending → Mem → Prop) (m : Mem) : Prop :=
  ∃ (I : Nat → Option Addr → Nat → Nat → Option Addr → Nat → Nat → Int → Int → Mem → Prop) (N : Nat), I N out_3a out_3l out_3c x11a x11l x11c x12 x13 m ∧ ∀ N out_3a out_3l out_3c x11a x11l x11c x12 x13 m, I N out_3a out_3l out_3c x11a x11l x11c x12 x13 m → l1B  (fun out_3a out_3l out_3c x11a x11l x11c x12 x13 m => ∃ N1, N1 < N ∧ I N1 out_3a out_3l out_3c x11a x11l x11c x12 x13 m) out_3a out_3l out_3c x11a x11l x11c x12 x13 R m
noncomputable def l1A  (K1 : Option Addr → Nat → Nat → Option Addr → Nat → Nat → Int → Int → Mem → Prop) (R : Ending → Mem → Prop) : ACode := (.code (lP (bB (sR (sL (sR (sR (sR (body)))))))))
def e0 (c_0 : Option Addr) (R : Ending → Mem → Prop) (m : Mem) : Prop :=
 Br c_0.isNone (
  R (.returned (.slice none 0 0)) m) (
  NilC c_0 (fun x9b x9o =>
   LdV m x9b (x9o + 1) fun v =>
   UnS v fun x11a x11l x11c =>
   l1  none 0 0 x11a x11l x11c ((x11l : Nat) : Int) 0 R m) (R (.panicked (nilPanic P)) m))
noncomputable def e0A (R : Ending → Mem → Prop) : ACode := (.seq (.code (sL (body))) (.seq (.code (sL (sR (body)))) (.seq (.code (sL (sR (sR (body))))) (.seq (.seq (.code (sL (sL (sR (sR (sR (body))))))) (.block 0 (.cut (l1E fun out_3a out_3l out_3c x11a x11l x11c x12 x13 m => l1  out_3a out_3l out_3c x11a x11l x11c x12 x13 R m) (.loop (lP (bB (sR (sL (sR (sR (sR (body)))))))))))) (.code (sR (sR (sR (sR (body))))))))))
abbrev l1Q  (R : Ending → Mem → Prop) : Exit → Env → Mem → Prop := (blockQ 0 (thenQ (acpt P od (panicR R) (.code (sR (sR (sR (sR (body)))))) (bodyQ P fn R)) (bodyQ P fn R)))
theorem l1_eq  (K1 : Option Addr → Nat → Nat → Option Addr → Nat → Nat → Int → Int → Mem → Prop) (R : Ending → Mem → Prop) (out_3a : Option Addr) (out_3l : Nat) (out_3c : Nat) (x11a : Option Addr) (x11l : Nat) (x11c : Nat) (x12 : Int) (x13 : Int) (ρ : Env) (m : Mem) : l1B  K1 out_3a out_3l out_3c x11a x11l x11c x12 x13 R m = acpt P od (panicR R) (l1A  K1 R) (thenQ (l1E K1) (l1Q  R)) (upd (upd (upd (upd ρ 13 (.int .i64 x13)) 12 (.int .i64 x12)) 11 (.slice x11a x11l x11c)) 3 (.slice out_3a out_3l out_3c)) m := by kernel_rfl
theorem l1_er  (K1 : Option Addr → Nat → Nat → Option Addr → Nat → Nat → Int → Int → Mem → Prop) (R : Ending → Mem → Prop) : (l1A  K1 R).erase = lP (bB (sR (sL (sR (sR (sR (body))))))) := by kernel_rfl
theorem l1_ok  (R : Ending → Mem → Prop) (ρ : Env) (m : Mem) (h : (l1E fun out_3a out_3l out_3c x11a x11l x11c x12 x13 m => l1  out_3a out_3l out_3c x11a x11l x11c x12 x13 R m) ρ m) : cpt P od (panicR R) (.loop (lP (bB (sR (sL (sR (sR (sR (body))))))))) (l1Q  R) ρ m := by
  unfold l1E at h
  obtain ⟨out_3a, out_3l, out_3c, e3, h⟩ := h.ex
  obtain ⟨x11a, x11l, x11c, e11, h⟩ := h.ex
  obtain ⟨x12, e12, h⟩ := h.ex
  obtain ⟨x13, e13, h⟩ := h.ex
  obtain ⟨I, N, h0, hs⟩ := h
  refine ⟨fun N => l1E (I N), N, (by show l1E (I N) ρ m; unfold l1E; rw [e3, e11, e12, e13]; exact h0), ?_⟩
  clear h0 e3 e11 e12 e13
  intro N ρ m h
  unfold l1E at h
  obtain ⟨out_3a, out_3l, out_3c, e3, h⟩ := h.ex
  obtain ⟨x11a, x11l, x11c, e11, h⟩ := h.ex
  obtain ⟨x12, e12, h⟩ := h.ex
  obtain ⟨x13, e13, h⟩ := h.ex
  refine cpt_mono (P := P) (lP (bB (sR (sL (sR (sR (sR (body)))))))) (Q := thenQ (l1E fun out_3a out_3l out_3c x11a x11l x11c x12 x13 m => ∃ N1, N1 < N ∧ I N1 out_3a out_3l out_3c x11a x11l x11c x12 x13 m) (l1Q  R)) (fun e ρ m h => ?_) ρ m ?_
  · cases e with
    | normal =>
      have h : l1E (fun out_3a out_3l out_3c x11a x11l x11c x12 x13 m => ∃ N1, N1 < N ∧ I N1 out_3a out_3l out_3c x11a x11l x11c x12 x13 m) ρ m := h
      unfold l1E at h
      obtain ⟨out_3a, out_3l, out_3c, e3, h⟩ := h.ex
      obtain ⟨x11a, x11l, x11c, e11, h⟩ := h.ex
      obtain ⟨x12, e12, h⟩ := h.ex
      obtain ⟨x13, e13, h⟩ := h.ex
      obtain ⟨N1, hlt, h⟩ := h
      exact ⟨N1, hlt, (by show l1E (I N1) ρ m; unfold l1E; rw [e3, e11, e12, e13]; exact h)⟩
    | _ => exact h
  have hh := hs N out_3a out_3l out_3c x11a x11l x11c x12 x13 m h
  generalize (fun out_3a out_3l out_3c x11a x11l x11c x12 x13 m => ∃ N1, N1 < N ∧ I N1 out_3a out_3l out_3c x11a x11l x11c x12 x13 m : Option Addr → Nat → Nat → Option Addr → Nat → Nat → Int → Int → Mem → Prop) = K1 at hh ⊢
  rw [← upd_self e3, ← upd_self e11, ← upd_self e12, ← upd_self e13]
  rw [← l1_er  K1 R]
  refine acpt_sound (P := P) (l1A  K1 R) _ _ _ True.intro ?_
  exact Eq.mp (l1_eq  K1 R out_3a out_3l out_3c x11a x11l x11c x12 x13 ρ m) hh
theorem e0_eq (c_0 : Option Addr) (R : Ending → Mem → Prop) (m : Mem) : e0 c_0 R m = acpt P od (panicR R) (e0A R) (bodyQ P fn R) (argE (#[.pointer c_0] : Array Value).toList) m := by kernel_rfl
theorem ok (c_0 : Option Addr) (R : Ending → Mem → Prop) (m : Mem) (h : e0 c_0 R m) : HC P id #[.pointer c_0] m R := by
  refine HC_of (fn := fn) (c := body) (od := od) (tb := tb) Go.Proofs.Try.func16 (by kernel_rfl) (by kernel_rfl) follows (by kernel_rfl) (of_decide_eq_true (by kernel_rfl)) ?_
  have he : (e0A R).erase = body := by kernel_rfl
  rw [← he]
  refine acpt_sound (P := P) (e0A R) _ _ _ ⟨⟨⟨⟨True.intro, ⟨(fun ρ m h => l1_ok  R ρ m h), True.intro⟩⟩, True.intro⟩, True.intro⟩, True.intro⟩ ?_
  exact Eq.mp (e0_eq c_0 R m) h
end lru_Cache_chunk_Chunk_Keys
/-! ### slices.Reverse[[]int,int] -/
namespace slices_Reverse_s_int_int
noncomputable def fn : Func := Go.Proofs.Try.f17
noncomputable def body : Code := fn.body.getD .skip
def od : Nat → Ord := fun | 3 => ordL [(0, 3), (1, 3), (2, 3), (3, 3), (4, 3), (5, 3), (6, 3), (7, 1), (8, 3), (9, 3), (10, 3), (11, 0), (12, 3), (13, 2), (14, 3), (15, 2)] .done | _ => .done
def tb : Nat → Tab := fun | 3 => (40960, [0, 0, 0, 0, 0, 0, 48, 112, 0, 0, 768, 1792, 4083, 8179, 16383, 32767], [(0, 1, 15), (0, 4, 16), (0, 1, 17), (0, 8, 18), (0, 1, 19), (0, 8, 20), (48, 786432, 21), (64, 1048576, 22), (0, 1, 23), (0, 4, 24), (768, 12582912, 25), (1024, 16777216, 26), (2291, 49152, 27), (6387, 69206016, 0), (16383, 196608, 28), (32767, 167772160, 0)]) | _ => (0, [], [])
def l1E (K : Option Addr → Nat → Nat → Int → Int → Mem → Prop) : Env → Mem → Prop := fun ρ m => UnS (ρ 0) fun s_0a s_0l s_0c => UnI (ρ 2) .i64 fun i_2 => UnI (ρ 3) .i64 fun j_3 => K s_0a s_0l s_0c i_2 j_3 m
def l1B  (K1 : Option Addr → Nat → Nat → Int → Int → Mem → Prop) (s_0a : Option Addr) (s_0l : Nat) (s_0c : Nat) (i_2 : Int) (j_3 : Int) (R : Ending → Mem → Prop) (m : Mem) : Prop :=
 Br (decide (i_2 < j_3)) (
  Sub m fun r1 =>
  IxS s_0a s_0l j_3 1 fun x20b x20o =>
  LdV r1 x20b x20o fun v =>
  UnI v .i64 fun x21 =>
  IxS s_0a s_0l i_2 1 fun x24b x24o =>
  LdV m x24b x24o fun v =>
  UnI v .i64 fun x25 =>
  IxS s_0a s_0l i_2 1 fun x26b x26o =>
  St1 m x26b x26o (.int .i64 x21) fun m2 =>
  IxS s_0a s_0l j_3 1 fun x27b x27o =>
  St1 m2 x27b x27o (.int .i64 x25) fun m3 =>
  K1 s_0a s_0l s_0c (IntKind.i64.wrap (i_2 + 1)) (IntKind.i64.wrap (j_3 - 1)) m3) (
  R (.returned (.tuple #[])) m)
def l1  (s_0a : Option Addr) (s_0l : Nat) (s_0c : Nat) (i_2 : Int) (j_3 : Int) (R : Ending → Mem → Prop) (m : Mem) : Prop :=
  ∃ (I : Nat → Option Addr → Nat → Nat → Int → Int → Mem → Prop) (N : Nat), I N s_0a s_0l s_0c i_2 j_3 m ∧ ∀ N s_0a s_0l s_0c i_2 j_3 m, I N s_0a s_0l s_0c i_2 j_3 m → l1B  (fun s_0a s_0l s_0c i_2 j_3 m => ∃ N1, N1 < N ∧ I N1 s_0a s_0l s_0c i_2 j_3 m) s_0a s_0l s_0c i_2 j_3 R m
noncomputable def l1A  (K1 : Option Addr → Nat → Nat → Int → Int → Mem → Prop) (R : Ending → Mem → Prop) : ACode := (.code (lP (bB (sR (body)))))
def e0 (s_0a : Option Addr) (s_0l : Nat) (s_0c : Nat) (R : Ending → Mem → Prop) (m : Mem) : Prop :=
 l1  s_0a s_0l s_0c 0 (IntKind.i64.wrap (((s_0l : Nat) : Int) - 1)) R m
noncomputable def e0A (R : Ending → Mem → Prop) : ACode := (.seq (.code (sL (body))) (.block 0 (.cut (l1E fun s_0a s_0l s_0c i_2 j_3 m => l1  s_0a s_0l s_0c i_2 j_3 R m) (.loop (lP (bB (sR (body))))))))
abbrev l1Q  (R : Ending → Mem → Prop) : Exit → Env → Mem → Prop := (blockQ 0 (bodyQ P fn R))
theorem l1_eq  (K1 : Option Addr → Nat → Nat → Int → Int → Mem → Prop) (R : Ending → Mem → Prop) (s_0a : Option Addr) (s_0l : Nat) (s_0c : Nat) (i_2 : Int) (j_3 : Int) (ρ : Env) (m : Mem) : l1B  K1 s_0a s_0l s_0c i_2 j_3 R m = acpt P od (panicR R) (l1A  K1 R) (thenQ (l1E K1) (l1Q  R)) (upd (upd (upd ρ 3 (.int .i64 j_3)) 2 (.int .i64 i_2)) 0 (.slice s_0a s_0l s_0c)) m := by kernel_rfl
theorem l1_er  (K1 : Option Addr → Nat → Nat → Int → Int → Mem → Prop) (R : Ending → Mem → Prop) : (l1A  K1 R).erase = lP (bB (sR (body))) := by kernel_rfl
theorem l1_ok  (R : Ending → Mem → Prop) (ρ : Env) (m : Mem) (h : (l1E fun s_0a s_0l s_0c i_2 j_3 m => l1  s_0a s_0l s_0c i_2 j_3 R m) ρ m) : cpt P od (panicR R) (.loop (lP (bB (sR (body))))) (l1Q  R) ρ m := by
  unfold l1E at h
  obtain ⟨s_0a, s_0l, s_0c, e0, h⟩ := h.ex
  obtain ⟨i_2, e2, h⟩ := h.ex
  obtain ⟨j_3, e3, h⟩ := h.ex
  obtain ⟨I, N, h0, hs⟩ := h
  refine ⟨fun N => l1E (I N), N, (by show l1E (I N) ρ m; unfold l1E; rw [e0, e2, e3]; exact h0), ?_⟩
  clear h0 e0 e2 e3
  intro N ρ m h
  unfold l1E at h
  obtain ⟨s_0a, s_0l, s_0c, e0, h⟩ := h.ex
  obtain ⟨i_2, e2, h⟩ := h.ex
  obtain ⟨j_3, e3, h⟩ := h.ex
  refine cpt_mono (P := P) (lP (bB (sR (body)))) (Q := thenQ (l1E fun s_0a s_0l s_0c i_2 j_3 m => ∃ N1, N1 < N ∧ I N1 s_0a s_0l s_0c i_2 j_3 m) (l1Q  R)) (fun e ρ m h => ?_) ρ m ?_
  · cases e with
    | normal =>
      have h : l1E (fun s_0a s_0l s_0c i_2 j_3 m => ∃ N1, N1 < N ∧ I N1 s_0a s_0l s_0c i_2 j_3 m) ρ m := h
      unfold l1E at h
      obtain ⟨s_0a, s_0l, s_0c, e0, h⟩ := h.ex
      obtain ⟨i_2, e2, h⟩ := h.ex
      obtain ⟨j_3, e3, h⟩ := h.ex
      obtain ⟨N1, hlt, h⟩ := h
      exact ⟨N1, hlt, (by show l1E (I N1) ρ m; unfold l1E; rw [e0, e2, e3]; exact h)⟩
    | _ => exact h
  have hh := hs N s_0a s_0l s_0c i_2 j_3 m h
  generalize (fun s_0a s_0l s_0c i_2 j_3 m => ∃ N1, N1 < N ∧ I N1 s_0a s_0l s_0c i_2 j_3 m : Option Addr → Nat → Nat → Int → Int → Mem → Prop) = K1 at hh ⊢
  rw [← upd_self e0, ← upd_self e2, ← upd_self e3]
  rw [← l1_er  K1 R]
  refine acpt_sound (P := P) (l1A  K1 R) _ _ _ True.intro ?_
  exact Eq.mp (l1_eq  K1 R s_0a s_0l s_0c i_2 j_3 ρ m) hh
theorem e0_eq (s_0a : Option Addr) (s_0l : Nat) (s_0c : Nat) (R : Ending → Mem → Prop) (m : Mem) : e0 s_0a s_0l s_0c R m = acpt P od (panicR R) (e0A R) (bodyQ P fn R) (argE (#[.slice s_0a s_0l s_0c] : Array Value).toList) m := by kernel_rfl
theorem ok (s_0a : Option Addr) (s_0l : Nat) (s_0c : Nat) (R : Ending → Mem → Prop) (m : Mem) (h : e0 s_0a s_0l s_0c R m) : HC P id #[.slice s_0a s_0l s_0c] m R := by
  refine HC_of (fn := fn) (c := body) (od := od) (tb := tb) Go.Proofs.Try.func17 (by kernel_rfl) (by kernel_rfl) follows (by kernel_rfl) (of_decide_eq_true (by kernel_rfl)) ?_
  have he : (e0A R).erase = body := by kernel_rfl
  rw [← he]
  refine acpt_sound (P := P) (e0A R) _ _ _ ⟨(fun ρ m h => l1_ok  R ρ m h), True.intro⟩ ?_
  exact Eq.mp (e0_eq s_0a s_0l s_0c R m) h
end slices_Reverse_s_int_int
/-! ### (*eyot/lru.Cache[eyot/chunk.Chunk]).Get -/
namespace lru_Cache_chunk_Chunk_Get
noncomputable def fn : Func := Go.Proofs.Try.f18
noncomputable def body : Code := fn.body.getD .skip
def od : Nat → Ord := fun _ => .done
def tb : Nat → Tab := fun _ => (0, [], [])
def e0 (c_0 : Option Addr) (k_1 : Int) (R : Ending → Mem → Prop) (m : Mem) : Prop :=
 NewC m #[.int .i64 0, .int .i64 0, .slice none 0 0] T_chunk_Chunk fun b4 m1 =>
 HC P lru_Cache_chunk_Chunk_at.id #[.pointer c_0, .int .i64 k_1] m1 (Cont (fun v m2 =>
   UnI v .i64 fun x11 =>
   Br (decide (x11 < 0)) (
    NewC m2 #[.int .i64 0, .int .i64 0, .slice none 0 0] T_chunk_Chunk fun b_none_7 m3 =>
    LdV m3 b_none_7 0 fun v =>
    UnI v .i64 fun x14_0 =>
    LdV m3 b_none_7 1 fun v =>
    UnI v .i64 fun x14_1 =>
    LdV m3 b_none_7 2 fun v =>
    UnS v fun x14_2a x14_2l x14_2c =>
    St1 m3 b4 0 (.int .i64 x14_0) fun m4 =>
    St1 m4 b4 1 (.int .i64 x14_1) fun m5 =>
    St1 m5 b4 2 (.slice x14_2a x14_2l x14_2c) fun m6 =>
    LdV m6 b4 0 fun v =>
    UnI v .i64 fun res0_0 =>
    LdV m6 b4 1 fun v =>
    UnI v .i64 fun res0_1 =>
    LdV m6 b4 2 fun v =>
    UnS v fun res0_2a res0_2l res0_2c =>
    R (.returned (.tuple #[.agg #[.int .i64 res0_0, .int .i64 res0_1, .slice res0_2a res0_2l res0_2c], .bool false])) m6) (
    NilC c_0 (fun x16b x16o =>
     LdV m2 x16b (x16o + 1) fun v =>
     UnS v fun x18a x18l x18c =>
     IxS x18a x18l x11 4 fun x20b x20o =>
     LdV m2 x20b x20o fun v =>
     UnI v .i64 fun x21_0 =>
     LdV m2 x20b (x20o + 1) fun v =>
     UnI v .i64 fun x21_1 =>
     LdV m2 x20b (x20o + 2) fun v =>
     UnI v .i64 fun x21_2 =>
     LdV m2 x20b (x20o + 3) fun v =>
     UnS v fun x21_3a x21_3l x21_3c =>
     NewC m2 #[.int .i64 0, .int .i64 0, .int .i64 0, .slice none 0 0] T_lru_entry_chunk_Chunk fun b_e_8 m3 =>
     St1 m3 b_e_8 0 (.int .i64 x21_0) fun m4 =>
     St1 m4 b_e_8 1 (.int .i64 x21_1) fun m5 =>
     St1 m5 b_e_8 2 (.int .i64 x21_2) fun m6 =>
     St1 m6 b_e_8 3 (.slice x21_3a x21_3l x21_3c) fun m7 =>
     NilC c_0 (fun x24b x24o =>
      LdV m7 x24b (x24o + 1) fun v =>
      UnS v fun x26a x26l x26c =>
      HC P slices_Delete_s_lru_entry_chunk_Chunk_lru_entry_chunk_Chunk.id #[.slice x26a x26l x26c, .int .i64 x11, .int .i64 (IntKind.i64.wrap (x11 + 1))] m7 (Cont (fun v m8 =>
        UnS v fun x30a x30l x30c =>
        NilC c_0 (fun x31b x31o =>
        St1 m8 x31b (x31o + 1) (.slice x30a x30l x30c) fun m9 =>
        LdV m9 b_e_8 0 fun v =>
        UnI v .i64 fun x34_0 =>
        LdV m9 b_e_8 1 fun v =>
        UnI v .i64 fun x34_1 =>
        LdV m9 b_e_8 2 fun v =>
        UnI v .i64 fun x34_2 =>
        LdV m9 b_e_8 3 fun v =>
        UnS v fun x34_3a x34_3l x34_3c =>
        HC P lru_Cache_chunk_Chunk_front.id #[.pointer c_0, .agg #[.int .i64 x34_0, .int .i64 x34_1, .int .i64 x34_2, .slice x34_3a x34_3l x34_3c]] m9 (Cont (fun v m10 =>
        UnTup v fun us0 =>
        UnNil us0 (
        LdV m10 b_e_8 1 fun v =>
        UnI v .i64 fun x37_0 =>
        LdV m10 b_e_8 2 fun v =>
        UnI v .i64 fun x37_1 =>
        LdV m10 b_e_8 3 fun v =>
        UnS v fun x37_2a x37_2l x37_2c =>
        St1 m10 b4 0 (.int .i64 x37_0) fun m11 =>
        St1 m11 b4 1 (.int .i64 x37_1) fun m12 =>
        St1 m12 b4 2 (.slice x37_2a x37_2l x37_2c) fun m13 =>
        LdV m13 b4 0 fun v =>
        UnI v .i64 fun res0_0 =>
        LdV m13 b4 1 fun v =>
        UnI v .i64 fun res0_1 =>
        LdV m13 b4 2 fun v =>
        UnS v fun res0_2a res0_2l res0_2c =>
        R (.returned (.tuple #[.agg #[.int .i64 res0_0, .int .i64 res0_1, .slice res0_2a res0_2l res0_2c], .bool true])) m13)) (panicR R))) (R (.panicked (nilPanic P)) m8)) (panicR R))) (R (.panicked (nilPanic P)) m7)) (R (.panicked (nilPanic P)) m2))) (panicR R))
noncomputable def e0A (R : Ending → Mem → Prop) : ACode := (.code (body))
theorem e0_eq (c_0 : Option Addr) (k_1 : Int) (R : Ending → Mem → Prop) (m : Mem) : e0 c_0 k_1 R m = acpt P od (panicR R) (e0A R) (bodyQ P fn R) (argE (#[.pointer c_0, .int .i64 k_1] : Array Value).toList) m := by kernel_rfl
theorem ok (c_0 : Option Addr) (k_1 : Int) (R : Ending → Mem → Prop) (m : Mem) (h : e0 c_0 k_1 R m) : HC P id #[.pointer c_0, .int .i64 k_1] m R := by
  refine HC_of (fn := fn) (c := body) (od := od) (tb := tb) Go.Proofs.Try.func18 (by kernel_rfl) (by kernel_rfl) follows (by kernel_rfl) (of_decide_eq_true (by kernel_rfl)) ?_
  have he : (e0A R).erase = body := by kernel_rfl
  rw [← he]
  refine acpt_sound (P := P) (e0A R) _ _ _ True.intro ?_
  exact Eq.mp (e0_eq c_0 k_1 R m) h
end lru_Cache_chunk_Chunk_Get
/-! ### slices.SortFunc[[]eyot/chunk.Chunk,eyot/chunk.Chunk] -/
namespace slices_SortFunc_s_chunk_Chunk_chunk_Chunk
noncomputable def fn : Func := Go.Proofs.Try.f19
noncomputable def body : Code := fn.body.getD .skip
def od : Nat → Ord := fun _ => .done
def tb : Nat → Tab := fun _ => (0, [], [])
def e0 (x_0a : Option Addr) (x_0l : Nat) (x_0c : Nat) (cmp_1 : Value) (R : Ending → Mem → Prop) (m : Mem) : Prop :=
 HC P math_bits_Len.id #[.int .u64 (IntKind.u64.wrap ((x_0l : Nat) : Int))] m (Cont (fun v m1 =>
   UnI v .i64 fun x11 =>
   HC P slices_pdqsortCmpFunc_chunk_Chunk.id #[.slice x_0a x_0l x_0c, .int .i64 0, .int .i64 ((x_0l : Nat) : Int), .int .i64 x11, cmp_1] m1 (Cont (fun v m2 =>
     UnTup v fun us0 =>
     UnNil us0 (
      R (.returned (.tuple #[])) m2)) (panicR R))) (panicR R))
noncomputable def e0A (R : Ending → Mem → Prop) : ACode := (.code (body))
theorem e0_eq (x_0a : Option Addr) (x_0l : Nat) (x_0c : Nat) (cmp_1 : Value) (R : Ending → Mem → Prop) (m : Mem) : e0 x_0a x_0l x_0c cmp_1 R m = acpt P od (panicR R) (e0A R) (bodyQ P fn R) (argE (#[.slice x_0a x_0l x_0c, cmp_1] : Array Value).toList) m := by kernel_rfl
theorem ok (x_0a : Option Addr) (x_0l : Nat) (x_0c : Nat) (cmp_1 : Value) (R : Ending → Mem → Prop) (m : Mem) (h : e0 x_0a x_0l x_0c cmp_1 R m) : HC P id #[.slice x_0a x_0l x_0c, cmp_1] m R := by
  refine HC_of (fn := fn) (c := body) (od := od) (tb := tb) Go.Proofs.Try.func19 (by kernel_rfl) (by kernel_rfl) follows (by kernel_rfl) (of_decide_eq_true (by kernel_rfl)) ?_
  have he : (e0A R).erase = body := by kernel_rfl
  rw [← he]
  refine acpt_sound (P := P) (e0A R) _ _ _ True.intro ?_
  exact Eq.mp (e0_eq x_0a x_0l x_0c cmp_1 R m) h
end slices_SortFunc_s_chunk_Chunk_chunk_Chunk
/-! ### eyot/eyotref23.SameSpans -/
namespace eyotref23_SameSpans
noncomputable def fn : Func := Go.Proofs.Try.f21
noncomputable def body : Code := fn.body.getD .skip
def od : Nat → Ord := fun | 6 => ordL [(0, 3), (1, 3), (2, 3), (3, 3), (4, 1), (5, 3), (6, 3), (7, 3), (8, 3), (9, 0), (10, 3), (11, 3), (12, 3), (13, 3), (14, 3), (15, 3), (16, 1), (17, 3), (18, 3), (19, 3), (20, 3), (21, 0), (22, 3), (23, 3), (24, 3), (25, 3), (26, 3), (27, 3), (28, 3), (29, 1), (30, 3), (31, 3), (32, 3), (33, 3), (34, 0), (35, 2), (36, 3), (37, 3)] .done | _ => .done
def tb : Nat → Tab := fun | 6 => (34359738368, [0, 0, 3, 7, 15, 0, 0, 96, 224, 480, 1023, 2047, 4095, 4095, 16383, 32767, 65535, 4095, 4095, 397311, 921599, 1970175, 4194303, 8388607, 16777215, 33554431, 33554431, 134217727, 268435455, 536870911, 33554431, 33554431, 3254779903, 7549747199, 16139681791, 34359738367, 68719476735, 137438953471], [(0, 1, 18), (0, 32, 19), (3, 393216, 20), (4, 524288, 21), (8, 1048576, 22), (0, 2, 23), (0, 32, 24), (96, 12582912, 25), (128, 16777216, 26), (256, 33554432, 27), (528, 69206016, 28), (1024, 134217728, 29), (2048, 268435457, 30), (2048, 268435488, 31), (14336, 1879048192, 32), (18432, 2415919104, 33), (34816, 4563402752, 34), (2048, 268435458, 35), (2048, 268435488, 36), (395264, 51808043008, 37), (526336, 68987912192, 38), (1050624, 137707388928, 39), (2164736, 283736276992, 40), (4196352, 550024249344, 41), (8390656, 1099511627776, 42), (16777216, 2199023255553, 43), (16777216, 2199023255584, 44), (117440512, 15393162788864, 45), (150994944, 19791209299968, 46), (285212672, 37383395344384, 47), (16777216, 2199023255554, 48), (16777216, 2199023255584, 49), (3238002688, 424411488321536, 50), (4311744512, 565148976676864, 51), (8606711808, 1128098930098176, 52), (17733517312, 2324367581118464, 53), (34376515584, 4505798650626048, 54), (68736253952, 9009398277996544, 55)]) | _ => (0, [], [])
def l1E (K : Option Addr → Nat → Nat → Option Addr → Nat → Nat → Int → Mem → Prop) : Env → Mem → Prop := fun ρ m => UnS (ρ 0) fun a_0a a_0l a_0c => UnS (ρ 1) fun b_1a b_1l b_1c => UnI (ρ 5) .i64 fun i_5 => K a_0a a_0l a_0c b_1a b_1l b_1c i_5 m
def l1B  (K1 : Option Addr → Nat → Nat → Option Addr → Nat → Nat → Int → Mem → Prop) (a_0a : Option Addr) (a_0l : Nat) (a_0c : Nat) (b_1a : Option Addr) (b_1l : Nat) (b_1c : Nat) (i_5 : Int) (R : Ending → Mem → Prop) (m : Mem) : Prop :=
 Br (decide (i_5 < ((a_0l : Nat) : Int))) (
  Sub m fun r1 =>
  IxS a_0a a_0l i_5 3 fun x19b x19o =>
  LdV r1 x19b x19o fun v =>
  UnI v .i64 fun x21 =>
  IxS b_1a b_1l i_5 3 fun x24b x24o =>
  LdV m x24b x24o fun v =>
  UnI v .i64 fun x26 =>
  Br (x21 != x26) (
   R (.returned (.bool false)) m) (
   IxS a_0a a_0l i_5 3 fun x31b x31o =>
   LdV r1 x31b (x31o + 1) fun v =>
   UnI v .i64 fun x33 =>
   IxS b_1a b_1l i_5 3 fun x36b x36o =>
   LdV m x36b (x36o + 1) fun v =>
   UnI v .i64 fun x38 =>
   Br (x33 != x38) (
    R (.returned (.bool false)) m) (
    IxS a_0a a_0l i_5 3 fun x44b x44o =>
    LdV r1 x44b (x44o + 2) fun v =>
    UnS v fun x46a x46l x46c =>
    IxS b_1a b_1l i_5 3 fun x49b x49o =>
    LdV m x49b (x49o + 2) fun v =>
    UnS v fun x51a x51l x51c =>
    HC P eyotref18_Same.id #[.slice x46a x46l x46c, .slice x51a x51l x51c] m (Cont (fun v m2 =>
      UnB v fun x52 =>
      Br (!x52) (
       R (.returned (.bool false)) m2) (
       K1 a_0a a_0l a_0c b_1a b_1l b_1c (IntKind.i64.wrap (i_5 + 1)) m2)) (panicR R))))) (
  R (.returned (.bool true)) m)
def l1  (a_0a : Option Addr) (a_0l : Nat) (a_0c : Nat) (b_1a : Option Addr) (b_1l : Nat) (b_1c : Nat) (i_5 : Int) (R : Ending → Mem → Prop) (m : Mem) : Prop :=
  ∃ (I : Nat → Option Addr → Nat → Nat → Option Addr → Nat → Nat → Int → Mem → Prop) (N : Nat), I N a_0a a_0l a_0c b_1a b_1l b_1c i_5 m ∧ ∀ N a_0a a_0l a_0c b_1a b_1l b_1c i_5 m, I N a_0a a_0l a_0c b_1a b_1l b_1c i_5 m → l1B  (fun a_0a a_0l a_0c b_1a b_1l b_1c i_5 m => ∃ N1, N1 < N ∧ I N1 a_0a a_0l a_0c b_1a b_1l b_1c i_5 m) a_0a a_0l a_0c b_1a b_1l b_1c i_5 R m
noncomputable def l1A  (K1 : Option Addr → Nat → Nat → Option Addr → Nat → Nat → Int → Mem → Prop) (R : Ending → Mem → Prop) : ACode := (.code (lP (bB (sR (sL (sR (sR (body))))))))
def e0 (a_0a : Option Addr) (a_0l : Nat) (a_0c : Nat) (b_1a : Option Addr) (b_1l : Nat) (b_1c : Nat) (R : Ending → Mem → Prop) (m : Mem) : Prop :=
 Br (((a_0l : Nat) : Int) != ((b_1l : Nat) : Int)) (
  R (.returned (.bool false)) m) (
  l1  a_0a a_0l a_0c b_1a b_1l b_1c 0 R m)
noncomputable def e0A (R : Ending → Mem → Prop) : ACode := (.seq (.code (sL (body))) (.seq (.code (sL (sR (body)))) (.seq (.seq (.code (sL (sL (sR (sR (body)))))) (.block 0 (.cut (l1E fun a_0a a_0l a_0c b_1a b_1l b_1c i_5 m => l1  a_0a a_0l a_0c b_1a b_1l b_1c i_5 R m) (.loop (lP (bB (sR (sL (sR (sR (body))))))))))) (.code (sR (sR (sR (body))))))))
abbrev l1Q  (R : Ending → Mem → Prop) : Exit → Env → Mem → Prop := (blockQ 0 (thenQ (acpt P od (panicR R) (.code (sR (sR (sR (body))))) (bodyQ P fn R)) (bodyQ P fn R)))
theorem l1_eq  (K1 : Option Addr → Nat → Nat → Option Addr → Nat → Nat → Int → Mem → Prop) (R : Ending → Mem → Prop) (a_0a : Option Addr) (a_0l : Nat) (a_0c : Nat) (b_1a : Option Addr) (b_1l : Nat) (b_1c : Nat) (i_5 : Int) (ρ : Env) (m : Mem) : l1B  K1 a_0a a_0l a_0c b_1a b_1l b_1c i_5 R m = acpt P od (panicR R) (l1A  K1 R) (thenQ (l1E K1) (l1Q  R)) (upd (upd (upd ρ 5 (.int .i64 i_5)) 1 (.slice b_1a b_1l b_1c)) 0 (.slice a_0a a_0l a_0c)) m := by kernel_rfl
theorem l1_er  (K1 : Option Addr → Nat → Nat → Option Addr → Nat → Nat → Int → Mem → Prop) (R : Ending → Mem → Prop) : (l1A  K1 R).erase = lP (bB (sR (sL (sR (sR (body)))))) := by kernel_rfl
theorem l1_ok  (R : Ending → Mem → Prop) (ρ : Env) (m : Mem) (h : (l1E fun a_0a a_0l a_0c b_1a b_1l b_1c i_5 m => l1  a_0a a_0l a_0c b_1a b_1l b_1c i_5 R m) ρ m) : cpt P od (panicR R) (.loop (lP (bB (sR (sL (sR (sR (body)))))))) (l1Q  R) ρ m := by
  unfold l1E at h
  obtain ⟨a_0a, a_0l, a_0c, e0, h⟩ := h.ex
  obtain ⟨b_1a, b_1l, b_1c, e1, h⟩ := h.ex
  obtain ⟨i_5, e5, h⟩ := h.ex
  obtain ⟨I, N, h0, hs⟩ := h
  refine ⟨fun N => l1E (I N), N, (by show l1E (I N) ρ m; unfold l1E; rw [e0, e1, e5]; exact h0), ?_⟩
  clear h0 e0 e1 e5
  intro N ρ m h
  unfold l1E at h
  obtain ⟨a_0a, a_0l, a_0c, e0, h⟩ := h.ex
  obtain ⟨b_1a, b_1l, b_1c, e1, h⟩ := h.ex
  obtain ⟨i_5, e5, h⟩ := h.ex
  refine cpt_mono (P := P) (lP (bB (sR (sL (sR (sR (body))))))) (Q := thenQ (l1E fun a_0a a_0l a_0c b_1a b_1l b_1c i_5 m => ∃ N1, N1 < N ∧ I N1 a_0a a_0l a_0c b_1a b_1l b_1c i_5 m) (l1Q  R)) (fun e ρ m h => ?_) ρ m ?_
  · cases e with
    | normal =>
      have h : l1E (fun a_0a a_0l a_0c b_1a b_1l b_1c i_5 m => ∃ N1, N1 < N ∧ I N1 a_0a a_0l a_0c b_1a b_1l b_1c i_5 m) ρ m := h
      unfold l1E at h
      obtain ⟨a_0a, a_0l, a_0c, e0, h⟩ := h.ex
      obtain ⟨b_1a, b_1l, b_1c, e1, h⟩ := h.ex
      obtain ⟨i_5, e5, h⟩ := h.ex
      obtain ⟨N1, hlt, h⟩ := h
      exact ⟨N1, hlt, (by show l1E (I N1) ρ m; unfold l1E; rw [e0, e1, e5]; exact h)⟩
    | _ => exact h
  have hh := hs N a_0a a_0l a_0c b_1a b_1l b_1c i_5 m h
  generalize (fun a_0a a_0l a_0c b_1a b_1l b_1c i_5 m => ∃ N1, N1 < N ∧ I N1 a_0a a_0l a_0c b_1a b_1l b_1c i_5 m : Option Addr → Nat → Nat → Option Addr → Nat → Nat → Int → Mem → Prop) = K1 at hh ⊢
  rw [← upd_self e0, ← upd_self e1, ← upd_self e5]
  rw [← l1_er  K1 R]
  refine acpt_sound (P := P) (l1A  K1 R) _ _ _ True.intro ?_
  exact Eq.mp (l1_eq  K1 R a_0a a_0l a_0c b_1a b_1l b_1c i_5 ρ m) hh
theorem e0_eq (a_0a : Option Addr) (a_0l : Nat) (a_0c : Nat) (b_1a : Option Addr) (b_1l : Nat) (b_1c : Nat) (R : Ending → Mem → Prop) (m : Mem) : e0 a_0a a_0l a_0c b_1a b_1l b_1c R m = acpt P od (panicR R) (e0A R) (bodyQ P fn R) (argE (#[.slice a_0a a_0l a_0c, .slice b_1a b_1l b_1c] : Array Value).toList) m := by kernel_rfl
theorem ok (a_0a : Option Addr) (a_0l : Nat) (a_0c : Nat) (b_1a : Option Addr) (b_1l : Nat) (b_1c : Nat) (R : Ending → Mem → Prop) (m : Mem) (h : e0 a_0a a_0l a_0c b_1a b_1l b_1c R m) : HC P id #[.slice a_0a a_0l a_0c, .slice b_1a b_1l b_1c] m R := by
  refine HC_of (fn := fn) (c := body) (od := od) (tb := tb) Go.Proofs.Try.func21 (by kernel_rfl) (by kernel_rfl) follows (by kernel_rfl) (of_decide_eq_true (by kernel_rfl)) ?_
  have he : (e0A R).erase = body := by kernel_rfl
  rw [← he]
  refine acpt_sound (P := P) (e0A R) _ _ _ ⟨⟨⟨True.intro, ⟨(fun ρ m h => l1_ok  R ρ m h), True.intro⟩⟩, True.intro⟩, True.intro⟩ ?_
  exact Eq.mp (e0_eq a_0a a_0l a_0c b_1a b_1l b_1c R m) h
end eyotref23_SameSpans
/-! ### (*eyot/lru.Cache[eyot/chunk.Chunk]).Drop -/
namespace lru_Cache_chunk_Chunk_Drop
noncomputable def fn : Func := Go.Proofs.Try.f22
noncomputable def body : Code := fn.body.getD .skip
def od : Nat → Ord := fun _ => .done
def tb : Nat → Tab := fun _ => (0, [], [])
def e0 (c_0 : Option Addr) (k_1 : Int) (R : Ending → Mem → Prop) (m : Mem) : Prop :=
 HC P lru_Cache_chunk_Chunk_at.id #[.pointer c_0, .int .i64 k_1] m (Cont (fun v m1 =>
   UnI v .i64 fun x8 =>
   Br (decide (x8 < 0)) (
    R (.returned (.bool false)) m1) (
    NilC c_0 (fun x13b x13o =>
     LdV m1 x13b (x13o + 1) fun v =>
     UnS v fun x15a x15l x15c =>
     HC P slices_Delete_s_lru_entry_chunk_Chunk_lru_entry_chunk_Chunk.id #[.slice x15a x15l x15c, .int .i64 x8, .int .i64 (IntKind.i64.wrap (x8 + 1))] m1 (Cont (fun v m2 =>
       UnS v fun x19a x19l x19c =>
       NilC c_0 (fun x20b x20o =>
        St1 m2 x20b (x20o + 1) (.slice x19a x19l x19c) fun m3 =>
        R (.returned (.bool true)) m3) (R (.panicked (nilPanic P)) m2)) (panicR R))) (R (.panicked (nilPanic P)) m1))) (panicR R))
noncomputable def e0A (R : Ending → Mem → Prop) : ACode := (.code (body))
theorem e0_eq (c_0 : Option Addr) (k_1 : Int) (R : Ending → Mem → Prop) (m : Mem) : e0 c_0 k_1 R m = acpt P od (panicR R) (e0A R) (bodyQ P fn R) (argE (#[.pointer c_0, .int .i64 k_1] : Array Value).toList) m := by kernel_rfl
theorem ok (c_0 : Option Addr) (k_1 : Int) (R : Ending → Mem → Prop) (m : Mem) (h : e0 c_0 k_1 R m) : HC P id #[.pointer c_0, .int .i64 k_1] m R := by
  refine HC_of (fn := fn) (c := body) (od := od) (tb := tb) Go.Proofs.Try.func22 (by kernel_rfl) (by kernel_rfl) follows (by kernel_rfl) (of_decide_eq_true (by kernel_rfl)) ?_
  have he : (e0A R).erase = body := by kernel_rfl
  rw [← he]
  refine acpt_sound (P := P) (e0A R) _ _ _ True.intro ?_
  exact Eq.mp (e0_eq c_0 k_1 R m) h
end lru_Cache_chunk_Chunk_Drop
/-! ### (*eyot/lru.Cache[eyot/chunk.Chunk]).front -/
namespace lru_Cache_chunk_Chunk_front
noncomputable def fn : Func := Go.Proofs.Try.f23
noncomputable def body : Code := fn.body.getD .skip
def od : Nat → Ord := fun | 1 => ordL [(0, 3), (1, 3), (2, 3), (3, 3), (4, 1), (5, 0), (6, 0), (7, 2), (8, 3), (9, 3), (10, 2)] .done | _ => .done
def tb : Nat → Tab := fun | 1 => (1152, [0, 0, 2, 6, 14, 0, 32, 126, 255, 511, 1023], [(0, 1, 5), (0, 1, 6), (2, 32, 7), (4, 64, 8), (8, 128, 9), (0, 8, 10), (32, 512, 11), (80, 1280, 12), (255, 16, 13), (511, 4096, 14), (767, 10240, 0)]) | _ => (0, [], [])
def e0 (c_0 : Option Addr) (e_1_0 : Int) (e_1_1 : Int) (e_1_2 : Int) (e_1_3a : Option Addr) (e_1_3l : Nat) (e_1_3c : Nat) (R : Ending → Mem → Prop) (m : Mem) : Prop :=
 NewC m #[.int .i64 e_1_0, .int .i64 e_1_1, .int .i64 e_1_2, .slice e_1_3a e_1_3l e_1_3c] T_lru_entry_chunk_Chunk fun b_e_3 m1 =>
 Sub m1 fun r2 =>
 NilC c_0 (fun x6b x6o =>
  LdV r2 x6b (x6o + 1) fun v =>
  UnS v fun x8a x8l x8c =>
  LdV m1 b_e_3 0 fun v =>
  UnI v .i64 fun x9_0 =>
  LdV m1 b_e_3 1 fun v =>
  UnI v .i64 fun x9_1 =>
  LdV m1 b_e_3 2 fun v =>
  UnI v .i64 fun x9_2 =>
  LdV m1 b_e_3 3 fun v =>
  UnS v fun x9_3a x9_3l x9_3c =>
  NewC m1 #[.int .i64 x9_0, .int .i64 x9_1, .int .i64 x9_2, .slice x9_3a x9_3l x9_3c] T_lru_entry_chunk_Chunk fun b10 m3 =>
  Lk r2 m3 fun r4 =>
  HC P slices_Insert_s_lru_entry_chunk_Chunk_lru_entry_chunk_Chunk.id #[.slice x8a x8l x8c, .int .i64 0, .slice (some ⟨b10, 0, none⟩) 1 1] m3 (Cont (fun v m5 =>
    UnS v fun x11a x11l x11c =>
    NilC c_0 (fun x12b x12o =>
     St1 m5 x12b (x12o + 1) (.slice x11a x11l x11c) fun m6 =>
     R (.returned (.tuple #[])) m6) (False)) (panicR R))) (False)
noncomputable def e0A (R : Ending → Mem → Prop) : ACode := (.code (body))
theorem e0_eq (c_0 : Option Addr) (e_1_0 : Int) (e_1_1 : Int) (e_1_2 : Int) (e_1_3a : Option Addr) (e_1_3l : Nat) (e_1_3c : Nat) (R : Ending → Mem → Prop) (m : Mem) : e0 c_0 e_1_0 e_1_1 e_1_2 e_1_3a e_1_3l e_1_3c R m = acpt P od (panicR R) (e0A R) (bodyQ P fn R) (argE (#[.pointer c_0, .agg #[.int .i64 e_1_0, .int .i64 e_1_1, .int .i64 e_1_2, .slice e_1_3a e_1_3l e_1_3c]] : Array Value).toList) m := by kernel_rfl
theorem ok (c_0 : Option Addr) (e_1_0 : Int) (e_1_1 : Int) (e_1_2 : Int) (e_1_3a : Option Addr) (e_1_3l : Nat) (e_1_3c : Nat) (R : Ending → Mem → Prop) (m : Mem) (h : e0 c_0 e_1_0 e_1_1 e_1_2 e_1_3a e_1_3l e_1_3c R m) : HC P id #[.pointer c_0, .agg #[.int .i64 e_1_0, .int .i64 e_1_1, .int .i64 e_1_2, .slice e_1_3a e_1_3l e_1_3c]] m R := by
  refine HC_of (fn := fn) (c := body) (od := od) (tb := tb) Go.Proofs.Try.func23 (by kernel_rfl) (by kernel_rfl) follows (by kernel_rfl) (of_decide_eq_true (by kernel_rfl)) ?_
  have he : (e0A R).erase = body := by kernel_rfl
  rw [← he]
  refine acpt_sound (P := P) (e0A R) _ _ _ True.intro ?_
  exact Eq.mp (e0_eq c_0 e_1_0 e_1_1 e_1_2 e_1_3a e_1_3l e_1_3c R m) h
end lru_Cache_chunk_Chunk_front
/-! ### eyot/tree.Move -/
namespace tree_Move
noncomputable def fn : Func := Go.Proofs.Try.f24
noncomputable def body : Code := fn.body.getD .skip
def od : Nat → Ord := fun _ => .done
def tb : Nat → Tab := fun _ => (0, [], [])
def l1E (K : Int → Option Addr → Nat → Nat → Int → Int → Mem → Prop) : Env → Mem → Prop := fun ρ m => UnI (ρ 1) .i64 fun by_1 => UnS (ρ 5) fun out_5a out_5l out_5c => UnI (ρ 10) .i64 fun x10 => UnI (ρ 11) .i64 fun x11 => K by_1 out_5a out_5l out_5c x10 x11 m
def l1B  (K1 : Int → Option Addr → Nat → Nat → Int → Int → Mem → Prop) (by_1 : Int) (out_5a : Option Addr) (out_5l : Nat) (out_5c : Nat) (x10 : Int) (x11 : Int) (R : Ending → Mem → Prop) (m : Mem) : Prop :=
 Br (decide (x11 < x10)) (
  IxS out_5a out_5l x11 5 fun x16b x16o =>
  LdV m x16b (x16o + 3) fun v =>
  UnI v .i64 fun x18 =>
  IxS out_5a out_5l x11 5 fun x21b x21o =>
  St1 m x21b (x21o + 3) (.int .i64 (IntKind.i64.wrap (x18 + by_1))) fun m1 =>
  IxS out_5a out_5l x11 5 fun x25b x25o =>
  LdV m1 x25b (x25o + 4) fun v =>
  UnI v .i64 fun x27 =>
  IxS out_5a out_5l x11 5 fun x30b x30o =>
  St1 m1 x30b (x30o + 4) (.int .i64 (IntKind.i64.wrap (x27 + by_1))) fun m2 =>
  K1 by_1 out_5a out_5l out_5c x10 (IntKind.i64.wrap (x11 + 1)) m2) (
  R (.returned (.slice out_5a out_5l out_5c)) m)
def l1  (by_1 : Int) (out_5a : Option Addr) (out_5l : Nat) (out_5c : Nat) (x10 : Int) (x11 : Int) (R : Ending → Mem → Prop) (m : Mem) : Prop :=
  ∃ (I : Nat → Int → Option Addr → Nat → Nat → Int → Int → Mem → Prop) (N : Nat), I N by_1 out_5a out_5l out_5c x10 x11 m ∧ ∀ N by_1 out_5a out_5l out_5c x10 x11 m, I N by_1 out_5a out_5l out_5c x10 x11 m → l1B  (fun by_1 out_5a out_5l out_5c x10 x11 m => ∃ N1, N1 < N ∧ I N1 by_1 out_5a out_5l out_5c x10 x11 m) by_1 out_5a out_5l out_5c x10 x11 R m
noncomputable def l1A  (K1 : Int → Option Addr → Nat → Nat → Int → Int → Mem → Prop) (R : Ending → Mem → Prop) : ACode := (.code (lP (bB (sR (sL (sR (sR (body))))))))
def e0 (l_0a : Option Addr) (l_0l : Nat) (l_0c : Nat) (by_1 : Int) (R : Ending → Mem → Prop) (m : Mem) : Prop :=
 HC P slices_Clone_s_api_Node_api_Node.id #[.slice l_0a l_0l l_0c] m (Cont (fun v m1 =>
   UnS v fun x8a x8l x8c =>
   l1  by_1 x8a x8l x8c ((x8l : Nat) : Int) 0 R m1) (panicR R))
noncomputable def e0A (R : Ending → Mem → Prop) : ACode := (.seq (.code (sL (body))) (.seq (.code (sL (sR (body)))) (.seq (.seq (.code (sL (sL (sR (sR (body)))))) (.block 0 (.cut (l1E fun by_1 out_5a out_5l out_5c x10 x11 m => l1  by_1 out_5a out_5l out_5c x10 x11 R m) (.loop (lP (bB (sR (sL (sR (sR (body))))))))))) (.code (sR (sR (sR (body))))))))
abbrev l1Q  (R : Ending → Mem → Prop) : Exit → Env → Mem → Prop := (blockQ 0 (thenQ (acpt P od (panicR R) (.code (sR (sR (sR (body))))) (bodyQ P fn R)) (bodyQ P fn R)))
theorem l1_eq  (K1 : Int → Option Addr → Nat → Nat → Int → Int → Mem → Prop) (R : Ending → Mem → Prop) (by_1 : Int) (out_5a : Option Addr) (out_5l : Nat) (out_5c : Nat) (x10 : Int) (x11 : Int) (ρ : Env) (m : Mem) : l1B  K1 by_1 out_5a out_5l out_5c x10 x11 R m = acpt P od (panicR R) (l1A  K1 R) (thenQ (l1E K1) (l1Q  R)) (upd (upd (upd (upd ρ 11 (.int .i64 x11)) 10 (.int .i64 x10)) 5 (.slice out_5a out_5l out_5c)) 1 (.int .i64 by_1)) m := by kernel_rfl
theorem l1_er  (K1 : Int → Option Addr → Nat → Nat → Int → Int → Mem → Prop) (R : Ending → Mem → Prop) : (l1A  K1 R).erase = lP (bB (sR (sL (sR (sR (body)))))) := by kernel_rfl
theorem l1_ok  (R : Ending → Mem → Prop) (ρ : Env) (m : Mem) (h : (l1E fun by_1 out_5a out_5l out_5c x10 x11 m => l1  by_1 out_5a out_5l out_5c x10 x11 R m) ρ m) : cpt P od (panicR R) (.loop (lP (bB (sR (sL (sR (sR (body)))))))) (l1Q  R) ρ m := by
  unfold l1E at h
  obtain ⟨by_1, e1, h⟩ := h.ex
  obtain ⟨out_5a, out_5l, out_5c, e5, h⟩ := h.ex
  obtain ⟨x10, e10, h⟩ := h.ex
  obtain ⟨x11, e11, h⟩ := h.ex
  obtain ⟨I, N, h0, hs⟩ := h
  refine ⟨fun N => l1E (I N), N, (by show l1E (I N) ρ m; unfold l1E; rw [e1, e5, e10, e11]; exact h0), ?_⟩
  clear h0 e1 e5 e10 e11
  intro N ρ m h
  unfold l1E at h
  obtain ⟨by_1, e1, h⟩ := h.ex
  obtain ⟨out_5a, out_5l, out_5c, e5, h⟩ := h.ex
  obtain ⟨x10, e10, h⟩ := h.ex
  obtain ⟨x11, e11, h⟩ := h.ex
  refine cpt_mono (P := P) (lP (bB (sR (sL (sR (sR (body))))))) (Q := thenQ (l1E fun by_1 out_5a out_5l out_5c x10 x11 m => ∃ N1, N1 < N ∧ I N1 by_1 out_5a out_5l out_5c x10 x11 m) (l1Q  R)) (fun e ρ m h => ?_) ρ m ?_
  · cases e with
    | normal =>
      have h : l1E (fun by_1 out_5a out_5l out_5c x10 x11 m => ∃ N1, N1 < N ∧ I N1 by_1 out_5a out_5l out_5c x10 x11 m) ρ m := h
      unfold l1E at h
      obtain ⟨by_1, e1, h⟩ := h.ex
      obtain ⟨out_5a, out_5l, out_5c, e5, h⟩ := h.ex
      obtain ⟨x10, e10, h⟩ := h.ex
      obtain ⟨x11, e11, h⟩ := h.ex
      obtain ⟨N1, hlt, h⟩ := h
      exact ⟨N1, hlt, (by show l1E (I N1) ρ m; unfold l1E; rw [e1, e5, e10, e11]; exact h)⟩
    | _ => exact h
  have hh := hs N by_1 out_5a out_5l out_5c x10 x11 m h
  generalize (fun by_1 out_5a out_5l out_5c x10 x11 m => ∃ N1, N1 < N ∧ I N1 by_1 out_5a out_5l out_5c x10 x11 m : Int → Option Addr → Nat → Nat → Int → Int → Mem → Prop) = K1 at hh ⊢
  rw [← upd_self e1, ← upd_self e5, ← upd_self e10, ← upd_self e11]
  rw [← l1_er  K1 R]
  refine acpt_sound (P := P) (l1A  K1 R) _ _ _ True.intro ?_
  exact Eq.mp (l1_eq  K1 R by_1 out_5a out_5l out_5c x10 x11 ρ m) hh
theorem e0_eq (l_0a : Option Addr) (l_0l : Nat) (l_0c : Nat) (by_1 : Int) (R : Ending → Mem → Prop) (m : Mem) : e0 l_0a l_0l l_0c by_1 R m = acpt P od (panicR R) (e0A R) (bodyQ P fn R) (argE (#[.slice l_0a l_0l l_0c, .int .i64 by_1] : Array Value).toList) m := by kernel_rfl
theorem ok (l_0a : Option Addr) (l_0l : Nat) (l_0c : Nat) (by_1 : Int) (R : Ending → Mem → Prop) (m : Mem) (h : e0 l_0a l_0l l_0c by_1 R m) : HC P id #[.slice l_0a l_0l l_0c, .int .i64 by_1] m R := by
  refine HC_of (fn := fn) (c := body) (od := od) (tb := tb) Go.Proofs.Try.func24 (by kernel_rfl) (by kernel_rfl) follows (by kernel_rfl) (of_decide_eq_true (by kernel_rfl)) ?_
  have he : (e0A R).erase = body := by kernel_rfl
  rw [← he]
  refine acpt_sound (P := P) (e0A R) _ _ _ ⟨⟨⟨True.intro, ⟨(fun ρ m h => l1_ok  R ρ m h), True.intro⟩⟩, True.intro⟩, True.intro⟩ ?_
  exact Eq.mp (e0_eq l_0a l_0l l_0c by_1 R m) h
end tree_Move
/-! ### (*eyot/lru.Cache[eyot/chunk.Chunk]).at -/
namespace lru_Cache_chunk_Chunk_at
noncomputable def fn : Func := Go.Proofs.Try.f25
noncomputable def body : Code := fn.body.getD .skip
def od : Nat → Ord := fun _ => .done
def tb : Nat → Tab := fun _ => (0, [], [])
def e0 (c_0 : Option Addr) (k_1 : Int) (R : Ending → Mem → Prop) (m : Mem) : Prop :=
 NewC m #[.int .i64 k_1] T_int fun b_k_3 m1 =>
 Br c_0.isNone (
  R (.returned (.int .i64 (-1))) m1) (
  NilC c_0 (fun x8b x8o =>
   LdV m1 x8b (x8o + 1) fun v =>
   UnS v fun x10a x10l x10c =>
   HC P slices_IndexFunc_s_lru_entry_chunk_Chunk_lru_entry_chunk_Chunk.id #[.slice x10a x10l x10c, .func (.func lru_Cache_chunk_Chunk_at_1.id) #[] #[.pointer (some ⟨b_k_3, 0, none⟩)]] m1 (Cont (fun v m2 =>
     UnI v .i64 fun x12 =>
     R (.returned (.int .i64 x12)) m2) (panicR R))) (R (.panicked (nilPanic P)) m1))
noncomputable def e0A (R : Ending → Mem → Prop) : ACode := (.code (body))
theorem e0_eq (c_0 : Option Addr) (k_1 : Int) (R : Ending → Mem → Prop) (m : Mem) : e0 c_0 k_1 R m = acpt P od (panicR R) (e0A R) (bodyQ P fn R) (argE (#[.pointer c_0, .int .i64 k_1] : Array Value).toList) m := by kernel_rfl
theorem ok (c_0 : Option Addr) (k_1 : Int) (R : Ending → Mem → Prop) (m : Mem) (h : e0 c_0 k_1 R m) : HC P id #[.pointer c_0, .int .i64 k_1] m R := by
  refine HC_of (fn := fn) (c := body) (od := od) (tb := tb) Go.Proofs.Try.func25 (by kernel_rfl) (by kernel_rfl) follows (by kernel_rfl) (of_decide_eq_true (by kernel_rfl)) ?_
  have he : (e0A R).erase = body := by kernel_rfl
  rw [← he]
  refine acpt_sound (P := P) (e0A R) _ _ _ True.intro ?_
  exact Eq.mp (e0_eq c_0 k_1 R m) h
end lru_Cache_chunk_Chunk_at
/-! ### slices.Delete[[]eyot/lru.entry[eyot/chunk.Chunk],eyot/lru.entry[eyot/chunk.Chunk]] -/
namespace slices_Delete_s_lru_entry_chunk_Chunk_lru_entry_chunk_Chunk
noncomputable def fn : Func := Go.Proofs.Try.f26
noncomputable def body : Code := fn.body.getD .skip
def od : Nat → Ord := fun | 5 => ordL [(0, 3), (1, 3), (2, 3), (3, 3), (4, 3), (5, 3), (6, 2), (7, 3)] .done | _ => .done
def tb : Nat → Tab := fun | 5 => (64, [0, 0, 3, 0, 0, 24, 63, 127], [(0, 1, 21), (0, 2, 22), (3, 3145728, 23), (0, 1, 24), (0, 4, 25), (24, 25165824, 26), (36, 37748736, 27), (127, 67108864, 1)]) | _ => (0, [], [])
def e0 (s_0a : Option Addr) (s_0l : Nat) (s_0c : Nat) (i_1 : Int) (j_2 : Int) (R : Ending → Mem → Prop) (m : Mem) : Prop :=
 Sl3N P m T_sl_lru_entry_chunk_Chunk (.slice s_0a s_0l s_0c) (.int .i64 i_1) (.int .i64 j_2) (.int .i64 ((s_0l : Nat) : Int)) fun v =>
 Br (i_1 == j_2) (
  R (.returned (.slice s_0a s_0l s_0c)) m) (
  Sub m fun r1 =>
  SlS s_0a s_0c 0 i_1 4 fun x22a x22l x22c =>
  SlS s_0a s_0c j_2 s_0l 4 fun x25a x25l x25c =>
  BiN P .append #[T_sl_lru_entry_chunk_Chunk, T_sl_lru_entry_chunk_Chunk] T_sl_lru_entry_chunk_Chunk #[false, false] #[.slice x22a x22l x22c, .slice x25a x25l x25c] m (fun w m2 =>
   UnS w fun x26a x26l x26c =>
   SlS x26a x26c ((x26l : Nat) : Int) ((s_0l : Nat) : Int) 4 fun x31a x31l x31c =>
   BiN P .clear #[T_sl_lru_entry_chunk_Chunk] T_ #[false] #[.slice x31a x31l x31c] m2 (fun w m3 =>
    UnTup w fun us0 =>
    UnNil us0 (
     R (.returned (.slice x26a x26l x26c)) m3)) (panicR R)) (panicR R))
noncomputable def e0A (R : Ending → Mem → Prop) : ACode := (.code (body))
theorem e0_eq (s_0a : Option Addr) (s_0l : Nat) (s_0c : Nat) (i_1 : Int) (j_2 : Int) (R : Ending → Mem → Prop) (m : Mem) : e0 s_0a s_0l s_0c i_1 j_2 R m = acpt P od (panicR R) (e0A R) (bodyQ P fn R) (argE (#[.slice s_0a s_0l s_0c, .int .i64 i_1, .int .i64 j_2] : Array Value).toList) m := by kernel_rfl
theorem ok (s_0a : Option Addr) (s_0l : Nat) (s_0c : Nat) (i_1 : Int) (j_2 : Int) (R : Ending → Mem → Prop) (m : Mem) (h : e0 s_0a s_0l s_0c i_1 j_2 R m) : HC P id #[.slice s_0a s_0l s_0c, .int .i64 i_1, .int .i64 j_2] m R := by
  refine HC_of (fn := fn) (c := body) (od := od) (tb := tb) Go.Proofs.Try.func26 (by kernel_rfl) (by kernel_rfl) follows (by kernel_rfl) (of_decide_eq_true (by kernel_rfl)) ?_
  have he : (e0A R).erase = body := by kernel_rfl
  rw [← he]
  refine acpt_sound (P := P) (e0A R) _ _ _ True.intro ?_
  exact Eq.mp (e0_eq s_0a s_0l s_0c i_1 j_2 R m) h
end slices_Delete_s_lru_entry_chunk_Chunk_lru_entry_chunk_Chunk
/-! ### slices.pdqsortCmpFunc[eyot/chunk.Chunk] -/
namespace slices_pdqsortCmpFunc_chunk_Chunk
noncomputable def fn : Func := Go.Proofs.Try.f27
noncomputable def body : Code := fn.body.getD .skip
def od : Nat → Ord := fun | 17 => ordL [(0, 3), (1, 3), (2, 3), (3, 3), (4, 3), (5, 3), (6, 3), (7, 3), (8, 1), (9, 3), (10, 3), (11, 3), (12, 0), (13, 2), (14, 3), (15, 3), (16, 3)] .done | _ => .done
def tb : Nat → Tab := fun | 17 => (8192, [0, 1, 3, 7, 7, 7, 39, 119, 247, 7, 7, 1543, 3591, 8191, 16383, 32767, 65535], [(0, 2, 82), (1, 2417851639229258349412352, 83), (2, 4835703278458516698824704, 84), (4, 9671406556917033397649424, 85), (4, 9671406556917033397649409, 86), (4, 9671406556917033397649410, 87), (36, 87042659012253300578844672, 88), (84, 203099537695257701350637568, 89), (132, 319156416378262102122430464, 90), (4, 9671406556917033397649409, 91), (4, 9671406556917033397657600, 92), (1540, 3723491524413057858095022080, 93), (2052, 4961431563698438132994146304, 94), (4364, 10551504553596483436835504128, 95), (8196, 19816712035123001431783636992, 96), (16388, 39623752663689085830169624576, 97), (32772, 79237833920821254626941599744, 98)]) | _ => (0, [], [])
def k7E (K : Option Addr → Nat → Nat → Int → Int → Int → Value → Int → Int → Mem → Prop) : Env → Mem → Prop := fun ρ m => UnS (ρ 0) fun data_0a data_0l data_0c => UnI (ρ 1) .i64 fun a_1 => UnI (ρ 2) .i64 fun b_2 => UnI (ρ 3) .i64 fun limit_3 => (fun cmp_4 => UnI (ρ 12) .i64 fun length_12 => UnI (ρ 13) .i64 fun pivot_13 => K data_0a data_0l data_0c a_1 b_2 limit_3 cmp_4 length_12 pivot_13 m) (ρ 4)
def k7 (K1 : Option Addr → Nat → Nat → Int → Int → Int → Value → Bool → Bool → Mem → Prop) (data_0a : Option Addr) (data_0l : Nat) (data_0c : Nat) (a_1 : Int) (b_2 : Int) (limit_3 : Int) (cmp_4 : Value) (length_12 : Int) (pivot_13 : Int) (R : Ending → Mem → Prop) (m : Mem) : Prop :=
 HC P slices_partitionCmpFunc_chunk_Chunk.id #[.slice data_0a data_0l data_0c, .int .i64 a_1, .int .i64 b_2, .int .i64 pivot_13, cmp_4] m (Cont (fun v m1 =>
   UnTup v fun us0 =>
   UnCons us0 fun w us1 =>
   UnI w .i64 fun x111_0 =>
   UnCons us1 fun w us2 =>
   UnB w fun x111_1 =>
   UnNil us2 (
    Br (decide ((IntKind.i64.wrap (x111_0 - a_1)) < (IntKind.i64.wrap (b_2 - x111_0)))) (
     HC P slices_pdqsortCmpFunc_chunk_Chunk.id #[.slice data_0a data_0l data_0c, .int .i64 a_1, .int .i64 x111_0, .int .i64 limit_3, cmp_4] m1 (Cont (fun v m2 =>
       UnTup v fun us0 =>
       UnNil us0 (
        K1 data_0a data_0l data_0c (IntKind.i64.wrap (x111_0 + 1)) b_2 limit_3 cmp_4 (decide ((IntKind.i64.wrap (x111_0 - a_1)) ≥ (IntKind.i64.wrap (Int.tdiv length_12 8)))) x111_1 m2)) (panicR R))) (
     HC P slices_pdqsortCmpFunc_chunk_Chunk.id #[.slice data_0a data_0l data_0c, .int .i64 (IntKind.i64.wrap (x111_0 + 1)), .int .i64 b_2, .int .i64 limit_3, cmp_4] m1 (Cont (fun v m2 =>
       UnTup v fun us0 =>
       UnNil us0 (
        K1 data_0a data_0l data_0c a_1 x111_0 limit_3 cmp_4 (decide ((IntKind.i64.wrap (b_2 - x111_0)) ≥ (IntKind.i64.wrap (Int.tdiv length_12 8)))) x111_1 m2)) (panicR R))))) (panicR R))
noncomputable def k7A (K1 : Option Addr → Nat → Nat → Int → Int → Int → Value → Bool → Bool → Mem → Prop) (R : Ending → Mem → Prop) : ACode := (.code (sR (sR (sR (sR (sR (sR (sR (sR (bB (lP (bB (sR (sR (body)))))))))))))))
def k6E (K : Option Addr → Nat → Nat → Int → Int → Int → Value → Bool → Bool → Int → Int → Bool → Mem → Prop) : Env → Mem → Prop := fun ρ m => UnS (ρ 0) fun data_0a data_0l data_0c => UnI (ρ 1) .i64 fun a_1 => UnI (ρ 2) .i64 fun b_2 => UnI (ρ 3) .i64 fun limit_3 => (fun cmp_4 => UnB (ρ 10) fun wasBalanced_10 => UnB (ρ 11) fun wasPartitioned_11 => UnI (ρ 12) .i64 fun length_12 => UnI (ρ 13) .i64 fun pivot_13 => UnB (ρ 97) fun x97 => K data_0a data_0l data_0c a_1 b_2 limit_3 cmp_4 wasBalanced_10 wasPartitioned_11 length_12 pivot_13 x97 m) (ρ 4)
def k6 (K1 : Option Addr → Nat → Nat → Int → Int → Int → Value → Bool → Bool → Mem → Prop) (data_0a : Option Addr) (data_0l : Nat) (data_0c : Nat) (a_1 : Int) (b_2 : Int) (limit_3 : Int) (cmp_4 : Value) (wasBalanced_10 : Bool) (wasPartitioned_11 : Bool) (length_12 : Int) (pivot_13 : Int) (x97 : Bool) (R : Ending → Mem → Prop) (m : Mem) : Prop :=
 Br x97 (
  HC P slices_partitionEqualCmpFunc_chunk_Chunk.id #[.slice data_0a data_0l data_0c, .int .i64 a_1, .int .i64 b_2, .int .i64 pivot_13, cmp_4] m (Cont (fun v m1 =>
    UnI v .i64 fun x103 =>
    K1 data_0a data_0l data_0c x103 b_2 limit_3 cmp_4 wasBalanced_10 wasPartitioned_11 m1) (panicR R))) (
  k7 K1 data_0a data_0l data_0c a_1 b_2 limit_3 cmp_4 length_12 pivot_13 R m)
noncomputable def k6A (K1 : Option Addr → Nat → Nat → Int → Int → Int → Value → Bool → Bool → Mem → Prop) (R : Ending → Mem → Prop) : ACode := (.code (sR (sL (sR (sR (sR (sR (sR (sR (sR (bB (lP (bB (sR (sR (body))))))))))))))))
def k5E (K : Option Addr → Nat → Nat → Int → Int → Int → Value → Bool → Bool → Int → Int → Mem → Prop) : Env → Mem → Prop := fun ρ m => UnS (ρ 0) fun data_0a data_0l data_0c => UnI (ρ 1) .i64 fun a_1 => UnI (ρ 2) .i64 fun b_2 => UnI (ρ 3) .i64 fun limit_3 => (fun cmp_4 => UnB (ρ 10) fun wasBalanced_10 => UnB (ρ 11) fun wasPartitioned_11 => UnI (ρ 12) .i64 fun length_12 => UnI (ρ 13) .i64 fun pivot_13 => K data_0a data_0l data_0c a_1 b_2 limit_3 cmp_4 wasBalanced_10 wasPartitioned_11 length_12 pivot_13 m) (ρ 4)
def k5 (K1 : Option Addr → Nat → Nat → Int → Int → Int → Value → Bool → Bool → Mem → Prop) (data_0a : Option Addr) (data_0l : Nat) (data_0c : Nat) (a_1 : Int) (b_2 : Int) (limit_3 : Int) (cmp_4 : Value) (wasBalanced_10 : Bool) (wasPartitioned_11 : Bool) (length_12 : Int) (pivot_13 : Int) (R : Ending → Mem → Prop) (m : Mem) : Prop :=
 Sub m fun r1 =>
 Br (decide (a_1 > 0)) (
  IxS data_0a data_0l (IntKind.i64.wrap (a_1 - 1)) 3 fun x88b x88o =>
  LdV r1 x88b x88o fun v =>
  UnI v .i64 fun x89_0 =>
  LdV r1 x88b (x88o + 1) fun v =>
  UnI v .i64 fun x89_1 =>
  LdV r1 x88b (x88o + 2) fun v =>
  UnS v fun x89_2a x89_2l x89_2c =>
  IxS data_0a data_0l pivot_13 3 fun x92b x92o =>
  LdV m x92b x92o fun v =>
  UnI v .i64 fun x93_0 =>
  LdV m x92b (x92o + 1) fun v =>
  UnI v .i64 fun x93_1 =>
  LdV m x92b (x92o + 2) fun v =>
  UnS v fun x93_2a x93_2l x93_2c =>
  CallV P cmp_4 #[.agg #[.int .i64 x89_0, .int .i64 x89_1, .slice x89_2a x89_2l x89_2c], .agg #[.int .i64 x93_0, .int .i64 x93_1, .slice x93_2a x93_2l x93_2c]] m (Cont (fun v m2 =>
    UnI v .i64 fun x94 =>
    k6 K1 data_0a data_0l data_0c a_1 b_2 limit_3 cmp_4 wasBalanced_10 wasPartitioned_11 length_12 pivot_13 (!(decide (x94 < 0))) R m2) (panicR R))) (
  k6 K1 data_0a data_0l data_0c a_1 b_2 limit_3 cmp_4 wasBalanced_10 wasPartitioned_11 length_12 pivot_13 false R m)
noncomputable def k5A (K1 : Option Addr → Nat → Nat → Int → Int → Int → Value → Bool → Bool → Mem → Prop) (R : Ending → Mem → Prop) : ACode := (.seq (.seq (.code (sL (sL (sR (sR (sR (sR (sR (sR (sR (bB (lP (bB (sR (sR (body)))))))))))))))) (.cut (k6E fun data_0a data_0l data_0c a_1 b_2 limit_3 cmp_4 wasBalanced_10 wasPartitioned_11 length_12 pivot_13 x97 m => k6 K1 data_0a data_0l data_0c a_1 b_2 limit_3 cmp_4 wasBalanced_10 wasPartitioned_11 length_12 pivot_13 x97 R m) (sR (sL (sR (sR (sR (sR (sR (sR (sR (bB (lP (bB (sR (sR (body))))))))))))))))) (.cut (k7E fun data_0a data_0l data_0c a_1 b_2 limit_3 cmp_4 length_12 pivot_13 m => k7 K1 data_0a data_0l data_0c a_1 b_2 limit_3 cmp_4 length_12 pivot_13 R m) (sR (sR (sR (sR (sR (sR (sR (sR (bB (lP (bB (sR (sR (body))))))))))))))))
def k4E (K : Option Addr → Nat → Nat → Int → Int → Int → Value → Bool → Bool → Int → Int → Bool → Mem → Prop) : Env → Mem → Prop := fun ρ m => UnS (ρ 0) fun data_0a data_0l data_0c => UnI (ρ 1) .i64 fun a_1 => UnI (ρ 2) .i64 fun b_2 => UnI (ρ 3) .i64 fun limit_3 => (fun cmp_4 => UnB (ρ 10) fun wasBalanced_10 => UnB (ρ 11) fun wasPartitioned_11 => UnI (ρ 12) .i64 fun length_12 => UnI (ρ 13) .i64 fun pivot_13 => UnB (ρ 75) fun x75 => K data_0a data_0l data_0c a_1 b_2 limit_3 cmp_4 wasBalanced_10 wasPartitioned_11 length_12 pivot_13 x75 m) (ρ 4)
def k4 (K1 : Option Addr → Nat → Nat → Int → Int → Int → Value → Bool → Bool → Mem → Prop) (data_0a : Option Addr) (data_0l : Nat) (data_0c : Nat) (a_1 : Int) (b_2 : Int) (limit_3 : Int) (cmp_4 : Value) (wasBalanced_10 : Bool) (wasPartitioned_11 : Bool) (length_12 : Int) (pivot_13 : Int) (x75 : Bool) (R : Ending → Mem → Prop) (m : Mem) : Prop :=
 Br x75 (
  HC P slices_partialInsertionSortCmpFunc_chunk_Chunk.id #[.slice data_0a data_0l data_0c, .int .i64 a_1, .int .i64 b_2, cmp_4] m (Cont (fun v m1 =>
    UnB v fun x80 =>
    Br x80 (
     R (.returned (.tuple #[])) m1) (
     k5 K1 data_0a data_0l data_0c a_1 b_2 limit_3 cmp_4 wasBalanced_10 wasPartitioned_11 length_12 pivot_13 R m1)) (panicR R))) (
  k5 K1 data_0a data_0l data_0c a_1 b_2 limit_3 cmp_4 wasBalanced_10 wasPartitioned_11 length_12 pivot_13 R m)
noncomputable def k4A (K1 : Option Addr → Nat → Nat → Int → Int → Int → Value → Bool → Bool → Mem → Prop) (R : Ending → Mem → Prop) : ACode := (.code (sR (sL (sR (sR (sR (sR (sR (sR (bB (lP (bB (sR (sR (body)))))))))))))))
def k3E (K : Option Addr → Nat → Nat → Int → Int → Int → Value → Bool → Bool → Int → Int → Int → Mem → Prop) : Env → Mem → Prop := fun ρ m => UnS (ρ 0) fun data_0a data_0l data_0c => UnI (ρ 1) .i64 fun a_1 => UnI (ρ 2) .i64 fun b_2 => UnI (ρ 3) .i64 fun limit_3 => (fun cmp_4 => UnB (ρ 10) fun wasBalanced_10 => UnB (ρ 11) fun wasPartitioned_11 => UnI (ρ 12) .i64 fun length_12 => UnI (ρ 13) .i64 fun pivot_13 => UnI (ρ 14) .i64 fun hint_14 => K data_0a data_0l data_0c a_1 b_2 limit_3 cmp_4 wasBalanced_10 wasPartitioned_11 length_12 pivot_13 hint_14 m) (ρ 4)
def k3 (K1 : Option Addr → Nat → Nat → Int → Int → Int → Value → Bool → Bool → Mem → Prop) (data_0a : Option Addr) (data_0l : Nat) (data_0c : Nat) (a_1 : Int) (b_2 : Int) (limit_3 : Int) (cmp_4 : Value) (wasBalanced_10 : Bool) (wasPartitioned_11 : Bool) (length_12 : Int) (pivot_13 : Int) (hint_14 : Int) (R : Ending → Mem → Prop) (m : Mem) : Prop :=
 Br wasBalanced_10 (
  Br wasPartitioned_11 (
   k4 K1 data_0a data_0l data_0c a_1 b_2 limit_3 cmp_4 wasBalanced_10 wasPartitioned_11 length_12 pivot_13 (hint_14 == 1) R m) (
   k4 K1 data_0a data_0l data_0c a_1 b_2 limit_3 cmp_4 wasBalanced_10 wasPartitioned_11 length_12 pivot_13 false R m)) (
  k4 K1 data_0a data_0l data_0c a_1 b_2 limit_3 cmp_4 wasBalanced_10 wasPartitioned_11 length_12 pivot_13 false R m)
noncomputable def k3A (K1 : Option Addr → Nat → Nat → Int → Int → Int → Value → Bool → Bool → Mem → Prop) (R : Ending → Mem → Prop) : ACode := (.seq (.seq (.code (sL (sL (sR (sR (sR (sR (sR (sR (bB (lP (bB (sR (sR (body))))))))))))))) (.cut (k4E fun data_0a data_0l data_0c a_1 b_2 limit_3 cmp_4 wasBalanced_10 wasPartitioned_11 length_12 pivot_13 x75 m => k4 K1 data_0a data_0l data_0c a_1 b_2 limit_3 cmp_4 wasBalanced_10 wasPartitioned_11 length_12 pivot_13 x75 R m) (sR (sL (sR (sR (sR (sR (sR (sR (bB (lP (bB (sR (sR (body)))))))))))))))) (.cut (k5E fun data_0a data_0l data_0c a_1 b_2 limit_3 cmp_4 wasBalanced_10 wasPartitioned_11 length_12 pivot_13 m => k5 K1 data_0a data_0l data_0c a_1 b_2 limit_3 cmp_4 wasBalanced_10 wasPartitioned_11 length_12 pivot_13 R m) (sR (sR (sR (sR (sR (sR (sR (bB (lP (bB (sR (sR (body)))))))))))))))
def k2E (K : Option Addr → Nat → Nat → Int → Int → Int → Value → Bool → Bool → Int → Mem → Prop) : Env → Mem → Prop := fun ρ m => UnS (ρ 0) fun data_0a data_0l data_0c => UnI (ρ 1) .i64 fun a_1 => UnI (ρ 2) .i64 fun b_2 => UnI (ρ 3) .i64 fun limit_3 => (fun cmp_4 => UnB (ρ 10) fun wasBalanced_10 => UnB (ρ 11) fun wasPartitioned_11 => UnI (ρ 12) .i64 fun length_12 => K data_0a data_0l data_0c a_1 b_2 limit_3 cmp_4 wasBalanced_10 wasPartitioned_11 length_12 m) (ρ 4)
def k2 (K1 : Option Addr → Nat → Nat → Int → Int → Int → Value → Bool → Bool → Mem → Prop) (data_0a : Option Addr) (data_0l : Nat) (data_0c : Nat) (a_1 : Int) (b_2 : Int) (limit_3 : Int) (cmp_4 : Value) (wasBalanced_10 : Bool) (wasPartitioned_11 : Bool) (length_12 : Int) (R : Ending → Mem → Prop) (m : Mem) : Prop :=
 HC P slices_choosePivotCmpFunc_chunk_Chunk.id #[.slice data_0a data_0l data_0c, .int .i64 a_1, .int .i64 b_2, cmp_4] m (Cont (fun v m1 =>
   UnTup v fun us0 =>
   UnCons us0 fun w us1 =>
   UnI w .i64 fun x52_0 =>
   UnCons us1 fun w us2 =>
   UnI w .i64 fun x52_1 =>
   UnNil us2 (
    Br (x52_1 == 2) (
     HC P slices_reverseRangeCmpFunc_chunk_Chunk.id #[.slice data_0a data_0l data_0c, .int .i64 a_1, .int .i64 b_2, cmp_4] m1 (Cont (fun v m2 =>
       UnTup v fun us0 =>
       UnNil us0 (
        k3 K1 data_0a data_0l data_0c a_1 b_2 limit_3 cmp_4 wasBalanced_10 wasPartitioned_11 length_12 (IntKind.i64.wrap ((IntKind.i64.wrap (b_2 - 1)) - (IntKind.i64.wrap (x52_0 - a_1)))) 1 R m2)) (panicR R))) (
     k3 K1 data_0a data_0l data_0c a_1 b_2 limit_3 cmp_4 wasBalanced_10 wasPartitioned_11 length_12 x52_0 x52_1 R m1))) (panicR R))
noncomputable def k2A (K1 : Option Addr → Nat → Nat → Int → Int → Int → Value → Bool → Bool → Mem → Prop) (R : Ending → Mem → Prop) : ACode := (.seq (.code (sL (sR (sR (sR (sR (bB (lP (bB (sR (sR (body)))))))))))) (.seq (.code (sL (sR (sR (sR (sR (sR (bB (lP (bB (sR (sR (body))))))))))))) (.cut (k3E fun data_0a data_0l data_0c a_1 b_2 limit_3 cmp_4 wasBalanced_10 wasPartitioned_11 length_12 pivot_13 hint_14 m => k3 K1 data_0a data_0l data_0c a_1 b_2 limit_3 cmp_4 wasBalanced_10 wasPartitioned_11 length_12 pivot_13 hint_14 R m) (sR (sR (sR (sR (sR (sR (bB (lP (bB (sR (sR (body)))))))))))))))
def l1E (K : Option Addr → Nat → Nat → Int → Int → Int → Value → Bool → Bool → Mem → Prop) : Env → Mem → Prop := fun ρ m => UnS (ρ 0) fun data_0a data_0l data_0c => UnI (ρ 1) .i64 fun a_1 => UnI (ρ 2) .i64 fun b_2 => UnI (ρ 3) .i64 fun limit_3 => (fun cmp_4 => UnB (ρ 10) fun wasBalanced_10 => UnB (ρ 11) fun wasPartitioned_11 => K data_0a data_0l data_0c a_1 b_2 limit_3 cmp_4 wasBalanced_10 wasPartitioned_11 m) (ρ 4)
def l1B  (K1 : Option Addr → Nat → Nat → Int → Int → Int → Value → Bool → Bool → Mem → Prop) (data_0a : Option Addr) (data_0l : Nat) (data_0c : Nat) (a_1 : Int) (b_2 : Int) (limit_3 : Int) (cmp_4 : Value) (wasBalanced_10 : Bool) (wasPartitioned_11 : Bool) (R : Ending → Mem → Prop) (m : Mem) : Prop :=
 Br (decide ((IntKind.i64.wrap (b_2 - a_1)) ≤ 12)) (
  HC P slices_insertionSortCmpFunc_chunk_Chunk.id #[.slice data_0a data_0l data_0c, .int .i64 a_1, .int .i64 b_2, cmp_4] m (Cont (fun v m1 =>
    UnTup v fun us0 =>
    UnNil us0 (
     R (.returned (.tuple #[])) m1)) (panicR R))) (
  Br (limit_3 == 0) (
   HC P slices_heapSortCmpFunc_chunk_Chunk.id #[.slice data_0a data_0l data_0c, .int .i64 a_1, .int .i64 b_2, cmp_4] m (Cont (fun v m1 =>
     UnTup v fun us0 =>
     UnNil us0 (
      R (.returned (.tuple #[])) m1)) (panicR R))) (
   Br (!wasBalanced_10) (
    HC P slices_breakPatternsCmpFunc_chunk_Chunk.id #[.slice data_0a data_0l data_0c, .int .i64 a_1, .int .i64 b_2, cmp_4] m (Cont (fun v m1 =>
      UnTup v fun us0 =>
      UnNil us0 (
       k2 K1 data_0a data_0l data_0c a_1 b_2 (IntKind.i64.wrap (limit_3 - 1)) cmp_4 wasBalanced_10 wasPartitioned_11 (IntKind.i64.wrap (b_2 - a_1)) R m1)) (panicR R))) (
    k2 K1 data_0a data_0l data_0c a_1 b_2 limit_3 cmp_4 wasBalanced_10 wasPartitioned_11 (IntKind.i64.wrap (b_2 - a_1)) R m)))
def l1  (data_0a : Option Addr) (data_0l : Nat) (data_0c : Nat) (a_1 : Int) (b_2 : Int) (limit_3 : Int) (cmp_4 : Value) (wasBalanced_10 : Bool) (wasPartitioned_11 : Bool) (R : Ending → Mem → Prop) (m : Mem) : Prop :=
  ∃ (I : Nat → Option Addr → Nat → Nat → Int → Int → Int → Value → Bool → Bool → Mem → Prop) (N : Nat), I N data_0a data_0l data_0c a_1 b_2 limit_3 cmp_4 wasBalanced_10 wasPartitioned_11 m ∧ ∀ N data_0a data_0l data_0c a_1 b_2 limit_3 cmp_4 wasBalanced_10 wasPartitioned_11 m, I N data_0a data_0l data_0c a_1 b_2 limit_3 cmp_4 wasBalanced_10 wasPartitioned_11 m → l1B  (fun data_0a data_0l data_0c a_1 b_2 limit_3 cmp_4 wasBalanced_10 wasPartitioned_11 m => ∃ N1, N1 < N ∧ I N1 data_0a data_0l data_0c a_1 b_2 limit_3 cmp_4 wasBalanced_10 wasPartitioned_11 m) data_0a data_0l data_0c a_1 b_2 limit_3 cmp_4 wasBalanced_10 wasPartitioned_11 R m
noncomputable def l1A  (K1 : Option Addr → Nat → Nat → Int → Int → Int → Value → Bool → Bool → Mem → Prop) (R : Ending → Mem → Prop) : ACode := (.block 1 (.seq (.code (sL (bB (lP (bB (sR (sR (body)))))))) (.seq (.code (sL (sR (bB (lP (bB (sR (sR (body))))))))) (.seq (.code (sL (sR (sR (bB (lP (bB (sR (sR (body)))))))))) (.seq (.code (sL (sR (sR (sR (bB (lP (bB (sR (sR (body))))))))))) (.cut (k2E fun data_0a data_0l data_0c a_1 b_2 limit_3 cmp_4 wasBalanced_10 wasPartitioned_11 length_12 m => k2 K1 data_0a data_0l data_0c a_1 b_2 limit_3 cmp_4 wasBalanced_10 wasPartitioned_11 length_12 R m) (sR (sR (sR (sR (bB (lP (bB (sR (sR (body))))))))))))))))
def e0 (data_0a : Option Addr) (data_0l : Nat) (data_0c : Nat) (a_1 : Int) (b_2 : Int) (limit_3 : Int) (cmp_4 : Value) (R : Ending → Mem → Prop) (m : Mem) : Prop :=
 l1  data_0a data_0l data_0c a_1 b_2 limit_3 cmp_4 true true R m
noncomputable def e0A (R : Ending → Mem → Prop) : ACode := (.seq (.code (sL (body))) (.seq (.code (sL (sR (body)))) (.block 0 (.cut (l1E fun data_0a data_0l data_0c a_1 b_2 limit_3 cmp_4 wasBalanced_10 wasPartitioned_11 m => l1  data_0a data_0l data_0c a_1 b_2 limit_3 cmp_4 wasBalanced_10 wasPartitioned_11 R m) (.loop (lP (bB (sR (sR (body))))))))))
abbrev l1Q  (R : Ending → Mem → Prop) : Exit → Env → Mem → Prop := (blockQ 0 (bodyQ P fn R))
abbrev k2Q (K1 : Option Addr → Nat → Nat → Int → Int → Int → Value → Bool → Bool → Mem → Prop) (R : Ending → Mem → Prop) : Exit → Env → Mem → Prop := (blockQ 1 (thenQ (l1E K1) (l1Q  R)))
abbrev k3Q (K1 : Option Addr → Nat → Nat → Int → Int → Int → Value → Bool → Bool → Mem → Prop) (R : Ending → Mem → Prop) : Exit → Env → Mem → Prop := (k2Q K1 R)
abbrev k5Q (K1 : Option Addr → Nat → Nat → Int → Int → Int → Value → Bool → Bool → Mem → Prop) (R : Ending → Mem → Prop) : Exit → Env → Mem → Prop := (k3Q K1 R)
abbrev k7Q (K1 : Option Addr → Nat → Nat → Int → Int → Int → Value → Bool → Bool → Mem → Prop) (R : Ending → Mem → Prop) : Exit → Env → Mem → Prop := (k5Q K1 R)
abbrev k4Q (K1 : Option Addr → Nat → Nat → Int → Int → Int → Value → Bool → Bool → Mem → Prop) (R : Ending → Mem → Prop) : Exit → Env → Mem → Prop := (thenQ (acpt P od (panicR R) (.cut (k5E fun data_0a data_0l data_0c a_1 b_2 limit_3 cmp_4 wasBalanced_10 wasPartitioned_11 length_12 pivot_13 m => k5 K1 data_0a data_0l data_0c a_1 b_2 limit_3 cmp_4 wasBalanced_10 wasPartitioned_11 length_12 pivot_13 R m) (sR (sR (sR (sR (sR (sR (sR (bB (lP (bB (sR (sR (body)))))))))))))) (k3Q K1 R)) (k3Q K1 R))
abbrev k6Q (K1 : Option Addr → Nat → Nat → Int → Int → Int → Value → Bool → Bool → Mem → Prop) (R : Ending → Mem → Prop) : Exit → Env → Mem → Prop := (thenQ (acpt P od (panicR R) (.cut (k7E fun data_0a data_0l data_0c a_1 b_2 limit_3 cmp_4 length_12 pivot_13 m => k7 K1 data_0a data_0l data_0c a_1 b_2 limit_3 cmp_4 length_12 pivot_13 R m) (sR (sR (sR (sR (sR (sR (sR (sR (bB (lP (bB (sR (sR (body))))))))))))))) (k5Q K1 R)) (k5Q K1 R))
theorem k7_eq (K1 : Option Addr → Nat → Nat → Int → Int → Int → Value → Bool → Bool → Mem → Prop) (R : Ending → Mem → Prop) (data_0a : Option Addr) (data_0l : Nat) (data_0c : Nat) (a_1 : Int) (b_2 : Int) (limit_3 : Int) (cmp_4 : Value) (length_12 : Int) (pivot_13 : Int) (ρ : Env) (m : Mem) : k7 K1 data_0a data_0l data_0c a_1 b_2 limit_3 cmp_4 length_12 pivot_13 R m = acpt P od (panicR R) (k7A K1 R) (k7Q K1 R) (upd (upd (upd (upd (upd (upd (upd ρ 13 (.int .i64 pivot_13)) 12 (.int .i64 length_12)) 4 (cmp_4)) 3 (.int .i64 limit_3)) 2 (.int .i64 b_2)) 1 (.int .i64 a_1)) 0 (.slice data_0a data_0l data_0c)) m := by kernel_rfl
theorem k7_er (K1 : Option Addr → Nat → Nat → Int → Int → Int → Value → Bool → Bool → Mem → Prop) (R : Ending → Mem → Prop) : (k7A K1 R).erase = sR (sR (sR (sR (sR (sR (sR (sR (bB (lP (bB (sR (sR (body))))))))))))) := by kernel_rfl
theorem k7_ok (K1 : Option Addr → Nat → Nat → Int → Int → Int → Value → Bool → Bool → Mem → Prop) (R : Ending → Mem → Prop) (ρ : Env) (m : Mem) (h : (k7E fun data_0a data_0l data_0c a_1 b_2 limit_3 cmp_4 length_12 pivot_13 m => k7 K1 data_0a data_0l data_0c a_1 b_2 limit_3 cmp_4 length_12 pivot_13 R m) ρ m) : cpt P od (panicR R) (sR (sR (sR (sR (sR (sR (sR (sR (bB (lP (bB (sR (sR (body)))))))))))))) (k7Q K1 R) ρ m := by
  unfold k7E at h
  obtain ⟨data_0a, data_0l, data_0c, e0, h⟩ := h.ex
  obtain ⟨a_1, e1, h⟩ := h.ex
  obtain ⟨b_2, e2, h⟩ := h.ex
  obtain ⟨limit_3, e3, h⟩ := h.ex
  generalize e4 : ρ 4 = cmp_4 at h
  try dsimp only at h
  obtain ⟨length_12, e12, h⟩ := h.ex
  obtain ⟨pivot_13, e13, h⟩ := h.ex
  rw [← upd_self e0, ← upd_self e1, ← upd_self e2, ← upd_self e3, ← upd_self e4, ← upd_self e12, ← upd_self e13]
  rw [← k7_er K1 R]
  refine acpt_sound (P := P) (k7A K1 R) _ _ _ True.intro ?_
  exact Eq.mp (k7_eq K1 R data_0a data_0l data_0c a_1 b_2 limit_3 cmp_4 length_12 pivot_13 ρ m) h
theorem k6_eq (K1 : Option Addr → Nat → Nat → Int → Int → Int → Value → Bool → Bool → Mem → Prop) (R : Ending → Mem → Prop) (data_0a : Option Addr) (data_0l : Nat) (data_0c : Nat) (a_1 : Int) (b_2 : Int) (limit_3 : Int) (cmp_4 : Value) (wasBalanced_10 : Bool) (wasPartitioned_11 : Bool) (length_12 : Int) (pivot_13 : Int) (x97 : Bool) (ρ : Env) (m : Mem) : k6 K1 data_0a data_0l data_0c a_1 b_2 limit_3 cmp_4 wasBalanced_10 wasPartitioned_11 length_12 pivot_13 x97 R m = acpt P od (panicR R) (k6A K1 R) (k6Q K1 R) (upd (upd (upd (upd (upd (upd (upd (upd (upd (upd ρ 97 (.bool x97)) 13 (.int .i64 pivot_13)) 12 (.int .i64 length_12)) 11 (.bool wasPartitioned_11)) 10 (.bool wasBalanced_10)) 4 (cmp_4)) 3 (.int .i64 limit_3)) 2 (.int .i64 b_2)) 1 (.int .i64 a_1)) 0 (.slice data_0a data_0l data_0c)) m := by kernel_rfl
theorem k6_er (K1 : Option Addr → Nat → Nat → Int → Int → Int → Value → Bool → Bool → Mem → Prop) (R : Ending → Mem → Prop) : (k6A K1 R).erase = sR (sL (sR (sR (sR (sR (sR (sR (sR (bB (lP (bB (sR (sR (body)))))))))))))) := by kernel_rfl
theorem k6_ok (K1 : Option Addr → Nat → Nat → Int → Int → Int → Value → Bool → Bool → Mem → Prop) (R : Ending → Mem → Prop) (ρ : Env) (m : Mem) (h : (k6E fun data_0a data_0l data_0c a_1 b_2 limit_3 cmp_4 wasBalanced_10 wasPartitioned_11 length_12 pivot_13 x97 m => k6 K1 data_0a data_0l data_0c a_1 b_2 limit_3 cmp_4 wasBalanced_10 wasPartitioned_11 length_12 pivot_13 x97 R m) ρ m) : cpt P od (panicR R) (sR (sL (sR (sR (sR (sR (sR (sR (sR (bB (lP (bB (sR (sR (body))))))))))))))) (k6Q K1 R) ρ m := by
  unfold k6E at h
  obtain ⟨data_0a, data_0l, data_0c, e0, h⟩ := h.ex
  obtain ⟨a_1, e1, h⟩ := h.ex
  obtain ⟨b_2, e2, h⟩ := h.ex
  obtain ⟨limit_3, e3, h⟩ := h.ex
  generalize e4 : ρ 4 = cmp_4 at h
  try dsimp only at h
  obtain ⟨wasBalanced_10, e10, h⟩ := h.ex
  obtain ⟨wasPartitioned_11, e11, h⟩ := h.ex
  obtain ⟨length_12, e12, h⟩ := h.ex
  obtain ⟨pivot_13, e13, h⟩ := h.ex
  obtain ⟨x97, e97, h⟩ := h.ex
  rw [← upd_self e0, ← upd_self e1, ← upd_self e2, ← upd_self e3, ← upd_self e4, ← upd_self e10, ← upd_self e11, ← upd_self e12, ← upd_self e13, ← upd_self e97]
  rw [← k6_er K1 R]
  refine acpt_sound (P := P) (k6A K1 R) _ _ _ True.intro ?_
  exact Eq.mp (k6_eq K1 R data_0a data_0l data_0c a_1 b_2 limit_3 cmp_4 wasBalanced_10 wasPartitioned_11 length_12 pivot_13 x97 ρ m) h
theorem k5_eq (K1 : Option Addr → Nat → Nat → Int → Int → Int → Value → Bool → Bool → Mem → Prop) (R : Ending → Mem → Prop) (data_0a : Option Addr) (data_0l : Nat) (data_0c : Nat) (a_1 : Int) (b_2 : Int) (limit_3 : Int) (cmp_4 : Value) (wasBalanced_10 : Bool) (wasPartitioned_11 : Bool) (length_12 : Int) (pivot_13 : Int) (ρ : Env) (m : Mem) : k5 K1 data_0a data_0l data_0c a_1 b_2 limit_3 cmp_4 wasBalanced_10 wasPartitioned_11 length_12 pivot_13 R m = acpt P od (panicR R) (k5A K1 R) (k5Q K1 R) (upd (upd (upd (upd (upd (upd (upd (upd (upd ρ 13 (.int .i64 pivot_13)) 12 (.int .i64 length_12)) 11 (.bool wasPartitioned_11)) 10 (.bool wasBalanced_10)) 4 (cmp_4)) 3 (.int .i64 limit_3)) 2 (.int .i64 b_2)) 1 (.int .i64 a_1)) 0 (.slice data_0a data_0l data_0c)) m := by kernel_rfl
theorem k5_er (K1 : Option Addr → Nat → Nat → Int → Int → Int → Value → Bool → Bool → Mem → Prop) (R : Ending → Mem → Prop) : (k5A K1 R).erase = sR (sR (sR (sR (sR (sR (sR (bB (lP (bB (sR (sR (body)))))))))))) := by kernel_rfl
theorem k5_ok (K1 : Option Addr → Nat → Nat → Int → Int → Int → Value → Bool → Bool → Mem → Prop) (R : Ending → Mem → Prop) (ρ : Env) (m : Mem) (h : (k5E fun data_0a data_0l data_0c a_1 b_2 limit_3 cmp_4 wasBalanced_10 wasPartitioned_11 length_12 pivot_13 m => k5 K1 data_0a data_0l data_0c a_1 b_2 limit_3 cmp_4 wasBalanced_10 wasPartitioned_11 length_12 pivot_13 R m) ρ m) : cpt P od (panicR R) (sR (sR (sR (sR (sR (sR (sR (bB (lP (bB (sR (sR (body))))))))))))) (k5Q K1 R) ρ m := by
  unfold k5E at h
  obtain ⟨data_0a, data_0l, data_0c, e0, h⟩ := h.ex
  obtain ⟨a_1, e1, h⟩ := h.ex
  obtain ⟨b_2, e2, h⟩ := h.ex
  obtain ⟨limit_3, e3, h⟩ := h.ex
  generalize e4 : ρ 4 = cmp_4 at h
  try dsimp only at h
  obtain ⟨wasBalanced_10, e10, h⟩ := h.ex
  obtain ⟨wasPartitioned_11, e11, h⟩ := h.ex
  obtain ⟨length_12, e12, h⟩ := h.ex
  obtain ⟨pivot_13, e13, h⟩ := h.ex
  rw [← upd_self e0, ← upd_self e1, ← upd_self e2, ← upd_self e3, ← upd_self e4, ← upd_self e10, ← upd_self e11, ← upd_self e12, ← upd_self e13]
  rw [← k5_er K1 R]
  refine acpt_sound (P := P) (k5A K1 R) _ _ _ ⟨(fun ρ m h => k7_ok K1 R ρ m h), ⟨(fun ρ m h => k6_ok K1 R ρ m h), True.intro⟩⟩ ?_
  exact Eq.mp (k5_eq K1 R data_0a data_0l data_0c a_1 b_2 limit_3 cmp_4 wasBalanced_10 wasPartitioned_11 length_12 pivot_13 ρ m) h
theorem k4_eq (K1 : Option Addr → Nat → Nat → Int → Int → Int → Value → Bool → Bool → Mem → Prop) (R : Ending → Mem → Prop) (data_0a : Option Addr) (data_0l : Nat) (data_0c : Nat) (a_1 : Int) (b_2 : Int) (limit_3 : Int) (cmp_4 : Value) (wasBalanced_10 : Bool) (wasPartitioned_11 : Bool) (length_12 : Int) (pivot_13 : Int) (x75 : Bool) (ρ : Env) (m : Mem) : k4 K1 data_0a data_0l data_0c a_1 b_2 limit_3 cmp_4 wasBalanced_10 wasPartitioned_11 length_12 pivot_13 x75 R m = acpt P od (panicR R) (k4A K1 R) (k4Q K1 R) (upd (upd (upd (upd (upd (upd (upd (upd (upd (upd ρ 75 (.bool x75)) 13 (.int .i64 pivot_13)) 12 (.int .i64 length_12)) 11 (.bool wasPartitioned_11)) 10 (.bool wasBalanced_10)) 4 (cmp_4)) 3 (.int .i64 limit_3)) 2 (.int .i64 b_2)) 1 (.int .i64 a_1)) 0 (.slice data_0a data_0l data_0c)) m := by kernel_rfl
theorem k4_er (K1 : Option Addr → Nat → Nat → Int → Int → Int → Value → Bool → Bool → Mem → Prop) (R : Ending → Mem → Prop) : (k4A K1 R).erase = sR (sL (sR (sR (sR (sR (sR (sR (bB (lP (bB (sR (sR (body))))))))))))) := by kernel_rfl
theorem k4_ok (K1 : Option Addr → Nat → Nat → Int → Int → Int → Value → Bool → Bool → Mem → Prop) (R : Ending → Mem → Prop) (ρ : Env) (m : Mem) (h : (k4E fun data_0a data_0l data_0c a_1 b_2 limit_3 cmp_4 wasBalanced_10 wasPartitioned_11 length_12 pivot_13 x75 m => k4 K1 data_0a data_0l data_0c a_1 b_2 limit_3 cmp_4 wasBalanced_10 wasPartitioned_11 length_12 pivot_13 x75 R m) ρ m) : cpt P od (panicR R) (sR (sL (sR (sR (sR (sR (sR (sR (bB (lP (bB (sR (sR (body)))))))))))))) (k4Q K1 R) ρ m := by
  unfold k4E at h
  obtain ⟨data_0a, data_0l, data_0c, e0, h⟩ := h.ex
  obtain ⟨a_1, e1, h⟩ := h.ex
  obtain ⟨b_2, e2, h⟩ := h.ex
  obtain ⟨limit_3, e3, h⟩ := h.ex
  generalize e4 : ρ 4 = cmp_4 at h
  try dsimp only at h
  obtain ⟨wasBalanced_10, e10, h⟩ := h.ex
  obtain ⟨wasPartitioned_11, e11, h⟩ := h.ex
  obtain ⟨length_12, e12, h⟩ := h.ex
  obtain ⟨pivot_13, e13, h⟩ := h.ex
  obtain ⟨x75, e75, h⟩ := h.ex
  rw [← upd_self e0, ← upd_self e1, ← upd_self e2, ← upd_self e3, ← upd_self e4, ← upd_self e10, ← upd_self e11, ← upd_self e12, ← upd_self e13, ← upd_self e75]
  rw [← k4_er K1 R]
  refine acpt_sound (P := P) (k4A K1 R) _ _ _ True.intro ?_
  exact Eq.mp (k4_eq K1 R data_0a data_0l data_0c a_1 b_2 limit_3 cmp_4 wasBalanced_10 wasPartitioned_11 length_12 pivot_13 x75 ρ m) h
theorem k3_eq (K1 : Option Addr → Nat → Nat → Int → Int → Int → Value → Bool → Bool → Mem → Prop) (R : Ending → Mem → Prop) (data_0a : Option Addr) (data_0l : Nat) (data_0c : Nat) (a_1 : Int) (b_2 : Int) (limit_3 : Int) (cmp_4 : Value) (wasBalanced_10 : Bool) (wasPartitioned_11 : Bool) (length_12 : Int) (pivot_13 : Int) (hint_14 : Int) (ρ : Env) (m : Mem) : k3 K1 data_0a data_0l data_0c a_1 b_2 limit_3 cmp_4 wasBalanced_10 wasPartitioned_11 length_12 pivot_13 hint_14 R m = acpt P od (panicR R) (k3A K1 R) (k3Q K1 R) (upd (upd (upd (upd (upd (upd (upd (upd (upd (upd ρ 14 (.int .i64 hint_14)) 13 (.int .i64 pivot_13)) 12 (.int .i64 length_12)) 11 (.bool wasPartitioned_11)) 10 (.bool wasBalanced_10)) 4 (cmp_4)) 3 (.int .i64 limit_3)) 2 (.int .i64 b_2)) 1 (.int .i64 a_1)) 0 (.slice data_0a data_0l data_0c)) m := by kernel_rfl
theorem k3_er (K1 : Option Addr → Nat → Nat → Int → Int → Int → Value → Bool → Bool → Mem → Prop) (R : Ending → Mem → Prop) : (k3A K1 R).erase = sR (sR (sR (sR (sR (sR (bB (lP (bB (sR (sR (body))))))))))) := by kernel_rfl
theorem k3_ok (K1 : Option Addr → Nat → Nat → Int → Int → Int → Value → Bool → Bool → Mem → Prop) (R : Ending → Mem → Prop) (ρ : Env) (m : Mem) (h : (k3E fun data_0a data_0l data_0c a_1 b_2 limit_3 cmp_4 wasBalanced_10 wasPartitioned_11 length_12 pivot_13 hint_14 m => k3 K1 data_0a data_0l data_0c a_1 b_2 limit_3 cmp_4 wasBalanced_10 wasPartitioned_11 length_12 pivot_13 hint_14 R m) ρ m) : cpt P od (panicR R) (sR (sR (sR (sR (sR (sR (bB (lP (bB (sR (sR (body)))))))))))) (k3Q K1 R) ρ m := by
  unfold k3E at h
  obtain ⟨data_0a, data_0l, data_0c, e0, h⟩ := h.ex
  obtain ⟨a_1, e1, h⟩ := h.ex
  obtain ⟨b_2, e2, h⟩ := h.ex
  obtain ⟨limit_3, e3, h⟩ := h.ex
  generalize e4 : ρ 4 = cmp_4 at h
  try dsimp only at h
  obtain ⟨wasBalanced_10, e10, h⟩ := h.ex
  obtain ⟨wasPartitioned_11, e11, h⟩ := h.ex
  obtain ⟨length_12, e12, h⟩ := h.ex
  obtain ⟨pivot_13, e13, h⟩ := h.ex
  obtain ⟨hint_14, e14, h⟩ := h.ex
  rw [← upd_self e0, ← upd_self e1, ← upd_self e2, ← upd_self e3, ← upd_self e4, ← upd_self e10, ← upd_self e11, ← upd_self e12, ← upd_self e13, ← upd_self e14]
  rw [← k3_er K1 R]
  refine acpt_sound (P := P) (k3A K1 R) _ _ _ ⟨(fun ρ m h => k5_ok K1 R ρ m h), ⟨(fun ρ m h => k4_ok K1 R ρ m h), True.intro⟩⟩ ?_
  exact Eq.mp (k3_eq K1 R data_0a data_0l data_0c a_1 b_2 limit_3 cmp_4 wasBalanced_10 wasPartitioned_11 length_12 pivot_13 hint_14 ρ m) h
theorem k2_eq (K1 : Option Addr → Nat → Nat → Int → Int → Int → Value → Bool → Bool → Mem → Prop) (R : Ending → Mem → Prop) (data_0a : Option Addr) (data_0l : Nat) (data_0c : Nat) (a_1 : Int) (b_2 : Int) (limit_3 : Int) (cmp_4 : Value) (wasBalanced_10 : Bool) (wasPartitioned_11 : Bool) (length_12 : Int) (ρ : Env) (m : Mem) : k2 K1 data_0a data_0l data_0c a_1 b_2 limit_3 cmp_4 wasBalanced_10 wasPartitioned_11 length_12 R m = acpt P od (panicR R) (k2A K1 R) (k2Q K1 R) (upd (upd (upd (upd (upd (upd (upd (upd ρ 12 (.int .i64 length_12)) 11 (.bool wasPartitioned_11)) 10 (.bool wasBalanced_10)) 4 (cmp_4)) 3 (.int .i64 limit_3)) 2 (.int .i64 b_2)) 1 (.int .i64 a_1)) 0 (.slice data_0a data_0l data_0c)) m := by kernel_rfl
theorem k2_er (K1 : Option Addr → Nat → Nat → Int → Int → Int → Value → Bool → Bool → Mem → Prop) (R : Ending → Mem → Prop) : (k2A K1 R).erase = sR (sR (sR (sR (bB (lP (bB (sR (sR (body))))))))) := by kernel_rfl
theorem k2_ok (K1 : Option Addr → Nat → Nat → Int → Int → Int → Value → Bool → Bool → Mem → Prop) (R : Ending → Mem → Prop) (ρ : Env) (m : Mem) (h : (k2E fun data_0a data_0l data_0c a_1 b_2 limit_3 cmp_4 wasBalanced_10 wasPartitioned_11 length_12 m => k2 K1 data_0a data_0l data_0c a_1 b_2 limit_3 cmp_4 wasBalanced_10 wasPartitioned_11 length_12 R m) ρ m) : cpt P od (panicR R) (sR (sR (sR (sR (bB (lP (bB (sR (sR (body)))))))))) (k2Q K1 R) ρ m := by
  unfold k2E at h
  obtain ⟨data_0a, data_0l, data_0c, e0, h⟩ := h.ex
  obtain ⟨a_1, e1, h⟩ := h.ex
  obtain ⟨b_2, e2, h⟩ := h.ex
  obtain ⟨limit_3, e3, h⟩ := h.ex
  generalize e4 : ρ 4 = cmp_4 at h
  try dsimp only at h
  obtain ⟨wasBalanced_10, e10, h⟩ := h.ex
  obtain ⟨wasPartitioned_11, e11, h⟩ := h.ex
  obtain ⟨length_12, e12, h⟩ := h.ex
  rw [← upd_self e0, ← upd_self e1, ← upd_self e2, ← upd_self e3, ← upd_self e4, ← upd_self e10, ← upd_self e11, ← upd_self e12]
  rw [← k2_er K1 R]
  refine acpt_sound (P := P) (k2A K1 R) _ _ _ ⟨⟨(fun ρ m h => k3_ok K1 R ρ m h), True.intro⟩, True.intro⟩ ?_
  exact Eq.mp (k2_eq K1 R data_0a data_0l data_0c a_1 b_2 limit_3 cmp_4 wasBalanced_10 wasPartitioned_11 length_12 ρ m) h
theorem l1_eq  (K1 : Option Addr → Nat → Nat → Int → Int → Int → Value → Bool → Bool → Mem → Prop) (R : Ending → Mem → Prop) (data_0a : Option Addr) (data_0l : Nat) (data_0c : Nat) (a_1 : Int) (b_2 : Int) (limit_3 : Int) (cmp_4 : Value) (wasBalanced_10 : Bool) (wasPartitioned_11 : Bool) (ρ : Env) (m : Mem) : l1B  K1 data_0a data_0l data_0c a_1 b_2 limit_3 cmp_4 wasBalanced_10 wasPartitioned_11 R m = acpt P od (panicR R) (l1A  K1 R) (thenQ (l1E K1) (l1Q  R)) (upd (upd (upd (upd (upd (upd (upd ρ 11 (.bool wasPartitioned_11)) 10 (.bool wasBalanced_10)) 4 (cmp_4)) 3 (.int .i64 limit_3)) 2 (.int .i64 b_2)) 1 (.int .i64 a_1)) 0 (.slice data_0a data_0l data_0c)) m := by kernel_rfl
theorem l1_er  (K1 : Option Addr → Nat → Nat → Int → Int → Int → Value → Bool → Bool → Mem → Prop) (R : Ending → Mem → Prop) : (l1A  K1 R).erase = lP (bB (sR (sR (body)))) := by kernel_rfl
theorem l1_ok  (R : Ending → Mem → Prop) (ρ : Env) (m : Mem) (h : (l1E fun data_0a data_0l data_0c a_1 b_2 limit_3 cmp_4 wasBalanced_10 wasPartitioned_11 m => l1  data_0a data_0l data_0c a_1 b_2 limit_3 cmp_4 wasBalanced_10 wasPartitioned_11 R m) ρ m) : cpt P od (panicR R) (.loop (lP (bB (sR (sR (body)))))) (l1Q  R) ρ m := by
  unfold l1E at h
  obtain ⟨data_0a, data_0l, data_0c, e0, h⟩ := h.ex
  obtain ⟨a_1, e1, h⟩ := h.ex
  obtain ⟨b_2, e2, h⟩ := h.ex
  obtain ⟨limit_3, e3, h⟩ := h.ex
  generalize e4 : ρ 4 = cmp_4 at h
  try dsimp only at h
  obtain ⟨wasBalanced_10, e10, h⟩ := h.ex
  obtain ⟨wasPartitioned_11, e11, h⟩ := h.ex
  obtain ⟨I, N, h0, hs⟩ := h
  refine ⟨fun N => l1E (I N), N, (by show l1E (I N) ρ m; unfold l1E; rw [e0, e1, e2, e3, e4, e10, e11]; exact h0), ?_⟩
  clear h0 e0 e1 e2 e3 e4 e10 e11
  intro N ρ m h
  unfold l1E at h
  obtain ⟨data_0a, data_0l, data_0c, e0, h⟩ := h.ex
  obtain ⟨a_1, e1, h⟩ := h.ex
  obtain ⟨b_2, e2, h⟩ := h.ex
  obtain ⟨limit_3, e3, h⟩ := h.ex
  generalize e4 : ρ 4 = cmp_4 at h
  try dsimp only at h
  obtain ⟨wasBalanced_10, e10, h⟩ := h.ex
  obtain ⟨wasPartitioned_11, e11, h⟩ := h.ex
  refine cpt_mono (P := P) (lP (bB (sR (sR (body))))) (Q := thenQ (l1E fun data_0a data_0l data_0c a_1 b_2 limit_3 cmp_4 wasBalanced_10 wasPartitioned_11 m => ∃ N1, N1 < N ∧ I N1 data_0a data_0l data_0c a_1 b_2 limit_3 cmp_4 wasBalanced_10 wasPartitioned_11 m) (l1Q  R)) (fun e ρ m h => ?_) ρ m ?_
  · cases e with
    | normal =>
      have h : l1E (fun data_0a data_0l data_0c a_1 b_2 limit_3 cmp_4 wasBalanced_10 wasPartitioned_11 m => ∃ N1, N1 < N ∧ I N1 data_0a data_0l data_0c a_1 b_2 limit_3 cmp_4 wasBalanced_10 wasPartitioned_11 m) ρ m := h
      unfold l1E at h
      obtain ⟨data_0a, data_0l, data_0c, e0, h⟩ := h.ex
      obtain ⟨a_1, e1, h⟩ := h.ex
      obtain ⟨b_2, e2, h⟩ := h.ex
      obtain ⟨limit_3, e3, h⟩ := h.ex
      generalize e4 : ρ 4 = cmp_4 at h
      try dsimp only at h
      obtain ⟨wasBalanced_10, e10, h⟩ := h.ex
      obtain ⟨wasPartitioned_11, e11, h⟩ := h.ex
      obtain ⟨N1, hlt, h⟩ := h
      exact ⟨N1, hlt, (by show l1E (I N1) ρ m; unfold l1E; rw [e0, e1, e2, e3, e4, e10, e11]; exact h)⟩
    | _ => exact h
  have hh := hs N data_0a data_0l data_0c a_1 b_2 limit_3 cmp_4 wasBalanced_10 wasPartitioned_11 m h
  generalize (fun data_0a data_0l data_0c a_1 b_2 limit_3 cmp_4 wasBalanced_10 wasPartitioned_11 m => ∃ N1, N1 < N ∧ I N1 data_0a data_0l data_0c a_1 b_2 limit_3 cmp_4 wasBalanced_10 wasPartitioned_11 m : Option Addr → Nat → Nat → Int → Int → Int → Value → Bool → Bool → Mem → Prop) = K1 at hh ⊢
  rw [← upd_self e0, ← upd_self e1, ← upd_self e2, ← upd_self e3, ← upd_self e4, ← upd_self e10, ← upd_self e11]
  rw [← l1_er  K1 R]
  refine acpt_sound (P := P) (l1A  K1 R) _ _ _ ⟨⟨⟨⟨(fun ρ m h => k2_ok K1 R ρ m h), True.intro⟩, True.intro⟩, True.intro⟩, True.intro⟩ ?_
  exact Eq.mp (l1_eq  K1 R data_0a data_0l data_0c a_1 b_2 limit_3 cmp_4 wasBalanced_10 wasPartitioned_11 ρ m) hh
theorem e0_eq (data_0a : Option Addr) (data_0l : Nat) (data_0c : Nat) (a_1 : Int) (b_2 : Int) (limit_3 : Int) (cmp_4 : Value) (R : Ending → Mem → Prop) (m : Mem) : e0 data_0a data_0l data_0c a_1 b_2 limit_3 cmp_4 R m = acpt P od (panicR R) (e0A R) (bodyQ P fn R) (argE (#[.slice data_0a data_0l data_0c, .int .i64 a_1, .int .i64 b_2, .int .i64 limit_3, cmp_4] : Array Value).toList) m := by kernel_rfl
theorem ok (data_0a : Option Addr) (data_0l : Nat) (data_0c : Nat) (a_1 : Int) (b_2 : Int) (limit_3 : Int) (cmp_4 : Value) (R : Ending → Mem → Prop) (m : Mem) (h : e0 data_0a data_0l data_0c a_1 b_2 limit_3 cmp_4 R m) : HC P id #[.slice data_0a data_0l data_0c, .int .i64 a_1, .int .i64 b_2, .int .i64 limit_3, cmp_4] m R := by
  refine HC_of (fn := fn) (c := body) (od := od) (tb := tb) Go.Proofs.Try.func27 (by kernel_rfl) (by kernel_rfl) follows (by kernel_rfl) (of_decide_eq_true (by kernel_rfl)) ?_
  have he : (e0A R).erase = body := by kernel_rfl
  rw [← he]
  refine acpt_sound (P := P) (e0A R) _ _ _ ⟨⟨(fun ρ m h => l1_ok  R ρ m h), True.intro⟩, True.intro⟩ ?_
  exact Eq.mp (e0_eq data_0a data_0l data_0c a_1 b_2 limit_3 cmp_4 R m) h
end slices_pdqsortCmpFunc_chunk_Chunk
/-! ### math/bits.Len -/
namespace math_bits_Len
noncomputable def fn : Func := Go.Proofs.Try.f28
noncomputable def body : Code := fn.body.getD .skip
def od : Nat → Ord := fun _ => .done
def tb : Nat → Tab := fun _ => (0, [], [])
def e0 (x_0 : Int) (R : Ending → Mem → Prop) (m : Mem) : Prop :=
 HC P math_bits_Len64.id #[.int .u64 x_0] m (Cont (fun v m1 =>
   UnI v .i64 fun x7 =>
   R (.returned (.int .i64 x7)) m1) (panicR R))
noncomputable def e0A (R : Ending → Mem → Prop) : ACode := (.code (body))
theorem e0_eq (x_0 : Int) (R : Ending → Mem → Prop) (m : Mem) : e0 x_0 R m = acpt P od (panicR R) (e0A R) (bodyQ P fn R) (argE (#[.int .u64 x_0] : Array Value).toList) m := by kernel_rfl
theorem ok (x_0 : Int) (R : Ending → Mem → Prop) (m : Mem) (h : e0 x_0 R m) : HC P id #[.int .u64 x_0] m R := by
  refine HC_of (fn := fn) (c := body) (od := od) (tb := tb) Go.Proofs.Try.func28 (by kernel_rfl) (by kernel_rfl) follows (by kernel_rfl) (of_decide_eq_true (by kernel_rfl)) ?_
  have he : (e0A R).erase = body := by kernel_rfl
  rw [← he]
  refine acpt_sound (P := P) (e0A R) _ _ _ True.intro ?_
  exact Eq.mp (e0_eq x_0 R m) h
end math_bits_Len
/-! ### eyot/eyotref18.Same -/
namespace eyotref18_Same
noncomputable def fn : Func := Go.Proofs.Try.f29
noncomputable def body : Code := fn.body.getD .skip
def od : Nat → Ord := fun | 6 => ordL [(0, 3), (1, 3), (2, 3), (3, 1), (4, 3), (5, 3), (6, 3), (7, 0), (8, 3)] .done | _ => .done
def tb : Nat → Tab := fun | 6 => (0, [0, 0, 3, 7, 0, 0, 48, 112, 255], [(0, 1, 18), (0, 32, 19), (3, 393216, 20), (4, 524288, 21), (0, 2, 22), (0, 32, 23), (48, 6291456, 24), (64, 8388608, 25), (136, 17825792, 26)]) | _ => (0, [], [])
def l1E (K : Option Addr → Nat → Nat → Option Addr → Nat → Nat → Int → Mem → Prop) : Env → Mem → Prop := fun ρ m => UnS (ρ 0) fun a_0a a_0l a_0c => UnS (ρ 1) fun b_1a b_1l b_1c => UnI (ρ 5) .i64 fun i_5 => K a_0a a_0l a_0c b_1a b_1l b_1c i_5 m
def l1B  (K1 : Option Addr → Nat → Nat → Option Addr → Nat → Nat → Int → Mem → Prop) (a_0a : Option Addr) (a_0l : Nat) (a_0c : Nat) (b_1a : Option Addr) (b_1l : Nat) (b_1c : Nat) (i_5 : Int) (R : Ending → Mem → Prop) (m : Mem) : Prop :=
 Br (decide (i_5 < ((a_0l : Nat) : Int))) (
  Sub m fun r1 =>
  IxS a_0a a_0l i_5 5 fun x19b x19o =>
  LdV r1 x19b x19o fun v =>
  UnI v .i64 fun x20_0 =>
  LdV r1 x19b (x19o + 1) fun v =>
  UnI v .i64 fun x20_1 =>
  LdV r1 x19b (x19o + 2) fun v =>
  UnI v .i64 fun x20_2 =>
  LdV r1 x19b (x19o + 3) fun v =>
  UnI v .i64 fun x20_3 =>
  LdV r1 x19b (x19o + 4) fun v =>
  UnI v .i64 fun x20_4 =>
  IxS b_1a b_1l i_5 5 fun x23b x23o =>
  LdV m x23b x23o fun v =>
  UnI v .i64 fun x24_0 =>
  LdV m x23b (x23o + 1) fun v =>
  UnI v .i64 fun x24_1 =>
  LdV m x23b (x23o + 2) fun v =>
  UnI v .i64 fun x24_2 =>
  LdV m x23b (x23o + 3) fun v =>
  UnI v .i64 fun x24_3 =>
  LdV m x23b (x23o + 4) fun v =>
  UnI v .i64 fun x24_4 =>
  Br (!(eqL [.int .i64 x20_0, .int .i64 x20_1, .int .i64 x20_2, .int .i64 x20_3, .int .i64 x20_4] [.int .i64 x24_0, .int .i64 x24_1, .int .i64 x24_2, .int .i64 x24_3, .int .i64 x24_4])) (
   R (.returned (.bool false)) m) (
   K1 a_0a a_0l a_0c b_1a b_1l b_1c (IntKind.i64.wrap (i_5 + 1)) m)) (
  R (.returned (.bool true)) m)
def l1  (a_0a : Option Addr) (a_0l : Nat) (a_0c : Nat) (b_1a : Option Addr) (b_1l : Nat) (b_1c : Nat) (i_5 : Int) (R : Ending → Mem → Prop) (m : Mem) : Prop :=
  ∃ (I : Nat → Option Addr → Nat → Nat → Option Addr → Nat → Nat → Int → Mem → Prop) (N : Nat), I N a_0a a_0l a_0c b_1a b_1l b_1c i_5 m ∧ ∀ N a_0a a_0l a_0c b_1a b_1l b_1c i_5 m, I N a_0a a_0l a_0c b_1a b_1l b_1c i_5 m → l1B  (fun a_0a a_0l a_0c b_1a b_1l b_1c i_5 m => ∃ N1, N1 < N ∧ I N1 a_0a a_0l a_0c b_1a b_1l b_1c i_5 m) a_0a a_0l a_0c b_1a b_1l b_1c i_5 R m
noncomputable def l1A  (K1 : Option Addr → Nat → Nat → Option Addr → Nat → Nat → Int → Mem → Prop) (R : Ending → Mem → Prop) : ACode := (.code (lP (bB (sR (sL (sR (sR (body))))))))
def e0 (a_0a : Option Addr) (a_0l : Nat) (a_0c : Nat) (b_1a : Option Addr) (b_1l : Nat) (b_1c : Nat) (R : Ending → Mem → Prop) (m : Mem) : Prop :=
 Br (((a_0l : Nat) : Int) != ((b_1l : Nat) : Int)) (
  R (.returned (.bool false)) m) (
  l1  a_0a a_0l a_0c b_1a b_1l b_1c 0 R m)
noncomputable def e0A (R : Ending → Mem → Prop) : ACode := (.seq (.code (sL (body))) (.seq (.code (sL (sR (body)))) (.seq (.seq (.code (sL (sL (sR (sR (body)))))) (.block 0 (.cut (l1E fun a_0a a_0l a_0c b_1a b_1l b_1c i_5 m => l1  a_0a a_0l a_0c b_1a b_1l b_1c i_5 R m) (.loop (lP (bB (sR (sL (sR (sR (body))))))))))) (.code (sR (sR (sR (body))))))))
abbrev l1Q  (R : Ending → Mem → Prop) : Exit → Env → Mem → Prop := (blockQ 0 (thenQ (acpt P od (panicR R) (.code (sR (sR (sR (body))))) (bodyQ P fn R)) (bodyQ P fn R)))
theorem l1_eq  (K1 : Option Addr → Nat → Nat → Option Addr → Nat → Nat → Int → Mem → Prop) (R : Ending → Mem → Prop) (a_0a : Option Addr) (a_0l : Nat) (a_0c : Nat) (b_1a : Option Addr) (b_1l : Nat) (b_1c : Nat) (i_5 : Int) (ρ : Env) (m : Mem) : l1B  K1 a_0a a_0l a_0c b_1a b_1l b_1c i_5 R m = acpt P od (panicR R) (l1A  K1 R) (thenQ (l1E K1) (l1Q  R)) (upd (upd (upd ρ 5 (.int .i64 i_5)) 1 (.slice b_1a b_1l b_1c)) 0 (.slice a_0a a_0l a_0c)) m := by kernel_rfl
theorem l1_er  (K1 : Option Addr → Nat → Nat → Option Addr → Nat → Nat → Int → Mem → Prop) (R : Ending → Mem → Prop) : (l1A  K1 R).erase = lP (bB (sR (sL (sR (sR (body)))))) := by kernel_rfl
theorem l1_ok  (R : Ending → Mem → Prop) (ρ : Env) (m : Mem) (h : (l1E fun a_0a a_0l a_0c b_1a b_1l b_1c i_5 m => l1  a_0a a_0l a_0c b_1a b_1l b_1c i_5 R m) ρ m) : cpt P od (panicR R) (.loop (lP (bB (sR (sL (sR (sR (body)))))))) (l1Q  R) ρ m := by
  unfold l1E at h
  obtain ⟨a_0a, a_0l, a_0c, e0, h⟩ := h.ex
  obtain ⟨b_1a, b_1l, b_1c, e1, h⟩ := h.ex
  obtain ⟨i_5, e5, h⟩ := h.ex
  obtain ⟨I, N, h0, hs⟩ := h
  refine ⟨fun N => l1E (I N), N, (by show l1E (I N) ρ m; unfold l1E; rw [e0, e1, e5]; exact h0), ?_⟩
  clear h0 e0 e1 e5
  intro N ρ m h
  unfold l1E at h
  obtain ⟨a_0a, a_0l, a_0c, e0, h⟩ := h.ex
  obtain ⟨b_1a, b_1l, b_1c, e1, h⟩ := h.ex
  obtain ⟨i_5, e5, h⟩ := h.ex
  refine cpt_mono (P := P) (lP (bB (sR (sL (sR (sR (body))))))) (Q := thenQ (l1E fun a_0a a_0l a_0c b_1a b_1l b_1c i_5 m => ∃ N1, N1 < N ∧ I N1 a_0a a_0l a_0c b_1a b_1l b_1c i_5 m) (l1Q  R)) (fun e ρ m h => ?_) ρ m ?_
  · cases e with
    | normal =>
      have h : l1E (fun a_0a a_0l a_0c b_1a b_1l b_1c i_5 m => ∃ N1, N1 < N ∧ I N1 a_0a a_0l a_0c b_1a b_1l b_1c i_5 m) ρ m := h
      unfold l1E at h
      obtain ⟨a_0a, a_0l, a_0c, e0, h⟩ := h.ex
      obtain ⟨b_1a, b_1l, b_1c, e1, h⟩ := h.ex
      obtain ⟨i_5, e5, h⟩ := h.ex
      obtain ⟨N1, hlt, h⟩ := h
      exact ⟨N1, hlt, (by show l1E (I N1) ρ m; unfold l1E; rw [e0, e1, e5]; exact h)⟩
    | _ => exact h
  have hh := hs N a_0a a_0l a_0c b_1a b_1l b_1c i_5 m h
  generalize (fun a_0a a_0l a_0c b_1a b_1l b_1c i_5 m => ∃ N1, N1 < N ∧ I N1 a_0a a_0l a_0c b_1a b_1l b_1c i_5 m : Option Addr → Nat → Nat → Option Addr → Nat → Nat → Int → Mem → Prop) = K1 at hh ⊢
  rw [← upd_self e0, ← upd_self e1, ← upd_self e5]
  rw [← l1_er  K1 R]
  refine acpt_sound (P := P) (l1A  K1 R) _ _ _ True.intro ?_
  exact Eq.mp (l1_eq  K1 R a_0a a_0l a_0c b_1a b_1l b_1c i_5 ρ m) hh
theorem e0_eq (a_0a : Option Addr) (a_0l : Nat) (a_0c : Nat) (b_1a : Option Addr) (b_1l : Nat) (b_1c : Nat) (R : Ending → Mem → Prop) (m : Mem) : e0 a_0a a_0l a_0c b_1a b_1l b_1c R m = acpt P od (panicR R) (e0A R) (bodyQ P fn R) (argE (#[.slice a_0a a_0l a_0c, .slice b_1a b_1l b_1c] : Array Value).toList) m := by kernel_rfl
theorem ok (a_0a : Option Addr) (a_0l : Nat) (a_0c : Nat) (b_1a : Option Addr) (b_1l : Nat) (b_1c : Nat) (R : Ending → Mem → Prop) (m : Mem) (h : e0 a_0a a_0l a_0c b_1a b_1l b_1c R m) : HC P id #[.slice a_0a a_0l a_0c, .slice b_1a b_1l b_1c] m R := by
  refine HC_of (fn := fn) (c := body) (od := od) (tb := tb) Go.Proofs.Try.func29 (by kernel_rfl) (by kernel_rfl) follows (by kernel_rfl) (of_decide_eq_true (by kernel_rfl)) ?_
  have he : (e0A R).erase = body := by kernel_rfl
  rw [← he]
  refine acpt_sound (P := P) (e0A R) _ _ _ ⟨⟨⟨True.intro, ⟨(fun ρ m h => l1_ok  R ρ m h), True.intro⟩⟩, True.intro⟩, True.intro⟩ ?_
  exact Eq.mp (e0_eq a_0a a_0l a_0c b_1a b_1l b_1c R m) h
end eyotref18_Same
/-! ### slices.Insert[[]eyot/lru.entry[eyot/chunk.Chunk],eyot/lru.entry[eyot/chunk.Chunk]] -/
namespace slices_Insert_s_lru_entry_chunk_Chunk_lru_entry_chunk_Chunk
noncomputable def fn : Func := Go.Proofs.Try.f30
noncomputable def body : Code := fn.body.getD .skip
def od : Nat → Ord := fun | 11 => ordL [(0, 3), (1, 3), (2, 3), (3, 3), (4, 3), (5, 3), (6, 3), (7, 3), (8, 2)] .done | 15 => ordL [(0, 3), (1, 3), (2, 3), (3, 3), (4, 3), (5, 3), (6, 3), (7, 3), (8, 2)] .done | _ => .done
def tb : Nat → Tab := fun | 11 => (256, [0, 0, 0, 6, 15, 0, 0, 96, 255], [(0, 512, 47), (0, 2, 48), (0, 128, 49), (6, 422212465065984, 50), (9, 633318697598976, 51), (0, 1, 52), (0, 2, 53), (96, 6755399441055744, 54), (144, 10133099161583616, 55)]) | 15 => (256, [0, 0, 0, 6, 15, 0, 0, 96, 255], [(0, 1, 70), (0, 2, 71), (0, 128, 72), (6, 3541774862152233910272, 73), (9, 5312662293228350865408, 74), (0, 1, 75), (0, 2, 76), (96, 56668397794435742564352, 77), (144, 85002596691653613846528, 78)]) | _ => (0, [], [])
def e0 (s_0a : Option Addr) (s_0l : Nat) (s_0c : Nat) (i_1 : Int) (v_2a : Option Addr) (v_2l : Nat) (v_2c : Nat) (R : Ending → Mem → Prop) (m : Mem) : Prop :=
 SlS s_0a s_0c i_1 s_0l 4 fun x12a x12l x12c =>
 Br (((v_2l : Nat) : Int) == 0) (
  R (.returned (.slice s_0a s_0l s_0c)) m) (
  Br (i_1 == ((s_0l : Nat) : Int)) (
   BiN P .append #[T_sl_lru_entry_chunk_Chunk, T_sl_lru_entry_chunk_Chunk] T_sl_lru_entry_chunk_Chunk #[false, false] #[.slice s_0a s_0l s_0c, .slice v_2a v_2l v_2c] m (fun w m1 =>
    UnS w fun x25a x25l x25c =>
    R (.returned (.slice x25a x25l x25c)) m1) (panicR R)) (
   Br (decide ((IntKind.i64.wrap (((s_0l : Nat) : Int) + ((v_2l : Nat) : Int))) > ((s_0c : Nat) : Int))) (
    SlS s_0a s_0c 0 i_1 4 fun x34a x34l x34c =>
    BiN P .append #[T_sl_lru_entry_chunk_Chunk, T_int] T_sl_lru_entry_chunk_Chunk #[false, false] #[.slice x34a x34l x34c, .int .i64 (IntKind.i64.wrap ((IntKind.i64.wrap (((s_0l : Nat) : Int) + ((v_2l : Nat) : Int))) - i_1))] m (fun w m1 =>
     UnS w fun x40a x40l x40c =>
     SlS x40a x40c i_1 x40l 4 fun x43a x43l x43c =>
     BiN P .copy #[T_sl_lru_entry_chunk_Chunk, T_sl_lru_entry_chunk_Chunk] T_int #[false, false] #[.slice x43a x43l x43c, .slice v_2a v_2l v_2c] m1 (fun w m2 =>
      UnI w .i64 fun x45 =>
      Sub m2 fun r3 =>
      SlS x40a x40c (IntKind.i64.wrap (i_1 + ((v_2l : Nat) : Int))) x40l 4 fun x50a x50l x50c =>
      SlS s_0a s_0c i_1 s_0l 4 fun x53a x53l x53c =>
      BiN P .copy #[T_sl_lru_entry_chunk_Chunk, T_sl_lru_entry_chunk_Chunk] T_int #[false, false] #[.slice x50a x50l x50c, .slice x53a x53l x53c] m2 (fun w m4 =>
       UnI w .i64 fun x54 =>
       R (.returned (.slice x40a x40l x40c)) m4) (panicR R)) (panicR R)) (panicR R)) (
    SlS s_0a s_0c 0 (IntKind.i64.wrap (((s_0l : Nat) : Int) + ((v_2l : Nat) : Int))) 4 fun x60a x60l x60c =>
    SlS x60a x60c (IntKind.i64.wrap (i_1 + ((v_2l : Nat) : Int))) x60l 4 fun x66a x66l x66c =>
    HC P slices_overlaps_lru_entry_chunk_Chunk.id #[.slice v_2a v_2l v_2c, .slice x66a x66l x66c] m (Cont (fun v m1 =>
      UnB v fun x67 =>
      Br (!x67) (
       Sub m1 fun r2 =>
       SlS x60a x60c (IntKind.i64.wrap (i_1 + ((v_2l : Nat) : Int))) x60l 4 fun x73a x73l x73c =>
       SlS x60a x60c i_1 x60l 4 fun x76a x76l x76c =>
       BiN P .copy #[T_sl_lru_entry_chunk_Chunk, T_sl_lru_entry_chunk_Chunk] T_int #[false, false] #[.slice x73a x73l x73c, .slice x76a x76l x76c] m1 (fun w m3 =>
        UnI w .i64 fun x77 =>
        SlS x60a x60c i_1 x60l 4 fun x80a x80l x80c =>
        BiN P .copy #[T_sl_lru_entry_chunk_Chunk, T_sl_lru_entry_chunk_Chunk] T_int #[false, false] #[.slice x80a x80l x80c, .slice v_2a v_2l v_2c] m3 (fun w m4 =>
        UnI w .i64 fun x82 =>
        R (.returned (.slice x60a x60l x60c)) m4) (panicR R)) (panicR R)) (
       SlS x60a x60c ((s_0l : Nat) : Int) x60l 4 fun x86a x86l x86c =>
       BiN P .copy #[T_sl_lru_entry_chunk_Chunk, T_sl_lru_entry_chunk_Chunk] T_int #[false, false] #[.slice x86a x86l x86c, .slice v_2a v_2l v_2c] m1 (fun w m2 =>
        UnI w .i64 fun x88 =>
        SlS x60a x60c i_1 x60l 4 fun x91a x91l x91c =>
        HC P slices_rotateRight_lru_entry_chunk_Chunk.id #[.slice x91a x91l x91c, .int .i64 ((v_2l : Nat) : Int)] m2 (Cont (fun v m3 =>
        UnTup v fun us0 =>
        UnNil us0 (
        R (.returned (.slice x60a x60l x60c)) m3)) (panicR R))) (panicR R))) (panicR R)))))
noncomputable def e0A (R : Ending → Mem → Prop) : ACode := (.code (body))
theorem e0_eq (s_0a : Option Addr) (s_0l : Nat) (s_0c : Nat) (i_1 : Int) (v_2a : Option Addr) (v_2l : Nat) (v_2c : Nat) (R : Ending → Mem → Prop) (m : Mem) : e0 s_0a s_0l s_0c i_1 v_2a v_2l v_2c R m = acpt P od (panicR R) (e0A R) (bodyQ P fn R) (argE (#[.slice s_0a s_0l s_0c, .int .i64 i_1, .slice v_2a v_2l v_2c] : Array Value).toList) m := by kernel_rfl
theorem ok (s_0a : Option Addr) (s_0l : Nat) (s_0c : Nat) (i_1 : Int) (v_2a : Option Addr) (v_2l : Nat) (v_2c : Nat) (R : Ending → Mem → Prop) (m : Mem) (h : e0 s_0a s_0l s_0c i_1 v_2a v_2l v_2c R m) : HC P id #[.slice s_0a s_0l s_0c, .int .i64 i_1, .slice v_2a v_2l v_2c] m R := by
  refine HC_of (fn := fn) (c := body) (od := od) (tb := tb) Go.Proofs.Try.func30 (by kernel_rfl) (by kernel_rfl) follows (by kernel_rfl) (of_decide_eq_true (by kernel_rfl)) ?_
  have he : (e0A R).erase = body := by kernel_rfl
  rw [← he]
  refine acpt_sound (P := P) (e0A R) _ _ _ True.intro ?_
  exact Eq.mp (e0_eq s_0a s_0l s_0c i_1 v_2a v_2l v_2c R m) h
end slices_Insert_s_lru_entry_chunk_Chunk_lru_entry_chunk_Chunk
/-! ### slices.Clone[[]eyot/api.Node,eyot/api.Node] -/
namespace slices_Clone_s_api_Node_api_Node
noncomputable def fn : Func := Go.Proofs.Try.f31
noncomputable def body : Code := fn.body.getD .skip
def od : Nat → Ord := fun _ => .done
def tb : Nat → Tab := fun _ => (0, [], [])
def e0 (s_0a : Option Addr) (s_0l : Nat) (s_0c : Nat) (R : Ending → Mem → Prop) (m : Mem) : Prop :=
 Br s_0a.isNone (
  R (.returned (.slice none 0 0)) m) (
  NewC m #[] T_api_Node fun b5 m1 =>
  BiN P .append #[T_sl_api_Node, T_sl_api_Node] T_sl_api_Node #[false, false] #[.slice (some ⟨b5, 0, none⟩) 0 0, .slice s_0a s_0l s_0c] m1 (fun w m2 =>
   UnS w fun x7a x7l x7c =>
   R (.returned (.slice x7a x7l x7c)) m2) (panicR R))
noncomputable def e0A (R : Ending → Mem → Prop) : ACode := (.code (body))
theorem e0_eq (s_0a : Option Addr) (s_0l : Nat) (s_0c : Nat) (R : Ending → Mem → Prop) (m : Mem) : e0 s_0a s_0l s_0c R m = acpt P od (panicR R) (e0A R) (bodyQ P fn R) (argE (#[.slice s_0a s_0l s_0c] : Array Value).toList) m := by kernel_rfl
theorem ok (s_0a : Option Addr) (s_0l : Nat) (s_0c : Nat) (R : Ending → Mem → Prop) (m : Mem) (h : e0 s_0a s_0l s_0c R m) : HC P id #[.slice s_0a s_0l s_0c] m R := by
  refine HC_of (fn := fn) (c := body) (od := od) (tb := tb) Go.Proofs.Try.func31 (by kernel_rfl) (by kernel_rfl) follows (by kernel_rfl) (of_decide_eq_true (by kernel_rfl)) ?_
  have he : (e0A R).erase = body := by kernel_rfl
  rw [← he]
  refine acpt_sound (P := P) (e0A R) _ _ _ True.intro ?_
  exact Eq.mp (e0_eq s_0a s_0l s_0c R m) h
end slices_Clone_s_api_Node_api_Node
/-! ### slices.IndexFunc[[]eyot/lru.entry[eyot/chunk.Chunk],eyot/lru.entry[eyot/chunk.Chunk]] -/
namespace slices_IndexFunc_s_lru_entry_chunk_Chunk_lru_entry_chunk_Chunk
noncomputable def fn : Func := Go.Proofs.Try.f32
noncomputable def body : Code := fn.body.getD .skip
def od : Nat → Ord := fun _ => .done
def tb : Nat → Tab := fun _ => (0, [], [])
def l1E (K : Option Addr → Nat → Nat → Value → Int → Int → Mem → Prop) : Env → Mem → Prop := fun ρ m => UnS (ρ 0) fun s_0a s_0l s_0c => (fun f_1 => UnI (ρ 7) .i64 fun x7 => UnI (ρ 8) .i64 fun x8 => K s_0a s_0l s_0c f_1 x7 x8 m) (ρ 1)
def l1B  (K1 : Option Addr → Nat → Nat → Value → Int → Int → Mem → Prop) (s_0a : Option Addr) (s_0l : Nat) (s_0c : Nat) (f_1 : Value) (x7 : Int) (x8 : Int) (R : Ending → Mem → Prop) (m : Mem) : Prop :=
 Br (decide (x8 < x7)) (
  IxS s_0a s_0l x8 4 fun x14b x14o =>
  LdV m x14b x14o fun v =>
  UnI v .i64 fun x15_0 =>
  LdV m x14b (x14o + 1) fun v =>
  UnI v .i64 fun x15_1 =>
  LdV m x14b (x14o + 2) fun v =>
  UnI v .i64 fun x15_2 =>
  LdV m x14b (x14o + 3) fun v =>
  UnS v fun x15_3a x15_3l x15_3c =>
  CallV P f_1 #[.agg #[.int .i64 x15_0, .int .i64 x15_1, .int .i64 x15_2, .slice x15_3a x15_3l x15_3c]] m (Cont (fun v m1 =>
    UnB v fun x16 =>
    Br x16 (
     R (.returned (.int .i64 x8)) m1) (
     K1 s_0a s_0l s_0c f_1 x7 (IntKind.i64.wrap (x8 + 1)) m1)) (panicR R))) (
  R (.returned (.int .i64 (-1))) m)
def l1  (s_0a : Option Addr) (s_0l : Nat) (s_0c : Nat) (f_1 : Value) (x7 : Int) (x8 : Int) (R : Ending → Mem → Prop) (m : Mem) : Prop :=
  ∃ (I : Nat → Option Addr → Nat → Nat → Value → Int → Int → Mem → Prop) (N : Nat), I N s_0a s_0l s_0c f_1 x7 x8 m ∧ ∀ N s_0a s_0l s_0c f_1 x7 x8 m, I N s_0a s_0l s_0c f_1 x7 x8 m → l1B  (fun s_0a s_0l s_0c f_1 x7 x8 m => ∃ N1, N1 < N ∧ I N1 s_0a s_0l s_0c f_1 x7 x8 m) s_0a s_0l s_0c f_1 x7 x8 R m
noncomputable def l1A  (K1 : Option Addr → Nat → Nat → Value → Int → Int → Mem → Prop) (R : Ending → Mem → Prop) : ACode := (.code (lP (bB (sR (sL (sR (body)))))))
def e0 (s_0a : Option Addr) (s_0l : Nat) (s_0c : Nat) (f_1 : Value) (R : Ending → Mem → Prop) (m : Mem) : Prop :=
 l1  s_0a s_0l s_0c f_1 ((s_0l : Nat) : Int) 0 R m
noncomputable def e0A (R : Ending → Mem → Prop) : ACode := (.seq (.code (sL (body))) (.seq (.seq (.code (sL (sL (sR (body))))) (.block 0 (.cut (l1E fun s_0a s_0l s_0c f_1 x7 x8 m => l1  s_0a s_0l s_0c f_1 x7 x8 R m) (.loop (lP (bB (sR (sL (sR (body)))))))))) (.code (sR (sR (body))))))
abbrev l1Q  (R : Ending → Mem → Prop) : Exit → Env → Mem → Prop := (blockQ 0 (thenQ (acpt P od (panicR R) (.code (sR (sR (body)))) (bodyQ P fn R)) (bodyQ P fn R)))
theorem l1_eq  (K1 : Option Addr → Nat → Nat → Value → Int → Int → Mem → Prop) (R : Ending → Mem → Prop) (s_0a : Option Addr) (s_0l : Nat) (s_0c : Nat) (f_1 : Value) (x7 : Int) (x8 : Int) (ρ : Env) (m : Mem) : l1B  K1 s_0a s_0l s_0c f_1 x7 x8 R m = acpt P od (panicR R) (l1A  K1 R) (thenQ (l1E K1) (l1Q  R)) (upd (upd (upd (upd ρ 8 (.int .i64 x8)) 7 (.int .i64 x7)) 1 (f_1)) 0 (.slice s_0a s_0l s_0c)) m := by kernel_rfl
theorem l1_er  (K1 : Option Addr → Nat → Nat → Value → Int → Int → Mem → Prop) (R : Ending → Mem → Prop) : (l1A  K1 R).erase = lP (bB (sR (sL (sR (body))))) := by kernel_rfl
theorem l1_ok  (R : Ending → Mem → Prop) (ρ : Env) (m : Mem) (h : (l1E fun s_0a s_0l s_0c f_1 x7 x8 m => l1  s_0a s_0l s_0c f_1 x7 x8 R m) ρ m) : cpt P od (panicR R) (.loop (lP (bB (sR (sL (sR (body))))))) (l1Q  R) ρ m := by
  unfold l1E at h
  obtain ⟨s_0a, s_0l, s_0c, e0, h⟩ := h.ex
  generalize e1 : ρ 1 = f_1 at h
  try dsimp only at h
  obtain ⟨x7, e7, h⟩ := h.ex
  obtain ⟨x8, e8, h⟩ := h.ex
  obtain ⟨I, N, h0, hs⟩ := h
  refine ⟨fun N => l1E (I N), N, (by show l1E (I N) ρ m; unfold l1E; rw [e0, e1, e7, e8]; exact h0), ?_⟩
  clear h0 e0 e1 e7 e8
  intro N ρ m h
  unfold l1E at h
  obtain ⟨s_0a, s_0l, s_0c, e0, h⟩ := h.ex
  generalize e1 : ρ 1 = f_1 at h
  try dsimp only at h
  obtain ⟨x7, e7, h⟩ := h.ex
  obtain ⟨x8, e8, h⟩ := h.ex
  refine cpt_mono (P := P) (lP (bB (sR (sL (sR (body)))))) (Q := thenQ (l1E fun s_0a s_0l s_0c f_1 x7 x8 m => ∃ N1, N1 < N ∧ I N1 s_0a s_0l s_0c f_1 x7 x8 m) (l1Q  R)) (fun e ρ m h => ?_) ρ m ?_
  · cases e with
    | normal =>
      have h : l1E (fun s_0a s_0l s_0c f_1 x7 x8 m => ∃ N1, N1 < N ∧ I N1 s_0a s_0l s_0c f_1 x7 x8 m) ρ m := h
      unfold l1E at h
      obtain ⟨s_0a, s_0l, s_0c, e0, h⟩ := h.ex
      generalize e1 : ρ 1 = f_1 at h
      try dsimp only at h
      obtain ⟨x7, e7, h⟩ := h.ex
      obtain ⟨x8, e8, h⟩ := h.ex
      obtain ⟨N1, hlt, h⟩ := h
      exact ⟨N1, hlt, (by show l1E (I N1) ρ m; unfold l1E; rw [e0, e1, e7, e8]; exact h)⟩
    | _ => exact h
  have hh := hs N s_0a s_0l s_0c f_1 x7 x8 m h
  generalize (fun s_0a s_0l s_0c f_1 x7 x8 m => ∃ N1, N1 < N ∧ I N1 s_0a s_0l s_0c f_1 x7 x8 m : Option Addr → Nat → Nat → Value → Int → Int → Mem → Prop) = K1 at hh ⊢
  rw [← upd_self e0, ← upd_self e1, ← upd_self e7, ← upd_self e8]
  rw [← l1_er  K1 R]
  refine acpt_sound (P := P) (l1A  K1 R) _ _ _ True.intro ?_
  exact Eq.mp (l1_eq  K1 R s_0a s_0l s_0c f_1 x7 x8 ρ m) hh
theorem e0_eq (s_0a : Option Addr) (s_0l : Nat) (s_0c : Nat) (f_1 : Value) (R : Ending → Mem → Prop) (m : Mem) : e0 s_0a s_0l s_0c f_1 R m = acpt P od (panicR R) (e0A R) (bodyQ P fn R) (argE (#[.slice s_0a s_0l s_0c, f_1] : Array Value).toList) m := by kernel_rfl
theorem ok (s_0a : Option Addr) (s_0l : Nat) (s_0c : Nat) (f_1 : Value) (R : Ending → Mem → Prop) (m : Mem) (h : e0 s_0a s_0l s_0c f_1 R m) : HC P id #[.slice s_0a s_0l s_0c, f_1] m R := by
  refine HC_of (fn := fn) (c := body) (od := od) (tb := tb) Go.Proofs.Try.func32 (by kernel_rfl) (by kernel_rfl) follows (by kernel_rfl) (of_decide_eq_true (by kernel_rfl)) ?_
  have he : (e0A R).erase = body := by kernel_rfl
  rw [← he]
  refine acpt_sound (P := P) (e0A R) _ _ _ ⟨⟨True.intro, ⟨(fun ρ m h => l1_ok  R ρ m h), True.intro⟩⟩, True.intro⟩ ?_
  exact Eq.mp (e0_eq s_0a s_0l s_0c f_1 R m) h
end slices_IndexFunc_s_lru_entry_chunk_Chunk_lru_entry_chunk_Chunk
end
end Go.E
set_option linter.unusedVariables false
set_option maxRecDepth 100000
namespace Go.E
open Go.H
noncomputable section
/-! ### (*eyot/lru.Cache[eyot/chunk.Chunk]).at$1 -/
namespace lru_Cache_chunk_Chunk_at_1
noncomputable def fn : Func := Go.Proofs.Try.f33
noncomputable def body : Code := fn.body.getD .skip
def od : Nat → Ord := fun _ => .done
def tb : Nat → Tab := fun _ => (0, [], [])
def e0 (e_0_0 : Int) (e_0_1 : Int) (e_0_2 : Int) (e_0_3a : Option Addr) (e_0_3l : Nat) (e_0_3c : Nat) (c0b : Nat) (c0o : Nat) (R : Ending → Mem → Prop) (m : Mem) : Prop :=
 NewC m #[.int .i64 e_0_0, .int .i64 e_0_1, .int .i64 e_0_2, .slice e_0_3a e_0_3l e_0_3c] T_lru_entry_chunk_Chunk fun b_e_2 m1 =>
 LdV m1 b_e_2 0 fun v =>
 UnI v .i64 fun x5 =>
 LdV m1 c0b c0o fun v =>
 UnI v .i64 fun x6 =>
 R (.returned (.bool (x5 == x6))) m1
noncomputable def e0A (R : Ending → Mem → Prop) : ACode := (.code (body))
theorem e0_eq (e_0_0 : Int) (e_0_1 : Int) (e_0_2 : Int) (e_0_3a : Option Addr) (e_0_3l : Nat) (e_0_3c : Nat) (c0b : Nat) (c0o : Nat) (R : Ending → Mem → Prop) (m : Mem) : e0 e_0_0 e_0_1 e_0_2 e_0_3a e_0_3l e_0_3c c0b c0o R m = acpt P od (panicR R) (e0A R) (bodyQ P fn R) (argE (#[.agg #[.int .i64 e_0_0, .int .i64 e_0_1, .int .i64 e_0_2, .slice e_0_3a e_0_3l e_0_3c], .pointer (some ⟨c0b, c0o, none⟩)] : Array Value).toList) m := by kernel_rfl
theorem ok (e_0_0 : Int) (e_0_1 : Int) (e_0_2 : Int) (e_0_3a : Option Addr) (e_0_3l : Nat) (e_0_3c : Nat) (c0b : Nat) (c0o : Nat) (R : Ending → Mem → Prop) (m : Mem) (h : e0 e_0_0 e_0_1 e_0_2 e_0_3a e_0_3l e_0_3c c0b c0o R m) : HC P id #[.agg #[.int .i64 e_0_0, .int .i64 e_0_1, .int .i64 e_0_2, .slice e_0_3a e_0_3l e_0_3c], .pointer (some ⟨c0b, c0o, none⟩)] m R := by
  refine HC_of (fn := fn) (c := body) (od := od) (tb := tb) Go.Proofs.Try.func33 (by kernel_rfl) (by kernel_rfl) follows (by kernel_rfl) (of_decide_eq_true (by kernel_rfl)) ?_
  have he : (e0A R).erase = body := by kernel_rfl
  rw [← he]
  refine acpt_sound (P := P) (e0A R) _ _ _ True.intro ?_
  exact Eq.mp (e0_eq e_0_0 e_0_1 e_0_2 e_0_3a e_0_3l e_0_3c c0b c0o R m) h
end lru_Cache_chunk_Chunk_at_1
/-! ### slices.insertionSortCmpFunc[eyot/chunk.Chunk] -/
namespace slices_insertionSortCmpFunc_chunk_Chunk
noncomputable def fn : Func := Go.Proofs.Try.f34
noncomputable def body : Code := fn.body.getD .skip
def od : Nat → Ord := fun | 4 => ordL [(0, 3), (1, 3), (2, 3), (3, 3), (4, 3), (5, 3), (6, 3), (7, 3), (8, 1), (9, 3), (10, 3), (11, 3), (12, 3), (13, 0), (14, 2), (15, 3), (16, 3)] .done | 6 => ordL [(0, 3), (1, 3), (2, 3), (3, 3), (4, 3), (5, 3), (6, 3), (7, 3), (8, 3), (9, 1), (10, 3), (11, 3), (12, 3), (13, 0), (14, 3), (15, 2), (16, 3), (17, 2)] .done | _ => .done
def tb : Nat → Tab := fun | 4 => (16384, [0, 0, 3, 7, 15, 15, 15, 111, 239, 15, 15, 1039, 3599, 7695, 16383, 32767, 65535], [(0, 512, 19), (0, 2, 20), (3, 786432, 21), (4, 1048576, 22), (8, 2097160, 23), (8, 2097153, 24), (8, 2097664, 25), (104, 27262976, 26), (136, 35651584, 27), (8, 2097153, 28), (8, 2097664, 29), (1032, 270532608, 30), (2568, 673185792, 31), (4104, 1075838976, 32), (8472, 2220883968, 33), (16392, 4297064448, 34), (32776, 8592031744, 35)]) | 6 => (163840, [0, 0, 0, 0, 8, 0, 0, 64, 224, 480, 0, 0, 3072, 7168, 16355, 32739, 65535, 131071], [(0, 1, 38), (0, 512, 39), (0, 1, 40), (0, 512, 41), (8, 1099511627776, 42), (0, 1, 43), (0, 512, 44), (64, 8796093022208, 45), (160, 21990232555520, 46), (256, 35184372088832, 47), (0, 1, 48), (0, 512, 49), (3072, 422212465065984, 50), (4096, 562949953421312, 51), (9187, 412316860416, 52), (25571, 2322168557862912, 0), (65535, 2748779069440, 53), (131071, 5629499534213120, 0)]) | _ => (0, [], [])
def l2E (K : Option Addr → Nat → Nat → Int → Int → Value → Int → Int → Mem → Prop) : Env → Mem → Prop := fun ρ m => UnS (ρ 0) fun data_0a data_0l data_0c => UnI (ρ 1) .i64 fun a_1 => UnI (ρ 2) .i64 fun b_2 => (fun cmp_3 => UnI (ρ 8) .i64 fun i_8 => UnI (ρ 9) .i64 fun j_9 => K data_0a data_0l data_0c a_1 b_2 cmp_3 i_8 j_9 m) (ρ 3)
def l2B (K1 : Option Addr → Nat → Nat → Int → Int → Value → Int → Mem → Prop) (K2 : Option Addr → Nat → Nat → Int → Int → Value → Int → Int → Mem → Prop) (data_0a : Option Addr) (data_0l : Nat) (data_0c : Nat) (a_1 : Int) (b_2 : Int) (cmp_3 : Value) (i_8 : Int) (j_9 : Int) (R : Ending → Mem → Prop) (m : Mem) : Prop :=
 Sub m fun r1 =>
 Br (decide (j_9 > a_1)) (
  IxS data_0a data_0l j_9 3 fun x25b x25o =>
  LdV r1 x25b x25o fun v =>
  UnI v .i64 fun x26_0 =>
  LdV r1 x25b (x25o + 1) fun v =>
  UnI v .i64 fun x26_1 =>
  LdV r1 x25b (x25o + 2) fun v =>
  UnS v fun x26_2a x26_2l x26_2c =>
  IxS data_0a data_0l (IntKind.i64.wrap (j_9 - 1)) 3 fun x30b x30o =>
  LdV m x30b x30o fun v =>
  UnI v .i64 fun x31_0 =>
  LdV m x30b (x30o + 1) fun v =>
  UnI v .i64 fun x31_1 =>
  LdV m x30b (x30o + 2) fun v =>
  UnS v fun x31_2a x31_2l x31_2c =>
  CallV P cmp_3 #[.agg #[.int .i64 x26_0, .int .i64 x26_1, .slice x26_2a x26_2l x26_2c], .agg #[.int .i64 x31_0, .int .i64 x31_1, .slice x31_2a x31_2l x31_2c]] m (Cont (fun v m2 =>
    UnI v .i64 fun x32 =>
    Br (decide (x32 < 0)) (
     Sub m2 fun r3 =>
     IxS data_0a data_0l (IntKind.i64.wrap (j_9 - 1)) 3 fun x45b x45o =>
     LdV r3 x45b x45o fun v =>
     UnI v .i64 fun x46_0 =>
     LdV r3 x45b (x45o + 1) fun v =>
     UnI v .i64 fun x46_1 =>
     LdV r3 x45b (x45o + 2) fun v =>
     UnS v fun x46_2a x46_2l x46_2c =>
     IxS data_0a data_0l j_9 3 fun x49b x49o =>
     LdV m2 x49b x49o fun v =>
     UnI v .i64 fun x50_0 =>
     LdV m2 x49b (x49o + 1) fun v =>
     UnI v .i64 fun x50_1 =>
     LdV m2 x49b (x49o + 2) fun v =>
     UnS v fun x50_2a x50_2l x50_2c =>
     IxS data_0a data_0l j_9 3 fun x51b x51o =>
     St1 m2 x51b x51o (.int .i64 x46_0) fun m4 =>
     St1 m4 x51b (x51o + 1) (.int .i64 x46_1) fun m5 =>
     St1 m5 x51b (x51o + 2) (.slice x46_2a x46_2l x46_2c) fun m6 =>
     IxS data_0a data_0l (IntKind.i64.wrap (j_9 - 1)) 3 fun x52b x52o =>
     St1 m6 x52b x52o (.int .i64 x50_0) fun m7 =>
     St1 m7 x52b (x52o + 1) (.int .i64 x50_1) fun m8 =>
     St1 m8 x52b (x52o + 2) (.slice x50_2a x50_2l x50_2c) fun m9 =>
     K2 data_0a data_0l data_0c a_1 b_2 cmp_3 i_8 (IntKind.i64.wrap (j_9 - 1)) m9) (
     K1 data_0a data_0l data_0c a_1 b_2 cmp_3 (IntKind.i64.wrap (i_8 + 1)) m2)) (panicR R))) (
  K1 data_0a data_0l data_0c a_1 b_2 cmp_3 (IntKind.i64.wrap (i_8 + 1)) m)
def l2 (K1 : Option Addr → Nat → Nat → Int → Int → Value → Int → Mem → Prop) (data_0a : Option Addr) (data_0l : Nat) (data_0c : Nat) (a_1 : Int) (b_2 : Int) (cmp_3 : Value) (i_8 : Int) (j_9 : Int) (R : Ending → Mem → Prop) (m : Mem) : Prop :=
  ∃ (I : Nat → Option Addr → Nat → Nat → Int → Int → Value → Int → Int → Mem → Prop) (N : Nat), I N data_0a data_0l data_0c a_1 b_2 cmp_3 i_8 j_9 m ∧ ∀ N data_0a data_0l data_0c a_1 b_2 cmp_3 i_8 j_9 m, I N data_0a data_0l data_0c a_1 b_2 cmp_3 i_8 j_9 m → l2B K1 (fun data_0a data_0l data_0c a_1 b_2 cmp_3 i_8 j_9 m => ∃ N1, N1 < N ∧ I N1 data_0a data_0l data_0c a_1 b_2 cmp_3 i_8 j_9 m) data_0a data_0l data_0c a_1 b_2 cmp_3 i_8 j_9 R m
noncomputable def l2A (K1 : Option Addr → Nat → Nat → Int → Int → Value → Int → Mem → Prop) (K2 : Option Addr → Nat → Nat → Int → Int → Value → Int → Int → Mem → Prop) (R : Ending → Mem → Prop) : ACode := (.code (lP (bB (sR (bB (sL (sR (lP (bB (sR (body)))))))))))
def l1E (K : Option Addr → Nat → Nat → Int → Int → Value → Int → Mem → Prop) : Env → Mem → Prop := fun ρ m => UnS (ρ 0) fun data_0a data_0l data_0c => UnI (ρ 1) .i64 fun a_1 => UnI (ρ 2) .i64 fun b_2 => (fun cmp_3 => UnI (ρ 8) .i64 fun i_8 => K data_0a data_0l data_0c a_1 b_2 cmp_3 i_8 m) (ρ 3)
def l1B  (K1 : Option Addr → Nat → Nat → Int → Int → Value → Int → Mem → Prop) (data_0a : Option Addr) (data_0l : Nat) (data_0c : Nat) (a_1 : Int) (b_2 : Int) (cmp_3 : Value) (i_8 : Int) (R : Ending → Mem → Prop) (m : Mem) : Prop :=
 Br (decide (i_8 < b_2)) (
  l2 K1 data_0a data_0l data_0c a_1 b_2 cmp_3 i_8 i_8 R m) (
  R (.returned (.tuple #[])) m)
def l1  (data_0a : Option Addr) (data_0l : Nat) (data_0c : Nat) (a_1 : Int) (b_2 : Int) (cmp_3 : Value) (i_8 : Int) (R : Ending → Mem → Prop) (m : Mem) : Prop :=
  ∃ (I : Nat → Option Addr → Nat → Nat → Int → Int → Value → Int → Mem → Prop) (N : Nat), I N data_0a data_0l data_0c a_1 b_2 cmp_3 i_8 m ∧ ∀ N data_0a data_0l data_0c a_1 b_2 cmp_3 i_8 m, I N data_0a data_0l data_0c a_1 b_2 cmp_3 i_8 m → l1B  (fun data_0a data_0l data_0c a_1 b_2 cmp_3 i_8 m => ∃ N1, N1 < N ∧ I N1 data_0a data_0l data_0c a_1 b_2 cmp_3 i_8 m) data_0a data_0l data_0c a_1 b_2 cmp_3 i_8 R m
noncomputable def l1A  (K1 : Option Addr → Nat → Nat → Int → Int → Value → Int → Mem → Prop) (R : Ending → Mem → Prop) : ACode := (.seq (.code (sL (lP (bB (sR (body)))))) (.seq (.block 1 (.seq (.code (sL (bB (sL (sR (lP (bB (sR (body))))))))) (.block 2 (.cut (l2E fun data_0a data_0l data_0c a_1 b_2 cmp_3 i_8 j_9 m => l2 K1 data_0a data_0l data_0c a_1 b_2 cmp_3 i_8 j_9 R m) (.loop (lP (bB (sR (bB (sL (sR (lP (bB (sR (body))))))))))))))) (.code (sR (sR (lP (bB (sR (body)))))))))
def e0 (data_0a : Option Addr) (data_0l : Nat) (data_0c : Nat) (a_1 : Int) (b_2 : Int) (cmp_3 : Value) (R : Ending → Mem → Prop) (m : Mem) : Prop :=
 l1  data_0a data_0l data_0c a_1 b_2 cmp_3 (IntKind.i64.wrap (a_1 + 1)) R m
noncomputable def e0A (R : Ending → Mem → Prop) : ACode := (.seq (.code (sL (body))) (.block 0 (.cut (l1E fun data_0a data_0l data_0c a_1 b_2 cmp_3 i_8 m => l1  data_0a data_0l data_0c a_1 b_2 cmp_3 i_8 R m) (.loop (lP (bB (sR (body))))))))
abbrev l1Q  (R : Ending → Mem → Prop) : Exit → Env → Mem → Prop := (blockQ 0 (bodyQ P fn R))
abbrev l2Q (K1 : Option Addr → Nat → Nat → Int → Int → Value → Int → Mem → Prop) (R : Ending → Mem → Prop) : Exit → Env → Mem → Prop := (blockQ 2 (blockQ 1 (thenQ (acpt P od (panicR R) (.code (sR (sR (lP (bB (sR (body))))))) (thenQ (l1E K1) (l1Q  R))) (thenQ (l1E K1) (l1Q  R)))))
theorem l2_eq (K1 : Option Addr → Nat → Nat → Int → Int → Value → Int → Mem → Prop) (K2 : Option Addr → Nat → Nat → Int → Int → Value → Int → Int → Mem → Prop) (R : Ending → Mem → Prop) (data_0a : Option Addr) (data_0l : Nat) (data_0c : Nat) (a_1 : Int) (b_2 : Int) (cmp_3 : Value) (i_8 : Int) (j_9 : Int) (ρ : Env) (m : Mem) : l2B K1 K2 data_0a data_0l data_0c a_1 b_2 cmp_3 i_8 j_9 R m = acpt P od (panicR R) (l2A K1 K2 R) (thenQ (l2E K2) (l2Q K1 R)) (upd (upd (upd (upd (upd (upd ρ 9 (.int .i64 j_9)) 8 (.int .i64 i_8)) 3 (cmp_3)) 2 (.int .i64 b_2)) 1 (.int .i64 a_1)) 0 (.slice data_0a data_0l data_0c)) m := by kernel_rfl
theorem l2_er (K1 : Option Addr → Nat → Nat → Int → Int → Value → Int → Mem → Prop) (K2 : Option Addr → Nat → Nat → Int → Int → Value → Int → Int → Mem → Prop) (R : Ending → Mem → Prop) : (l2A K1 K2 R).erase = lP (bB (sR (bB (sL (sR (lP (bB (sR (body))))))))) := by kernel_rfl
theorem l2_ok (K1 : Option Addr → Nat → Nat → Int → Int → Value → Int → Mem → Prop) (R : Ending → Mem → Prop) (ρ : Env) (m : Mem) (h : (l2E fun data_0a data_0l data_0c a_1 b_2 cmp_3 i_8 j_9 m => l2 K1 data_0a data_0l data_0c a_1 b_2 cmp_3 i_8 j_9 R m) ρ m) : cpt P od (panicR R) (.loop (lP (bB (sR (bB (sL (sR (lP (bB (sR (body))))))))))) (l2Q K1 R) ρ m := by
  unfold l2E at h
  obtain ⟨data_0a, data_0l, data_0c, e0, h⟩ := h.ex
  obtain ⟨a_1, e1, h⟩ := h.ex
  obtain ⟨b_2, e2, h⟩ := h.ex
  generalize e3 : ρ 3 = cmp_3 at h
  try dsimp only at h
  obtain ⟨i_8, e8, h⟩ := h.ex
  obtain ⟨j_9, e9, h⟩ := h.ex
  obtain ⟨I, N, h0, hs⟩ := h
  refine ⟨fun N => l2E (I N), N, (by show l2E (I N) ρ m; unfold l2E; rw [e0, e1, e2, e3, e8, e9]; exact h0), ?_⟩
  clear h0 e0 e1 e2 e3 e8 e9
  intro N ρ m h
  unfold l2E at h
  obtain ⟨data_0a, data_0l, data_0c, e0, h⟩ := h.ex
  obtain ⟨a_1, e1, h⟩ := h.ex
  obtain ⟨b_2, e2, h⟩ := h.ex
  generalize e3 : ρ 3 = cmp_3 at h
  try dsimp only at h
  obtain ⟨i_8, e8, h⟩ := h.ex
  obtain ⟨j_9, e9, h⟩ := h.ex
  refine cpt_mono (P := P) (lP (bB (sR (bB (sL (sR (lP (bB (sR (body)))))))))) (Q := thenQ (l2E fun data_0a data_0l data_0c a_1 b_2 cmp_3 i_8 j_9 m => ∃ N1, N1 < N ∧ I N1 data_0a data_0l data_0c a_1 b_2 cmp_3 i_8 j_9 m) (l2Q K1 R)) (fun e ρ m h => ?_) ρ m ?_
  · cases e with
    | normal =>
      have h : l2E (fun data_0a data_0l data_0c a_1 b_2 cmp_3 i_8 j_9 m => ∃ N1, N1 < N ∧ I N1 data_0a data_0l data_0c a_1 b_2 cmp_3 i_8 j_9 m) ρ m := h
      unfold l2E at h
      obtain ⟨data_0a, data_0l, data_0c, e0, h⟩ := h.ex
      obtain ⟨a_1, e1, h⟩ := h.ex
      obtain ⟨b_2, e2, h⟩ := h.ex
      generalize e3 : ρ 3 = cmp_3 at h
      try dsimp only at h
      obtain ⟨i_8, e8, h⟩ := h.ex
      obtain ⟨j_9, e9, h⟩ := h.ex
      obtain ⟨N1, hlt, h⟩ := h
      exact ⟨N1, hlt, (by show l2E (I N1) ρ m; unfold l2E; rw [e0, e1, e2, e3, e8, e9]; exact h)⟩
    | _ => exact h
  have hh := hs N data_0a data_0l data_0c a_1 b_2 cmp_3 i_8 j_9 m h
  generalize (fun data_0a data_0l data_0c a_1 b_2 cmp_3 i_8 j_9 m => ∃ N1, N1 < N ∧ I N1 data_0a data_0l data_0c a_1 b_2 cmp_3 i_8 j_9 m : Option Addr → Nat → Nat → Int → Int → Value → Int → Int → Mem → Prop) = K2 at hh ⊢
  rw [← upd_self e0, ← upd_self e1, ← upd_self e2, ← upd_self e3, ← upd_self e8, ← upd_self e9]
  rw [← l2_er K1 K2 R]
  refine acpt_sound (P := P) (l2A K1 K2 R) _ _ _ True.intro ?_
  exact Eq.mp (l2_eq K1 K2 R data_0a data_0l data_0c a_1 b_2 cmp_3 i_8 j_9 ρ m) hh
theorem l1_eq  (K1 : Option Addr → Nat → Nat → Int → Int → Value → Int → Mem → Prop) (R : Ending → Mem → Prop) (data_0a : Option Addr) (data_0l : Nat) (data_0c : Nat) (a_1 : Int) (b_2 : Int) (cmp_3 : Value) (i_8 : Int) (ρ : Env) (m : Mem) : l1B  K1 data_0a data_0l data_0c a_1 b_2 cmp_3 i_8 R m = acpt P od (panicR R) (l1A  K1 R) (thenQ (l1E K1) (l1Q  R)) (upd (upd (upd (upd (upd ρ 8 (.int .i64 i_8)) 3 (cmp_3)) 2 (.int .i64 b_2)) 1 (.int .i64 a_1)) 0 (.slice data_0a data_0l data_0c)) m := by kernel_rfl
theorem l1_er  (K1 : Option Addr → Nat → Nat → Int → Int → Value → Int → Mem → Prop) (R : Ending → Mem → Prop) : (l1A  K1 R).erase = lP (bB (sR (body))) := by kernel_rfl
theorem l1_ok  (R : Ending → Mem → Prop) (ρ : Env) (m : Mem) (h : (l1E fun data_0a data_0l data_0c a_1 b_2 cmp_3 i_8 m => l1  data_0a data_0l data_0c a_1 b_2 cmp_3 i_8 R m) ρ m) : cpt P od (panicR R) (.loop (lP (bB (sR (body))))) (l1Q  R) ρ m := by
  unfold l1E at h
  obtain ⟨data_0a, data_0l, data_0c, e0, h⟩ := h.ex
  obtain ⟨a_1, e1, h⟩ := h.ex
  obtain ⟨b_2, e2, h⟩ := h.ex
  generalize e3 : ρ 3 = cmp_3 at h
  try dsimp only at h
  obtain ⟨i_8, e8, h⟩ := h.ex
  obtain ⟨I, N, h0, hs⟩ := h
  refine ⟨fun N => l1E (I N), N, (by show l1E (I N) ρ m; unfold l1E; rw [e0, e1, e2, e3, e8]; exact h0), ?_⟩
  clear h0 e0 e1 e2 e3 e8
  intro N ρ m h
  unfold l1E at h
  obtain ⟨data_0a, data_0l, data_0c, e0, h⟩ := h.ex
  obtain ⟨a_1, e1, h⟩ := h.ex
  obtain ⟨b_2, e2, h⟩ := h.ex
  generalize e3 : ρ 3 = cmp_3 at h
  try dsimp only at h
  obtain ⟨i_8, e8, h⟩ := h.ex
  refine cpt_mono (P := P) (lP (bB (sR (body)))) (Q := thenQ (l1E fun data_0a data_0l data_0c a_1 b_2 cmp_3 i_8 m => ∃ N1, N1 < N ∧ I N1 data_0a data_0l data_0c a_1 b_2 cmp_3 i_8 m) (l1Q  R)) (fun e ρ m h => ?_) ρ m ?_
  · cases e with
    | normal =>
      have h : l1E (fun data_0a data_0l data_0c a_1 b_2 cmp_3 i_8 m => ∃ N1, N1 < N ∧ I N1 data_0a data_0l data_0c a_1 b_2 cmp_3 i_8 m) ρ m := h
      unfold l1E at h
      obtain ⟨data_0a, data_0l, data_0c, e0, h⟩ := h.ex
      obtain ⟨a_1, e1, h⟩ := h.ex
      obtain ⟨b_2, e2, h⟩ := h.ex
      generalize e3 : ρ 3 = cmp_3 at h
      try dsimp only at h
      obtain ⟨i_8, e8, h⟩ := h.ex
      obtain ⟨N1, hlt, h⟩ := h
      exact ⟨N1, hlt, (by show l1E (I N1) ρ m; unfold l1E; rw [e0, e1, e2, e3, e8]; exact h)⟩
    | _ => exact h
  have hh := hs N data_0a data_0l data_0c a_1 b_2 cmp_3 i_8 m h
  generalize (fun data_0a data_0l data_0c a_1 b_2 cmp_3 i_8 m => ∃ N1, N1 < N ∧ I N1 data_0a data_0l data_0c a_1 b_2 cmp_3 i_8 m : Option Addr → Nat → Nat → Int → Int → Value → Int → Mem → Prop) = K1 at hh ⊢
  rw [← upd_self e0, ← upd_self e1, ← upd_self e2, ← upd_self e3, ← upd_self e8]
  rw [← l1_er  K1 R]
  refine acpt_sound (P := P) (l1A  K1 R) _ _ _ ⟨⟨True.intro, ⟨(fun ρ m h => l2_ok K1 R ρ m h), True.intro⟩⟩, True.intro⟩ ?_
  exact Eq.mp (l1_eq  K1 R data_0a data_0l data_0c a_1 b_2 cmp_3 i_8 ρ m) hh
theorem e0_eq (data_0a : Option Addr) (data_0l : Nat) (data_0c : Nat) (a_1 : Int) (b_2 : Int) (cmp_3 : Value) (R : Ending → Mem → Prop) (m : Mem) : e0 data_0a data_0l data_0c a_1 b_2 cmp_3 R m = acpt P od (panicR R) (e0A R) (bodyQ P fn R) (argE (#[.slice data_0a data_0l data_0c, .int .i64 a_1, .int .i64 b_2, cmp_3] : Array Value).toList) m := by kernel_rfl
theorem ok (data_0a : Option Addr) (data_0l : Nat) (data_0c : Nat) (a_1 : Int) (b_2 : Int) (cmp_3 : Value) (R : Ending → Mem → Prop) (m : Mem) (h : e0 data_0a data_0l data_0c a_1 b_2 cmp_3 R m) : HC P id #[.slice data_0a data_0l data_0c, .int .i64 a_1, .int .i64 b_2, cmp_3] m R := by
  refine HC_of (fn := fn) (c := body) (od := od) (tb := tb) Go.Proofs.Try.func34 (by kernel_rfl) (by kernel_rfl) follows (by kernel_rfl) (of_decide_eq_true (by kernel_rfl)) ?_
  have he : (e0A R).erase = body := by kernel_rfl
  rw [← he]
  refine acpt_sound (P := P) (e0A R) _ _ _ ⟨(fun ρ m h => l1_ok  R ρ m h), True.intro⟩ ?_
  exact Eq.mp (e0_eq data_0a data_0l data_0c a_1 b_2 cmp_3 R m) h
end slices_insertionSortCmpFunc_chunk_Chunk
/-! ### math/bits.Len64 -/
namespace math_bits_Len64
noncomputable def fn : Func := Go.Proofs.Try.f43
noncomputable def body : Code := fn.body.getD .skip
def od : Nat → Ord := fun _ => .done
def tb : Nat → Tab := fun _ => (0, [], [])
def k3E (K : Int → Int → Mem → Prop) : Env → Mem → Prop := fun ρ m => UnI (ρ 0) .u64 fun x_0 => UnI (ρ 2) .i64 fun n_2 => K x_0 n_2 m
def k3  (x_0 : Int) (n_2 : Int) (R : Ending → Mem → Prop) (m : Mem) : Prop :=
 IxB (ByteArray.mk #[0, 1, 2, 2, 3, 3, 3, 3, 4, 4, 4, 4, 4, 4, 4, 4, 5, 5, 5, 5, 5, 5, 5, 5, 5, 5, 5, 5, 5, 5, 5, 5, 6, 6, 6, 6, 6, 6, 6, 6, 6, 6, 6, 6, 6, 6, 6, 6, 6, 6, 6, 6, 6, 6, 6, 6, 6, 6, 6, 6, 6, 6, 6, 6, 7, 7, 7, 7, 7, 7, 7, 7, 7, 7, 7, 7, 7, 7, 7, 7, 7, 7, 7, 7, 7, 7, 7, 7, 7, 7, 7, 7, 7, 7, 7, 7, 7, 7, 7, 7, 7, 7, 7, 7, 7, 7, 7, 7, 7, 7, 7, 7, 7, 7, 7, 7, 7, 7, 7, 7, 7, 7, 7, 7, 7, 7, 7, 7, 8, 8, 8, 8, 8, 8, 8, 8, 8, 8, 8, 8, 8, 8, 8, 8, 8, 8, 8, 8, 8, 8, 8, 8, 8, 8, 8, 8, 8, 8, 8, 8, 8, 8, 8, 8, 8, 8, 8, 8, 8, 8, 8, 8, 8, 8, 8, 8, 8, 8, 8, 8, 8, 8, 8, 8, 8, 8, 8, 8, 8, 8, 8, 8, 8, 8, 8, 8, 8, 8, 8, 8, 8, 8, 8, 8, 8, 8, 8, 8, 8, 8, 8, 8, 8, 8, 8, 8, 8, 8, 8, 8, 8, 8, 8, 8, 8, 8, 8, 8, 8, 8, 8, 8, 8, 8, 8, 8, 8, 8, 8, 8, 8, 8, 8, 8, 8, 8, 8, 8, 8, 8, 8, 8, 8, 8, 8, 8]) (IntKind.u8.wrap x_0) fun x22 =>
 R (.returned (.int .i64 (IntKind.i64.wrap (n_2 + (IntKind.i64.wrap x22))))) m
noncomputable def k3A  (R : Ending → Mem → Prop) : ACode := (.code (sR (sR (sR (sR (body))))))
def k2E (K : Int → Int → Mem → Prop) : Env → Mem → Prop := fun ρ m => UnI (ρ 0) .u64 fun x_0 => UnI (ρ 2) .i64 fun n_2 => K x_0 n_2 m
def k2  (x_0 : Int) (n_2 : Int) (R : Ending → Mem → Prop) (m : Mem) : Prop :=
 Br (decide (x_0 ≥ 256)) (
  k3  (shrV .u64 x_0 8) (IntKind.i64.wrap (n_2 + 8)) R m) (
  k3  x_0 n_2 R m)
noncomputable def k2A  (R : Ending → Mem → Prop) : ACode := (.seq (.code (sL (sR (sR (sR (body)))))) (.cut (k3E fun x_0 n_2 m => k3  x_0 n_2 R m) (sR (sR (sR (sR (body)))))))
def k1E (K : Int → Int → Mem → Prop) : Env → Mem → Prop := fun ρ m => UnI (ρ 0) .u64 fun x_0 => UnI (ρ 2) .i64 fun n_2 => K x_0 n_2 m
def k1  (x_0 : Int) (n_2 : Int) (R : Ending → Mem → Prop) (m : Mem) : Prop :=
 Br (decide (x_0 ≥ 65536)) (
  k2  (shrV .u64 x_0 16) (IntKind.i64.wrap (n_2 + 16)) R m) (
  k2  x_0 n_2 R m)
noncomputable def k1A  (R : Ending → Mem → Prop) : ACode := (.seq (.code (sL (sR (sR (body))))) (.cut (k2E fun x_0 n_2 m => k2  x_0 n_2 R m) (sR (sR (sR (body))))))
def e0 (x_0 : Int) (R : Ending → Mem → Prop) (m : Mem) : Prop :=
 Br (decide (x_0 ≥ 4294967296)) (
  k1  (shrV .u64 x_0 32) 32 R m) (
  k1  x_0 0 R m)
noncomputable def e0A (R : Ending → Mem → Prop) : ACode := (.seq (.code (sL (body))) (.seq (.code (sL (sR (body)))) (.cut (k1E fun x_0 n_2 m => k1  x_0 n_2 R m) (sR (sR (body))))))
abbrev k1Q  (R : Ending → Mem → Prop) : Exit → Env → Mem → Prop := (bodyQ P fn R)
abbrev k2Q  (R : Ending → Mem → Prop) : Exit → Env → Mem → Prop := (k1Q  R)
abbrev k3Q  (R : Ending → Mem → Prop) : Exit → Env → Mem → Prop := (k2Q  R)
theorem k3_eq  (R : Ending → Mem → Prop) (x_0 : Int) (n_2 : Int) (ρ : Env) (m : Mem) : k3  x_0 n_2 R m = acpt P od (panicR R) (k3A  R) (k3Q  R) (upd (upd ρ 2 (.int .i64 n_2)) 0 (.int .u64 x_0)) m := by kernel_rfl
theorem k3_er  (R : Ending → Mem → Prop) : (k3A  R).erase = sR (sR (sR (sR (body)))) := by kernel_rfl
theorem k3_ok  (R : Ending → Mem → Prop) (ρ : Env) (m : Mem) (h : (k3E fun x_0 n_2 m => k3  x_0 n_2 R m) ρ m) : cpt P od (panicR R) (sR (sR (sR (sR (body))))) (k3Q  R) ρ m := by
  unfold k3E at h
  obtain ⟨x_0, e0, h⟩ := h.ex
  obtain ⟨n_2, e2, h⟩ := h.ex
  rw [← upd_self e0, ← upd_self e2]
  rw [← k3_er  R]
  refine acpt_sound (P := P) (k3A  R) _ _ _ True.intro ?_
  exact Eq.mp (k3_eq  R x_0 n_2 ρ m) h
theorem k2_eq  (R : Ending → Mem → Prop) (x_0 : Int) (n_2 : Int) (ρ : Env) (m : Mem) : k2  x_0 n_2 R m = acpt P od (panicR R) (k2A  R) (k2Q  R) (upd (upd ρ 2 (.int .i64 n_2)) 0 (.int .u64 x_0)) m := by kernel_rfl
theorem k2_er  (R : Ending → Mem → Prop) : (k2A  R).erase = sR (sR (sR (body))) := by kernel_rfl
theorem k2_ok  (R : Ending → Mem → Prop) (ρ : Env) (m : Mem) (h : (k2E fun x_0 n_2 m => k2  x_0 n_2 R m) ρ m) : cpt P od (panicR R) (sR (sR (sR (body)))) (k2Q  R) ρ m := by
  unfold k2E at h
  obtain ⟨x_0, e0, h⟩ := h.ex
  obtain ⟨n_2, e2, h⟩ := h.ex
  rw [← upd_self e0, ← upd_self e2]
  rw [← k2_er  R]
  refine acpt_sound (P := P) (k2A  R) _ _ _ ⟨(fun ρ m h => k3_ok  R ρ m h), True.intro⟩ ?_
  exact Eq.mp (k2_eq  R x_0 n_2 ρ m) h
theorem k1_eq  (R : Ending → Mem → Prop) (x_0 : Int) (n_2 : Int) (ρ : Env) (m : Mem) : k1  x_0 n_2 R m = acpt P od (panicR R) (k1A  R) (k1Q  R) (upd (upd ρ 2 (.int .i64 n_2)) 0 (.int .u64 x_0)) m := by kernel_rfl
theorem k1_er  (R : Ending → Mem → Prop) : (k1A  R).erase = sR (sR (body)) := by kernel_rfl
theorem k1_ok  (R : Ending → Mem → Prop) (ρ : Env) (m : Mem) (h : (k1E fun x_0 n_2 m => k1  x_0 n_2 R m) ρ m) : cpt P od (panicR R) (sR (sR (body))) (k1Q  R) ρ m := by
  unfold k1E at h
  obtain ⟨x_0, e0, h⟩ := h.ex
  obtain ⟨n_2, e2, h⟩ := h.ex
  rw [← upd_self e0, ← upd_self e2]
  rw [← k1_er  R]
  refine acpt_sound (P := P) (k1A  R) _ _ _ ⟨(fun ρ m h => k2_ok  R ρ m h), True.intro⟩ ?_
  exact Eq.mp (k1_eq  R x_0 n_2 ρ m) h
theorem e0_eq (x_0 : Int) (R : Ending → Mem → Prop) (m : Mem) : e0 x_0 R m = acpt P od (panicR R) (e0A R) (bodyQ P fn R) (argE (#[.int .u64 x_0] : Array Value).toList) m := by kernel_rfl
theorem ok (x_0 : Int) (R : Ending → Mem → Prop) (m : Mem) (h : e0 x_0 R m) : HC P id #[.int .u64 x_0] m R := by
  refine HC_of (fn := fn) (c := body) (od := od) (tb := tb) Go.Proofs.Try.func43 (by kernel_rfl) (by kernel_rfl) follows (by kernel_rfl) (of_decide_eq_true (by kernel_rfl)) ?_
  have he : (e0A R).erase = body := by kernel_rfl
  rw [← he]
  refine acpt_sound (P := P) (e0A R) _ _ _ ⟨⟨(fun ρ m h => k1_ok  R ρ m h), True.intro⟩, True.intro⟩ ?_
  exact Eq.mp (e0_eq x_0 R m) h
end math_bits_Len64
end
end Go.E
set_option linter.unusedVariables false
namespace Go.E
open Go.H
theorem eInt : ElemOK P T_sl_int T_int (.int .i64 0) 1 8 := .of (by kernel_rfl) (by kernel_rfl) rfl
end Go.E
set_option linter.unusedVariables false
set_option linter.unusedSimpArgs false
set_option maxRecDepth 20000
namespace Go.E.Ck
open Go.H Go.E
/-- A node: depth, rule, token, from, to. -/
abbrev Nd := Int × Int × Int × Int × Int
def ndv (n : Nd) : List Value := [.int .i64 n.1, .int .i64 n.2.1, .int .i64 n.2.2.1, .int .i64 n.2.2.2.1, .int .i64 n.2.2.2.2]
theorem ndlen (n : Nd) : (ndv n).length = 5 := rfl
theorem ndone (n : Nd) : ∀ v ∈ ndv n, notOne v = false := by
  intro v hv
  simp only [ndv, List.mem_cons, List.not_mem_nil, or_false] at hv
  rcases hv with rfl | rfl | rfl | rfl | rfl <;> rfl
theorem ndsone (t : List Nd) : ∀ v ∈ t.flatMap ndv, notOne v = false := by
  intro v hv
  simp only [List.mem_flatMap] at hv
  obtain ⟨e, _, hv⟩ := hv
  exact ndone e v hv
abbrev Sl := Option Addr × Nat × Nat
/-- A span: from, to, tree. -/
abbrev Sp := Int × Int × List Nd
/-- A chunk: from, to, spans. -/
abbrev Ck := Int × Int × List Sp
def spv (p : Sp × Sl) : List Value := [.int .i64 p.1.1, .int .i64 p.1.2.1, .slice p.2.1 p.2.2.1 p.2.2.2]
theorem splen (p : Sp × Sl) : (spv p).length = 3 := rfl
theorem spone (p : Sp × Sl) : ∀ v ∈ spv p, notOne v = false := by
  intro v hv
  simp only [spv, List.mem_cons, List.not_mem_nil, or_false] at hv
  rcases hv with rfl | rfl | rfl <;> rfl
/-- A tree in memory. -/
def TreeAt (m : Mem) (v : Sl) (t : List Nd) : Prop := v.2.1 = t.length ∧ CellsAt m v.1 (t.flatMap ndv)
/-- Spans in memory. -/
def SpsAt (m : Mem) (v : Sl) (ss : List Sp) : Prop := ∃ prs : List (Sp × Sl), prs.map (·.1) = ss ∧ v.2.1 = prs.length ∧ v.2.1 ≤ v.2.2 ∧ CellsAt m v.1 (prs.flatMap spv) ∧ ∀ p ∈ prs, TreeAt m p.2 p.1.2.2
theorem TreeAt.le {m m' : Mem} {v : Sl} {t : List Nd} (h : TreeAt m v t) (k : Le m m') : TreeAt m' v t := ⟨h.1, h.2.le k⟩
theorem SpsAt.le {m m' : Mem} {v : Sl} {t : List Sp} (h : SpsAt m v t) (k : Le m m') : SpsAt m' v t := by
  obtain ⟨prs, h1, h2, h3, h4, h5⟩ := h
  exact ⟨prs, h1, h2, h3, h4.le k, fun p hp => (h5 p hp).le k⟩
theorem SpsAt.nil (m : Mem) : SpsAt m (none, 0, 0) [] := ⟨[], rfl, rfl, Nat.le_refl _, CellsAt.empty _ _, fun p hp => by cases hp⟩
theorem SpsAt.len {m : Mem} {v : Sl} {t : List Sp} (h : SpsAt m v t) : v.2.1 = t.length := by
  obtain ⟨prs, h1, h2, _⟩ := h
  rw [h2, ← h1, List.length_map]
def mvn (d : Int) (n : Nd) : Nd := (n.1, n.2.1, n.2.2.1, n.2.2.2.1 + d, n.2.2.2.2 + d)
def mvt (d : Int) (t : List Nd) : List Nd := t.map (mvn d)
def mvs (d : Int) (s : Sp) : Sp := (s.1 + d, s.2.1 + d, mvt d s.2.2)
def mvc (d : Int) (c : Ck) : Ck := (c.1 + d, c.2.1 + d, c.2.2.map (mvs d))
theorem mvt_zero (t : List Nd) : mvt 0 t = t := by
  unfold mvt
  have : mvn 0 = id := by funext n; simp [mvn]
  rw [this, List.map_id]
theorem mvs_zero (s : Sp) : mvs 0 s = s := by
  unfold mvs; rw [mvt_zero]; simp
theorem mvc_zero (c : Ck) : mvc 0 c = c := by
  unfold mvc
  have : mvs 0 = id := by funext n; exact mvs_zero n
  rw [this, List.map_id]; simp
/-- Within a bound. -/
def Bd (B x : Int) : Prop := -B ≤ x ∧ x ≤ B
def Bt (B : Int) (t : List Nd) : Prop := ∀ n ∈ t, Bd B n.2.2.2.1 ∧ Bd B n.2.2.2.2
def Bss (B : Int) (ss : List Sp) : Prop := ss.length ≤ 1000000 ∧ ∀ s ∈ ss, Bd B s.1 ∧ Bd B s.2.1 ∧ Bt B s.2.2 ∧ s.2.2.length ≤ 1000000
def Bc (B : Int) (c : Ck) : Prop := Bd B c.1 ∧ Bd B c.2.1 ∧ Bss B c.2.2
theorem Bd.mono {B B' x : Int} (h : Bd B x) (k : B ≤ B') : Bd B' x := by unfold Bd at *; omega
theorem Bt.mono {B B' : Int} {t : List Nd} (h : Bt B t) (k : B ≤ B') : Bt B' t := fun n hn => ⟨(h n hn).1.mono k, (h n hn).2.mono k⟩
theorem Bss.mono {B B' : Int} {ss : List Sp} (h : Bss B ss) (k : B ≤ B') : Bss B' ss := ⟨h.1, fun s hs => ⟨(h.2 s hs).1.mono k, (h.2 s hs).2.1.mono k, (h.2 s hs).2.2.1.mono k, (h.2 s hs).2.2.2⟩⟩
theorem Bc.mono {B B' : Int} {c : Ck} (h : Bc B c) (k : B ≤ B') : Bc B' c := ⟨h.1.mono k, h.2.1.mono k, h.2.2.mono k⟩
/-- What is new. -/
noncomputable def nw (m m' : Mem) : Mem := m'.wo fun b => m b ≠ none
theorem nw_le (m m' : Mem) : Le (nw m m') m' := wo_le _ _
theorem nw_mono {m0 m1 m2 m3 : Mem} (h : Le m0 m1) (k : Le m2 m3) : Le (nw m1 m2) (nw m0 m3) := fun b o hb => by
  have h2 := nw_le _ _ _ _ hb
  have hn : m1 b = none := by
    cases hm : m1 b with
    | none => rfl
    | some x =>
      have : nw m1 m2 b = none := wo_out (by rw [hm]; simp)
      rw [this] at hb; cases hb
  unfold nw
  rw [wo_in (by rw [h.new hn]; simp)]
  exact k b o h2
theorem nw_fresh {m m' : Mem} {b : Nat} (h : nw m m' b ≠ none) : m b = none := by
  cases hm : m b with
  | none => rfl
  | some x => exact absurd (wo_out (by rw [hm]; simp)) h
/-- What is new, without some blocks. -/
noncomputable def nws (m m' : Mem) (S : Nat → Prop) : Mem := m'.wo fun b => m b ≠ none ∨ S b
theorem nws_in {m m' : Mem} {S : Nat → Prop} {b : Nat} {o : Obj} (h : nws m m' S b = some o) : m' b = some o ∧ m b = none ∧ ¬ S b := by
  have h2 := wo_le _ _ _ _ h
  have : ¬ (m b ≠ none ∨ S b) := fun e => by rw [show nws m m' S b = none from wo_out e] at h; cases h
  refine ⟨h2, ?_, fun e => this (.inr e)⟩
  cases hm : m b with
  | none => rfl
  | some x => exact absurd (.inl (by rw [hm]; simp)) this
theorem nws_of {m m' : Mem} {S : Nat → Prop} {b : Nat} {o : Obj} (h1 : m' b = some o) (h2 : m b = none) (h3 : ¬ S b) : nws m m' S b = some o := by
  unfold nws
  rw [wo_in (by rintro (e | e); exact e h2; exact h3 e)]; exact h1
theorem nws_le (m m' : Mem) (S : Nat → Prop) : Le (nws m m' S) (nw m m') := fun b o hb => by
  obtain ⟨h1, h2, h3⟩ := nws_in hb
  unfold nw
  rw [wo_in (fun e => e h2)]; exact h1
theorem nws_up {m m1 m2 : Mem} {S : Nat → Prop} (h : Le m1 m2) : Le (nws m m1 S) (nws m m2 S) := fun b o hb => by
  obtain ⟨h1, h2, h3⟩ := nws_in hb
  exact nws_of (h b o h1) h2 h3
theorem nws_new {m m1 m2 : Mem} {S : Nat → Prop} (h : Le m m1) (ha : ∀ b, S b → m1 b ≠ none) : Le (nw m1 m2) (nws m m2 S) := fun b o hb => by
  have h2 := nw_le _ _ _ _ hb
  have hn : m1 b = none := nw_fresh (by rw [hb]; simp)
  exact nws_of h2 (h.new hn) (fun e => ha b e hn)
theorem nws_chg {m m1 m2 : Mem} {S S' : Nat → Prop} (h : Chg S m1 m2) (hb : ∀ b, S' b → S b ∨ m1 b = none) : Le (nws m m1 S) (nws m m2 S') := fun b o hbo => by
  obtain ⟨h1, h2, h3⟩ := nws_in hbo
  refine nws_of (h.eq b o h1 h3) h2 (fun e => ?_)
  rcases hb b e with e | e
  · exact h3 e
  · rw [e] at h1; cases h1
theorem CellsAt.nw {m m' : Mem} {a : Option Addr} {vs : List Value} (h : CellsAt m' a vs) (hf : Fresh m a) : CellsAt (nw m m') a vs := CellsAt.wo h (fun b e x => x (hf b e))
theorem ElemOK_nd : ElemOK P T_sl_api_Node T_api_Node (.agg #[.int .i64 0, .int .i64 0, .int .i64 0, .int .i64 0, .int .i64 0]) 5 40 := .of (by kernel_rfl) (by kernel_rfl) rfl
theorem ElemOK_sp : ElemOK P T_sl_api_Span T_api_Span (.agg #[.int .i64 0, .int .i64 0, .slice none 0 0]) 3 40 := .of (by kernel_rfl) (by kernel_rfl) rfl
end Go.E.Ck
set_option linter.unusedVariables false
set_option linter.unusedSimpArgs false
set_option maxRecDepth 20000
namespace Go.E.Ck
open Go.H Go.E
attribute [local irreducible] BiN MkS ConvN LookN MapUpN CallV HC
theorem IxS.ldN {m : Mem} {a : Option Addr} {l sz : Nat} {vs : List Value} (hc : CellsAt m a vs) {i j : Nat} (hi : i < l) {v : Value} (hv : vs[i * sz + j]? = some v) {K : Value → Prop} (k : K v) : IxS a l (i : Int) sz fun b o => LdV m b (o + j) K := by
  refine ⟨by omega, by omega, ?_⟩
  rcases hc.cases with ⟨b, o, rfl, hx⟩ | ⟨rfl, _⟩
  · refine LdV.mk (v := v) ?_ k
    have := hx _ _ hv
    rw [show o + (i : Int).toNat * sz + j = o + (i * sz + j) by rw [Int.toNat_natCast]; omega]; exact this
  · simp at hv
theorem set_mid (A x B : List Value) {j : Nat} (hj : j < x.length) (v : Value) : (A ++ (x ++ B)).set (A.length + j) v = A ++ (x.set j v ++ B) := by
  rw [List.set_append_right _ _ (by omega), show A.length + j - A.length = j by omega, List.set_append_left _ _ hj]
theorem get_mid (A x B : List Value) {j : Nat} (hj : j < x.length) : (A ++ (x ++ B))[A.length + j]? = x[j]? := by
  rw [List.getElem?_append_right (by omega), show A.length + j - A.length = j by omega, List.getElem?_append_left hj]
theorem CellsAt.none_nil {m : Mem} {vs : List Value} (h : CellsAt m none vs) : vs = [] := h
theorem CloneNd_spec {m : Mem} {v : Sl} {t : List Nd} (h : TreeAt m v t) (hl : t.length ≤ 1000000) {R : Ending → Mem → Prop} (k : ∀ a' c' m', Le m m' → Own m' T_api_Node 5 a' t.length c' (t.flatMap ndv) → Fresh m a' → R (.returned (.slice a' t.length c')) m') :
    HC P slices_Clone_s_api_Node_api_Node.id #[.slice v.1 v.2.1 v.2.2] m R := by
  obtain ⟨a, l, c⟩ := v
  obtain ⟨hl1, hc⟩ := h
  dsimp only at hl1 hc ⊢
  subst hl1
  refine slices_Clone_s_api_Node_api_Node.ok _ _ _ _ _ ?_
  cases a with
  | none =>
    have h0 : t = [] := by
      have := congrArg List.length (CellsAt.none_nil hc)
      rw [rows_len ndlen] at this
      exact List.eq_nil_of_length_eq_zero (by simp only [List.length_nil] at this; omega)
    subst h0
    exact Br.t rfl (k _ _ m (Le.refl _) (Own.nil _ _ _) (Fresh.none _))
  | some a =>
    refine Br.f rfl ?_
    refine clone_gen ElemOK_nd (by decide) hc (rows_len ndlen t) (ndsone t) (by omega) (by omega) ?_
    intro a' c' m' hle ho hf
    exact k a' c' m' hle ho hf
theorem mvn_cells (d : Int) (n : Nd) : ((ndv n).set 3 (.int .i64 (n.2.2.2.1 + d))).set 4 (.int .i64 (n.2.2.2.2 + d)) = ndv (mvn d n) := rfl
/-- tree.Move. -/
theorem Move_spec {m : Mem} {v : Sl} {t : List Nd} {d : Int} (h : TreeAt m v t) (hl : t.length ≤ 1000000) (hb : Bt 1000000000000000 t) (hd : Bd 1000000000000000 d) {R : Ending → Mem → Prop}
    (k : ∀ v' m', Le m m' → TreeAt (nw m m') v' (mvt d t) → R (.returned (.slice v'.1 v'.2.1 v'.2.2)) m') : HC P tree_Move.id #[.slice v.1 v.2.1 v.2.2, .int .i64 d] m R := by
  refine tree_Move.ok _ _ _ _ _ _ ?_
  refine CloneNd_spec h hl ?_
  intro a c m1 hle1 ho1 hf1
  refine ⟨fun N d' a' l' c' x i mm => d' = d ∧ a' = a ∧ l' = t.length ∧ c' = c ∧ x = ((t.length : Nat) : Int) ∧ Le m mm ∧ ∃ j : Nat, i = j ∧ j ≤ t.length ∧ N = t.length - j ∧ Own mm T_api_Node 5 a t.length c (((t.take j).map (mvn d)).flatMap ndv ++ (t.drop j).flatMap ndv), t.length, ⟨rfl, rfl, rfl, rfl, rfl, hle1, 0, rfl, by omega, by omega, by simpa using ho1⟩, ?_⟩
  rintro N d' a' l' c' x i mm ⟨rfl, rfl, rfl, rfl, rfl, hle, j, rfl, hj, rfl, ho⟩
  refine BrD (fun hlt => ?_) (fun hge => ?_)
  rotate_left
  · have e : j = t.length := by omega
    subst e
    rw [List.take_length, List.drop_length, List.flatMap_nil, List.append_nil] at ho
    refine k (a', t.length, c') mm hle ⟨by unfold mvt; rw [List.length_map], ?_⟩
    exact CellsAt.nw ho.cells hf1
  have hj' : j < t.length := by omega
  obtain ⟨n, hn⟩ : ∃ n, t[j]? = some n := ⟨t[j], List.getElem?_eq_getElem hj'⟩
  have hbn := hb n (List.mem_of_getElem? hn)
  have hdrop : t.drop j = n :: t.drop (j + 1) := by
    rw [List.drop_eq_getElem_cons hj']
    rw [List.getElem?_eq_getElem hj'] at hn
    cases hn; rfl
  rw [hdrop, List.flatMap_cons] at ho
  have hA : (((t.take j).map (mvn d')).flatMap ndv).length = j * 5 := by rw [rows_len ndlen, List.length_map, List.length_take]; congr 1; omega
  refine IxS.ldN (i := j) (j := 3) ho.cells hj' (v := .int .i64 n.2.2.2.1) (by rw [← hA, get_mid _ _ _ (by rw [ndlen]; decide)]; rfl) ?_
  refine UnI.mk ?_
  unfold Bd at hbn hd
  rw [wi (n := n.2.2.2.1 + d') (by omega) (by omega)]
  refine ho.stN (i := (j : Int)) (by omega) (by omega) (j := 3) (by decide) rfl ?_
  intro m2 hch2 ho2
  rw [Int.toNat_natCast, ← hA, set_mid _ _ _ (by rw [ndlen]; decide)] at ho2
  refine IxS.ldN (i := j) (j := 4) ho2.cells hj' (v := .int .i64 n.2.2.2.2) (by rw [← hA, get_mid _ _ _ (by simp [ndv])]; rfl) ?_
  refine UnI.mk ?_
  rw [wi (n := n.2.2.2.2 + d') (by omega) (by omega)]
  refine ho2.stN (i := (j : Int)) (by omega) (by omega) (j := 4) (by decide) rfl ?_
  intro m3 hch3 ho3
  rw [Int.toNat_natCast, ← hA, set_mid _ _ _ (by simp [ndv]), mvn_cells] at ho3
  have hfa : ∀ b, blk a' = some b → m b = none := fun b e => hf1 b e
  have hle3 : Le m m3 := hch3.to_le (hch2.to_le hle hfa) hfa
  refine ⟨t.length - (j + 1), by omega, rfl, rfl, rfl, rfl, rfl, hle3, j + 1, ?_, by omega, rfl, ?_⟩
  · rw [wi (by omega) (by omega)]; omega
  · rw [List.take_add_one, hn]
    simpa using ho3
/-- chunk.move. -/
theorem move_spec {m : Mem} {f to d : Int} {v : Sl} {ss : List Sp} (h : SpsAt m v ss) (hb : Bss 1000000000000000 ss) (hf : Bd 1000000000000000 f) (ht : Bd 1000000000000000 to) (hd : Bd 1000000000000000 d) {R : Ending → Mem → Prop}
    (k : ∀ v' m', Le m m' → SpsAt (nw m m') v' (ss.map (mvs d)) → R (.returned (.agg #[.int .i64 (f + d), .int .i64 (to + d), .slice v'.1 v'.2.1 v'.2.2])) m') :
    HC P chunk_move.id #[.agg #[.int .i64 f, .int .i64 to, .slice v.1 v.2.1 v.2.2], .int .i64 d] m R := by
  refine chunk_move.ok _ _ _ _ _ _ _ _ ?_
  intro b2 hb2
  have hle2 := Le.set hb2 (.cells #[.int .i64 f, .int .i64 to, .slice v.1 v.2.1 v.2.2] T_chunk_Chunk (0, 0))
  have h2 := set_same m b2 (.cells #[.int .i64 f, .int .i64 to, .slice v.1 v.2.1 v.2.2] T_chunk_Chunk (0, 0))
  intro b4 hb4
  have hle4 := Le.set hb4 (.cells #[.int .i64 0, .int .i64 0, .slice none 0 0] T_chunk_Chunk (0, 0))
  have h4 := set_same (m.set b2 (.cells #[.int .i64 f, .int .i64 to, .slice v.1 v.2.1 v.2.2] T_chunk_Chunk (0, 0))) b4 (.cells #[.int .i64 0, .int .i64 0, .slice none 0 0] T_chunk_Chunk (0, 0))
  refine LdV.s0 (hle4 _ _ h2) (LdV.s1 (hle4 _ _ h2) ?_)
  generalize hm2 : (m.set b2 (.cells #[.int .i64 f, .int .i64 to, .slice v.1 v.2.1 v.2.2] T_chunk_Chunk (0, 0))).set b4 (.cells #[.int .i64 0, .int .i64 0, .slice none 0 0] T_chunk_Chunk (0, 0)) = m2 at *
  have hle02 : Le m m2 := hle2.trans hle4
  intro bo hbo
  unfold Bd at hf ht hd
  rw [wi (n := f + d) (by omega) (by omega), wi (n := to + d) (by omega) (by omega)]
  refine St1.three (set_same _ _ _) rfl rfl rfl ?_
  rw [set_set]
  have hleo := Le.set hbo (.cells #[.int .i64 (f + d), .int .i64 (to + d), .slice none 0 0] T_chunk_Chunk (0, 0))
  have ho := set_same m2 bo (.cells #[.int .i64 (f + d), .int .i64 (to + d), .slice none 0 0] T_chunk_Chunk (0, 0))
  refine LdV.s2 (hleo _ _ (hle4 _ _ h2)) ?_
  generalize hm3 : m2.set bo (.cells #[.int .i64 (f + d), .int .i64 (to + d), .slice none 0 0] T_chunk_Chunk (0, 0)) = m3 at *
  have hle03 : Le m m3 := hle02.trans hleo
  have hne : b4 ≠ bo := by rintro rfl; rw [h4] at hbo; cases hbo
  have hbom : m bo = none := hle02.new hbo
  have hb4m : m b4 = none := hle2.new hb4
  obtain ⟨va, vl, vc⟩ := v
  obtain ⟨prs, hprs, hl, hlc, hc, htr⟩ := h
  dsimp only at hl hlc hc ⊢
  subst hl
  have hsl : ss.length = prs.length := by rw [← hprs, List.length_map]
  have hbl := hb.1
  refine ⟨fun N d' x4b x4o xob xoo a' l' c' x i mm => d' = d ∧ x4b = b4 ∧ x4o = 0 ∧ xob = bo ∧ xoo = 0 ∧ a' = va ∧ l' = prs.length ∧ c' = vc ∧ x = ((prs.length : Nat) : Int) ∧ Le m mm ∧ mm b4 = some (.cells #[.int .i64 0, .int .i64 0, .slice none 0 0] T_chunk_Chunk (0, 0)) ∧
    ∃ (j : Nat) (oa : Option Addr) (oc : Nat) (ops : List (Sp × Sl)), i = j ∧ j ≤ prs.length ∧ N = prs.length - j ∧ mm bo = some (.cells #[.int .i64 (f + d), .int .i64 (to + d), .slice oa j oc] T_chunk_Chunk (0, 0)) ∧ Own mm T_api_Span 3 oa j oc (ops.flatMap spv) ∧ Fresh m oa ∧
      ops.map (·.1) = (ss.take j).map (mvs d) ∧ ∀ p ∈ ops, TreeAt (nws m mm fun b => blk oa = some b ∨ b = bo ∨ b = b4) p.2 p.1.2.2, prs.length,
    ⟨rfl, rfl, rfl, rfl, rfl, rfl, rfl, rfl, rfl, hle03, hleo _ _ h4, 0, none, 0, [], rfl, by omega, by omega, ho, Own.nil _ _ _, Fresh.none _, by simp, fun p hp => by cases hp⟩, ?_⟩
  rintro N d' x4b x4o xob xoo a' l' c' x i mm ⟨rfl, rfl, rfl, rfl, rfl, rfl, rfl, rfl, rfl, hle, hm4, j, oa, oc, ops, rfl, hj, rfl, hmo, how, hfo, hops, hot⟩
  have hol : ops.length = j := by
    have := congrArg List.length hops
    rw [List.length_map, List.length_map, List.length_take] at this
    omega
  refine BrD (fun hlt => ?_) (fun hge => ?_)
  rotate_left
  · have e : j = prs.length := by omega
    subst e
    rw [List.take_of_length_le (by omega)] at hops
    refine LdV.s0 hmo (LdV.s1 hmo (LdV.s2 hmo ?_))
    refine St1.three hm4 rfl rfl rfl ?_
    refine LdV.s0 (set_same _ _ _) (LdV.s1 (set_same _ _ _) (LdV.s2 (set_same _ _ _) ?_))
    have hch := Chg.set mm x4b (.cells #[.int .i64 (f + d'), .int .i64 (to + d'), .slice oa prs.length oc] T_chunk_Chunk (0, 0))
    have hleE : Le m (mm.set x4b (.cells #[.int .i64 (f + d'), .int .i64 (to + d'), .slice oa prs.length oc] T_chunk_Chunk (0, 0))) := hch.to_le hle (by rintro b rfl; exact hb4m)
    have h4o : blk oa ≠ some x4b := own_ne how hm4 (by decide)
    have hnw : Le (nws m mm fun b => blk oa = some b ∨ b = xob ∨ b = x4b) (nw m (mm.set x4b (.cells #[.int .i64 (f + d'), .int .i64 (to + d'), .slice oa prs.length oc] T_chunk_Chunk (0, 0)))) :=
      (nws_chg (hch.mono (fun b e => .inr (.inr e))) (fun b e => .inl e)).trans (nws_le _ _ _)
    refine k (oa, prs.length, oc) _ hleE ⟨ops, hops, by simp [hol], how.cap, CellsAt.nw (how.cells.chg hch (by rintro b e rfl; exact h4o e)) hfo, fun p hp => (hot p hp).le hnw⟩
  have hj' : j < prs.length := by omega
  refine IxS.rows splen (by decide) (hc.le hle) rfl (by omega) (by omega) ?_
  intro b o p hp hcell
  rw [Int.toNat_natCast] at hp
  refine LdV.mk (hcell 0 _ rfl) (LdV.mk (hcell 1 _ rfl) (LdV.mk (hcell 2 _ rfl) ?_))
  intro b7 hb7
  refine St1.three (set_same _ _ _) rfl rfl rfl ?_
  rw [set_set]
  have hle7 := Le.set hb7 (.cells #[.int .i64 p.1.1, .int .i64 p.1.2.1, .slice p.2.1 p.2.2.1 p.2.2.2] T_api_Span (0, 0))
  have h7 := set_same mm b7 (.cells #[.int .i64 p.1.1, .int .i64 p.1.2.1, .slice p.2.1 p.2.2.1 p.2.2.2] T_api_Span (0, 0))
  generalize hm4' : mm.set b7 (.cells #[.int .i64 p.1.1, .int .i64 p.1.2.1, .slice p.2.1 p.2.2.1 p.2.2.2] T_api_Span (0, 0)) = m4 at *
  refine ⟨m4, Le.refl _, ?_⟩
  refine LdV.s2 (hle7 _ _ hmo) ?_
  refine LdV.s0 h7 (LdV.s1 h7 (LdV.s2 h7 ?_))
  have hpm := List.mem_of_getElem? hp
  have hps : p.1 ∈ ss := by rw [← hprs]; exact List.mem_map_of_mem hpm
  have hbp := hb.2 _ hps
  refine Move_spec ((htr p hpm).le (hle.trans hle7)) hbp.2.2.2 hbp.2.2.1 hd ?_
  intro tv m6 hle6 htv
  refine ⟨m4, Le.refl _, hle6, ?_⟩
  intro b39 hb39
  refine ⟨m4, Le.refl _, hle6.trans (Le.set hb39 _), ?_⟩
  have hbp1 := hbp.1; have hbp2 := hbp.2.1
  unfold Bd at hbp1 hbp2
  rw [wi (n := p.1.1 + d') (by omega) (by omega), wi (n := p.1.2.1 + d') (by omega) (by omega)]
  have hmm6 : Le mm m6 := hle7.trans hle6
  refine push_row ElemOK_sp (by decide) (how.le hmm6) rfl (spone ((p.1.1 + d', p.1.2.1 + d', mvt d' p.1.2.2), tv)) (by omega) (by decide) ?_ b39 hb39
  intro a' c' m10 hch ho' hbl'
  refine UnS.mk ?_
  have hxo : m10 xob = some (.cells #[.int .i64 (f + d'), .int .i64 (to + d'), .slice oa j oc] T_chunk_Chunk (0, 0)) := hch.eq _ _ (hmm6 _ _ hmo) (fun e => own_ne how hmo (by decide) e)
  refine St1.to #[.int .i64 (f + d'), .int .i64 (to + d'), .slice a' (j + 1) c'] hxo (by simp) rfl rfl ?_
  have hchS := Chg.set m10 xob (.cells #[.int .i64 (f + d'), .int .i64 (to + d'), .slice a' (j + 1) c'] T_chunk_Chunk (0, 0))
  have hle10 : Le m m10 := hch.to_le (hle.trans hmm6) hfo
  have hleN : Le m (m10.set xob (.cells #[.int .i64 (f + d'), .int .i64 (to + d'), .slice a' (j + 1) c'] T_chunk_Chunk (0, 0))) := hchS.to_le hle10 (by rintro b rfl; exact hbom)
  have hfa' : Fresh m a' := by
    rcases hbl' with e | e
    · intro b hb; exact hfo b (e ▸ hb)
    · exact Fresh.le (hle.trans hmm6) e
  have h4o : blk oa ≠ some x4b := own_ne how hm4 (by decide)
  have hao : blk a' ≠ some xob := own_ne ho' hxo (by decide)
  have hS1 : Le (nws m mm fun b => blk oa = some b ∨ b = xob ∨ b = x4b) (nws m m6 fun b => blk oa = some b ∨ b = xob ∨ b = x4b) := nws_up hmm6
  have hS2 : Le (nw m4 m6) (nws m m6 fun b => blk oa = some b ∨ b = xob ∨ b = x4b) := nws_new (hle.trans hle7) (by
    rintro b (e | rfl | rfl)
    · exact hle7.live (how.live b e)
    · exact hle7.live (by rw [hmo]; simp)
    · exact hle7.live (by rw [hm4]; simp))
  have hS3 : Le (nws m m6 fun b => blk oa = some b ∨ b = xob ∨ b = x4b) (nws m m10 fun b => blk a' = some b ∨ b = xob ∨ b = x4b) := nws_chg (hch.mono (fun b e => .inl e)) (by
    rintro b (e | e)
    · rcases hbl' with q | q
      · exact .inl (.inl (q ▸ e))
      · exact .inr (q b e)
    · exact .inl (.inr e))
  have hS4 : Le (nws m m10 fun b => blk a' = some b ∨ b = xob ∨ b = x4b) (nws m (m10.set xob (.cells #[.int .i64 (f + d'), .int .i64 (to + d'), .slice a' (j + 1) c'] T_chunk_Chunk (0, 0))) fun b => blk a' = some b ∨ b = xob ∨ b = x4b) := nws_chg (hchS.mono (fun b e => .inr (.inl e))) (fun b e => .inl e)
  refine ⟨prs.length - (j + 1), by omega, rfl, rfl, rfl, rfl, rfl, rfl, rfl, rfl, rfl, hleN, ?_, j + 1, a', c', ops ++ [((p.1.1 + d', p.1.2.1 + d', mvt d' p.1.2.2), tv)], ?_, by omega, rfl, set_same _ _ _, ?_, hfa', ?_, ?_⟩
  · rw [set_other _ _ hne]
    exact hch.eq _ _ (hmm6 _ _ hm4) (fun e => h4o e)
  · rw [wi (by omega) (by omega)]; omega
  · have : Own m10 T_api_Span 3 a' (j + 1) c' ((ops ++ [((p.1.1 + d', p.1.2.1 + d', mvt d' p.1.2.2), tv)]).flatMap spv) := by
      rw [List.flatMap_append]; simpa [spv] using ho'
    exact this.chg hchS (by rintro b e rfl; exact hao e)
  · have hsj : ss[j]? = some p.1 := by rw [← hprs, List.getElem?_map, hp]; rfl
    rw [List.map_append, hops, List.take_add_one, hsj]
    simp [mvs]
  · intro q hq
    rcases List.mem_append.mp hq with hq | hq
    · exact (hot q hq).le (hS1.trans (hS3.trans hS4))
    · rw [List.mem_singleton] at hq
      subst hq
      exact htv.le (hS2.trans (hS3.trans hS4))
end Go.E.Ck
set_option linter.unusedVariables false
set_option linter.unusedSimpArgs false
namespace Go.E
variable {α : Type}
/-- Where a key stands. -/
def ixF (k : Int) : List (Int × α) → Nat → Option Nat
  | [], _ => none
  | e :: r, j => if e.1 = k then some j else ixF k r (j + 1)
def ixI : Option Nat → Int
  | some j => j
  | none => -1
theorem ixF_drop {k : Int} {es : List (Int × α)} {j : Nat} {e : Int × α} (h : es[j]? = some e) : ixF k (es.drop j) j = if e.1 = k then some j else ixF k (es.drop (j + 1)) (j + 1) := by
  have hlt : j < es.length := by
    rcases Nat.lt_or_ge j es.length with h1 | h1
    · exact h1
    · rw [List.getElem?_eq_none h1] at h; cases h
  rw [List.drop_eq_getElem_cons hlt]
  rw [List.getElem?_eq_getElem hlt] at h
  cases h
  rfl
theorem ixF_some {k : Int} : ∀ {es : List (Int × α)} {o j : Nat}, ixF k es o = some j → o ≤ j ∧ j < o + es.length ∧ ∃ e, es[j - o]? = some e ∧ e.1 = k
  | [], o, j, h => by simp [ixF] at h
  | e :: r, o, j, h => by
    unfold ixF at h
    split at h
    · rename_i hk
      cases h
      exact ⟨Nat.le_refl _, by simp, e, by simp, hk⟩
    · obtain ⟨h1, h2, e', h3, h4⟩ := ixF_some h
      refine ⟨by omega, by simp; omega, e', ?_, h4⟩
      rw [show j - o = (j - (o + 1)) + 1 by omega, List.getElem?_cons_succ]
      exact h3
theorem ixF_none {k : Int} : ∀ {es : List (Int × α)} {o : Nat}, ixF k es o = none → ∀ e ∈ es, e.1 ≠ k
  | [], o, h, e, he => by cases he
  | x :: r, o, h, e, he => by
    unfold ixF at h
    split at h
    · cases h
    · rename_i hk
      rcases List.mem_cons.1 he with rfl | he
      · exact hk
      · exact ixF_none h e he
/-- The same place by keys alone. -/
theorem ixF_keys {β : Type} {k : Int} : ∀ (es : List (Int × α)) (fs : List (Int × β)) (o : Nat), es.map (·.1) = fs.map (·.1) → ixF k es o = ixF k fs o
  | [], [], o, _ => rfl
  | e :: r, f :: s, o, h => by
    simp only [List.map_cons, List.cons.injEq] at h
    unfold ixF
    rw [h.1, ixF_keys r s (o + 1) h.2]
def dropL (k : Int) (es : List (Int × α)) : List (Int × α) :=
  match ixF k es 0 with
  | some i => es.eraseIdx i
  | none => es
def putL (most k : Int) (v : α) (es : List (Int × α)) : List (Int × α) :=
  if ((((k, v) :: dropL k es).length : Nat) : Int) ≤ max most 1 then (k, v) :: dropL k es else ((k, v) :: dropL k es).dropLast
/-- Which one goes. -/
def goneL (most k : Int) (v : α) (es : List (Int × α)) : Int × Bool :=
  if ((((k, v) :: dropL k es).length : Nat) : Int) ≤ max most 1 then (0, false) else ((((k, v) :: dropL k es).getLast (by simp)).1, true)
def getL (k : Int) (es : List (Int × α)) : List (Int × α) :=
  match ixF k es 0 with
  | some i => (match es[i]? with | some e => e :: es.eraseIdx i | none => es)
  | none => es
theorem dropL_len (k : Int) (es : List (Int × α)) : (dropL k es).length ≤ es.length := by
  unfold dropL
  split
  · exact List.length_eraseIdx_le _ _
  · exact Nat.le_refl _
theorem putL_len (most k : Int) (v : α) (es : List (Int × α)) : (putL most k v es).length ≤ es.length + 1 ∧ (((putL most k v es).length : Nat) : Int) ≤ max (max most 1) (es.length : Nat) := by
  have h := dropL_len k es
  unfold putL
  split
  · rename_i hc
    simp only [List.length_cons] at hc ⊢
    omega
  · rename_i hc
    simp only [List.length_dropLast, List.length_cons, Nat.add_sub_cancel] at hc ⊢
    omega
end Go.E
set_option linter.unusedVariables false
set_option maxRecDepth 20000
set_option linter.unusedSimpArgs false
namespace Go.E.ZK
open Go.H Go.E
attribute [local irreducible] BiN MkS ConvN LookN MapUpN CallV HC
abbrev A := Int × Int × (Option Addr × Nat × Nat)
def vf : Int × A → List Value := fun e => [.int .i64 e.1, .int .i64 e.2.1, .int .i64 e.2.2.1, .slice e.2.2.2.1 e.2.2.2.2.1 e.2.2.2.2.2]
theorem vlen (e : Int × A) : (vf e).length = 4 := rfl
theorem vone (e : Int × A) : ∀ v ∈ vf e, notOne v = false := by
  intro v hv
  simp only [vf, List.mem_cons, List.not_mem_nil, or_false] at hv
  rcases hv with rfl | rfl | rfl | rfl <;> rfl
def ents (es : List (Int × A)) : List Value := es.flatMap vf
theorem ents_len (es : List (Int × A)) : (ents es).length = es.length * 4 := rows_len vlen es
theorem ents_cons (e : Int × A) (es : List (Int × A)) : ents (e :: es) = vf e ++ ents es := by simp [ents]
theorem ents_one (es : List (Int × A)) : ∀ v ∈ ents es, notOne v = false := by
  intro v hv
  simp only [ents, List.mem_flatMap] at hv
  obtain ⟨e, _, hv⟩ := hv
  exact vone e v hv
theorem eE : ElemOK P T_sl_lru_entry_chunk_Chunk T_lru_entry_chunk_Chunk (.agg #[.int .i64 0, .int .i64 0, .int .i64 0, .slice none 0 0]) 4 48 := .of (by kernel_rfl) (by kernel_rfl) rfl
theorem at1_spec {m : Mem} {k : Int} {e : Int × A} {cb : Nat} (hb : m cb = some (.cells #[.int .i64 k] T_int (0, 0))) {R : Ending → Mem → Prop} (h : ∀ m', Le m m' → R (.returned (.bool (e.1 == k))) m') :
    HC P lru_Cache_chunk_Chunk_at_1.id #[.agg (vf e).toArray, .pointer (some ⟨cb, 0, none⟩)] m R := by
  obtain ⟨x, v, w, va, vl, vc⟩ := e
  refine lru_Cache_chunk_Chunk_at_1.ok _ _ _ _ _ _ _ _ _ _ ?_
  intro b hb2
  refine LdV.s0 (set_same _ _ _) ?_
  refine LdV.s0 (Le.set hb2 _ _ _ hb) ?_
  exact h _ (Le.set hb2 _)
theorem idx_spec {m : Mem} {es : List (Int × A)} {a : Option Addr} {l c : Nat} (hc : CellsAt m a (ents es)) (hl : es.length = l) (hll : l ≤ 1000000) {k : Int} {cb : Nat} (hb : m cb = some (.cells #[.int .i64 k] T_int (0, 0))) {R : Ending → Mem → Prop}
    (h : ∀ m', Le m m' → R (.returned (.int .i64 (ixI (ixF k es 0)))) m') : HC P slices_IndexFunc_s_lru_entry_chunk_Chunk_lru_entry_chunk_Chunk.id #[.slice a l c, .func (.func lru_Cache_chunk_Chunk_at_1.id) #[] #[.pointer (some ⟨cb, 0, none⟩)]] m R := by
  subst hl
  refine slices_IndexFunc_s_lru_entry_chunk_Chunk_lru_entry_chunk_Chunk.ok _ _ _ _ _ _ ?_
  refine ⟨fun N a1 l1 c1 f x7 i mm => a1 = a ∧ l1 = es.length ∧ f = .func (.func lru_Cache_chunk_Chunk_at_1.id) #[] #[.pointer (some ⟨cb, 0, none⟩)] ∧ x7 = (es.length : Nat) ∧ Le m mm ∧ ∃ j : Nat, i = j ∧ j ≤ es.length ∧ N = es.length - j ∧ ixF k (es.drop j) j = ixF k es 0, es.length, ⟨rfl, rfl, rfl, rfl, Le.refl _, 0, rfl, by omega, by omega, by simp⟩, ?_⟩
  rintro N a1 l1 c1 f x7 i mm ⟨rfl, rfl, rfl, rfl, hle, j, rfl, hj, rfl, hx⟩
  refine BrD (fun hlt => ?_) (fun hge => ?_)
  rotate_left
  · rw [List.drop_of_length_le (by omega)] at hx
    have := h mm hle
    rw [← hx] at this
    exact this
  refine IxS.rows vlen (by decide) (hc.le hle) rfl (by omega) (by omega) ?_
  intro b o e he hce
  rw [Int.toNat_natCast] at he
  rw [ixF_drop he] at hx
  refine LdV.mk (hce 0 _ rfl) ?_
  refine LdV.mk (hce 1 _ rfl) ?_
  refine LdV.mk (hce 2 _ rfl) ?_
  refine LdV.mk (hce 3 _ rfl) ?_
  refine CallV.of ?_
  refine at1_spec (e := e) (hle _ _ hb) ?_
  intro m' hle'
  refine BrE (fun hk => ?_) (fun hk => ?_)
  · rw [if_pos hk] at hx
    have := h m' (hle.trans hle')
    rw [← hx] at this
    exact this
  · rw [if_neg hk] at hx
    refine ⟨es.length - (j + 1), by omega, rfl, rfl, rfl, rfl, hle.trans hle', j + 1, ?_, by omega, rfl, hx⟩
    rw [wi (by omega) (by omega)]; omega
/-- One is put ahead of all. -/
theorem insert_spec {m : Mem} {es : List (Int × A)} {a : Option Addr} {l c : Nat} (ho : Own m T_lru_entry_chunk_Chunk 4 a l c (ents es)) (hl : es.length = l) (hll : l ≤ 10000) {x : Int × A} {b : Nat} (hb : m b = some (.cells (vf x).toArray T_lru_entry_chunk_Chunk (0, 0))) (hbn : blk a ≠ some b) {R : Ending → Mem → Prop}
    (k : ∀ a' c' m', Chg (fun k => blk a = some k) m m' → Own m' T_lru_entry_chunk_Chunk 4 a' (l + 1) c' (ents (x :: es)) → (blk a' = blk a ∨ Fresh m a') → R (.returned (.slice a' (l + 1) c')) m') :
    HC P slices_Insert_s_lru_entry_chunk_Chunk_lru_entry_chunk_Chunk.id #[.slice a l c, .int .i64 0, .slice (some ⟨b, 0, none⟩) 1 1] m R := by
  subst hl
  refine slices_Insert_s_lru_entry_chunk_Chunk_lru_entry_chunk_Chunk.ok _ _ _ _ _ _ _ _ _ ?_
  have hcap := ho.cap
  have hxl := vlen x
  have hel := ents_len es
  refine ⟨by omega, by omega, by omega, ?_⟩
  refine BrEf (by decide) ?_
  have hvc : CellsAt m (some ⟨b, 0, none⟩) (vf x) := cells_at hb (by simp)
  refine BrE (fun h0 => ?_) (fun h0 => ?_)
  · -- none is there
    have e0 : es = [] := List.eq_nil_of_length_eq_zero (by omega)
    subst e0
    refine append_own eE ho hvc (by rw [hxl]) (vone x) (by decide) (by decide) (by decide) ?_
    intro a' c' m' ho' hg
    refine k a' c' m' hg.1 ?_ hg.2
    simpa [ents] using ho'
  have hpos : 0 < es.length := by omega
  obtain ⟨_, hcase⟩ := id ho
  rcases hcase with ⟨_, q, _⟩ | ⟨ba, cur, rfl, hba, hlc, hs, ht, hcm⟩
  · omega
  have hlc' : ∀ n : Nat, n ≤ c → n * 4 ≤ cur.size := fun n hn => by rw [hs]; exact Nat.mul_le_mul_right _ hn
  have hw : IntKind.i64.wrap (((es.length : Nat) : Int) + ((1 : Nat) : Int)) = ((es.length + 1 : Nat) : Int) := by rw [wi (by omega) (by omega)]; omega
  rw [hw]
  have hrow : CellsAt m (some ⟨ba, 0, none⟩) (ents es) := ho.cells
  have hcn : ba ≠ b := fun e => hbn (by rw [e]; rfl)
  have hxs : (vf x).length + (ents es).length = (es.length + 1) * 4 := by rw [hxl, hel]; omega
  have hxs' : ((es.length + 1 : Nat) : Int).toNat = es.length + 1 := by omega
  have hmin1 : Nat.min 1 (es.length + 1) = 1 := Nat.min_eq_left (by omega)
  have hone : (vf x ++ ents es) = ents (x :: es) := (ents_cons x es).symm
  refine BrD (fun hgr => ?_) (fun hgr => ?_)
  · -- a new row
    refine ⟨by omega, by omega, by omega, ?_⟩
    rw [show IntKind.i64.wrap (((es.length + 1 : Nat) : Int) - 0) = ((es.length + 1 : Nat) : Int) by rw [wi (by omega) (by omega)]; omega]
    refine append_zeros eE (by kernel_rfl) (xs := []) (CellsAt.empty _ _) rfl (by omega) (by omega) (by decide) (by decide) (by decide) (by omega) ?_
    intro bn cn cur2 hbn2 hcn2 hcm2 hsz2 _
    have e1 : (0 : Int).toNat - (0 : Int).toNat + ((es.length + 1 : Nat) : Int).toNat = es.length + 1 := by omega
    rw [e1] at hcn2 ⊢
    have hle2 := Le.set hbn2 (.cells cur2 T_lru_entry_chunk_Chunk (0, 0))
    have hfit : (es.length + 1) * 4 ≤ cur2.size := by rw [hsz2]; exact Nat.mul_le_mul_right _ hcn2
    refine ⟨by omega, by omega, by omega, ?_⟩
    rw [shf0]
    have e2 : ((es.length + 1 : Nat) : Int).toNat - (0 : Int).toNat = es.length + 1 := by omega
    rw [e2]
    refine copy_into eE (vs := vf x) (set_same _ _ _) (hvc.le hle2) (by rw [hmin1, hxl]) (vone x) (by rw [hxl]; omega) ?_
    rw [set_set]
    refine ⟨_, Le.refl _, ?_⟩
    rw [show IntKind.i64.wrap ((0 : Int) + ((1 : Nat) : Int)) = 1 by decide]
    refine ⟨by omega, by omega, by omega, ?_⟩
    rw [show shf (some (⟨bn, 0, none⟩ : Addr)) (1 : Int).toNat 4 cn = some ⟨bn, 0 + 1 * 4, none⟩ from shf_at (by omega)]
    refine ⟨by omega, by omega, by omega, ?_⟩
    rw [shf0]
    have e3 : ((es.length : Nat) : Int).toNat - (0 : Int).toNat = es.length := by omega
    have e4 : ((es.length + 1 : Nat) : Int).toNat - (1 : Int).toNat = es.length := by omega
    rw [e3, e4]
    have hrow2 : CellsAt (m.set bn (.cells (putCells cur2 0 (vf x)) T_lru_entry_chunk_Chunk (0, 0))) (some ⟨ba, 0, none⟩) (ents es) := hrow.le (Le.set hbn2 _)
    refine copy_into eE (vs := ents es) (set_same _ _ _) hrow2 (by rw [hel, show Nat.min es.length es.length = es.length from Nat.min_self _]) (ents_one es) (by rw [putCells_size, hel]; omega) ?_
    rw [set_set]
    have hput := put_two' (cur := cur2) (xs := vf x) (ys := ents es) (by rw [hxs]; exact hfit)
    rw [hxs, hone, hxl] at hput
    refine k (some ⟨bn, 0, none⟩) cn _ ((Le.set hbn2 _).chg _) ⟨by rw [ents_len]; rfl, .inr ⟨bn, _, rfl, set_same _ _ _, hcn2, by rw [putCells_size, putCells_size, hsz2], hput, hcm2⟩⟩ (.inr ?_)
    intro b' e; cases e; exact hbn2
  · -- in place
    have hroom : es.length + 1 ≤ c := by omega
    have hfit : (es.length + 1) * 4 ≤ cur.size := hlc' _ hroom
    refine ⟨by omega, by omega, by omega, ?_⟩
    rw [shf0]
    have e2 : ((es.length + 1 : Nat) : Int).toNat - (0 : Int).toNat = es.length + 1 := by omega
    rw [e2]
    rw [show IntKind.i64.wrap ((0 : Int) + ((1 : Nat) : Int)) = 1 by decide]
    have e5 : c - (0 : Int).toNat = c := by omega
    rw [e5]
    refine ⟨by omega, by omega, by omega, ?_⟩
    rw [show shf (some (⟨ba, 0, none⟩ : Addr)) (1 : Int).toNat 4 c = some ⟨ba, 0 + 1 * 4, none⟩ from shf_at (by omega)]
    refine overlaps_no (rs := #[T_bool]) eE Go.Proofs.Try.func44 (by kernel_rfl) (by kernel_rfl) (by kernel_rfl) (by kernel_rfl) hb hba (Ne.symm hcn) ?_
    refine Br.t rfl ?_
    refine ⟨m, Le.refl _, ?_⟩
    refine ⟨by omega, by omega, by omega, ?_⟩
    rw [show shf (some (⟨ba, 0, none⟩ : Addr)) (1 : Int).toNat 4 c = some ⟨ba, 0 + 1 * 4, none⟩ from shf_at (by omega)]
    refine ⟨by omega, by omega, by omega, ?_⟩
    rw [shf0]
    have e4 : ((es.length + 1 : Nat) : Int).toNat - (1 : Int).toNat = es.length := by omega
    rw [e2, e4]
    have hmin2 : Nat.min (es.length + 1) es.length = es.length := Nat.min_eq_right (by omega)
    refine copy_into eE (vs := ents es) hba hrow (by rw [hel, hmin2]) (ents_one es) (by rw [hel]; omega) ?_
    refine ⟨by omega, by omega, by omega, ?_⟩
    rw [shf0, e2]
    have hvc2 : CellsAt (m.set ba (.cells (putCells cur (0 + 1 * 4) (ents es)) T_lru_entry_chunk_Chunk (0, 0))) (some ⟨b, 0, none⟩) (vf x) := by
      refine hvc.chg (Chg.set _ _ _) ?_
      intro b' e1 e2; cases e1; exact hcn e2.symm
    refine copy_into eE (vs := vf x) (set_same _ _ _) hvc2 (by rw [hmin1, hxl]) (vone x) (by rw [hxl, putCells_size]; omega) ?_
    rw [set_set]
    have hput := put_two (cur := cur) (xs := vf x) (ys := ents es) (by rw [hxs]; exact hfit)
    rw [hxs, hone, hxl] at hput
    refine k (some ⟨ba, 0, none⟩) c _ ((Chg.set _ _ _).mono (fun k e => by subst e; rfl)) ⟨by rw [ents_len]; rfl, .inr ⟨ba, _, rfl, set_same _ _ _, hroom, by rw [putCells_size, putCells_size, hs], hput, hcm⟩⟩ (.inl rfl)
/-- One is taken out. -/
theorem delete_spec {m : Mem} {es : List (Int × A)} {a : Option Addr} {l c : Nat} (ho : Own m T_lru_entry_chunk_Chunk 4 a l c (ents es)) (hl : es.length = l) (hll : l ≤ 10000) {i : Nat} (hi : i < l) {R : Ending → Mem → Prop}
    (k : ∀ m', Chg (fun k => blk a = some k) m m' → Own m' T_lru_entry_chunk_Chunk 4 a (l - 1) c (ents (es.eraseIdx i)) → R (.returned (.slice a (l - 1) c)) m') :
    HC P slices_Delete_s_lru_entry_chunk_Chunk_lru_entry_chunk_Chunk.id #[.slice a l c, .int .i64 (i : Int), .int .i64 ((i : Int) + 1)] m R := by
  subst hl
  refine slices_Delete_s_lru_entry_chunk_Chunk_lru_entry_chunk_Chunk.ok _ _ _ _ _ _ _ ?_
  have hcap := ho.cap
  have hel := ents_len es
  refine sl3_ok eE (by omega) (by omega) (by omega) (by omega) ?_
  intro v
  refine BrEf (by omega) ?_
  obtain ⟨_, hcase⟩ := id ho
  rcases hcase with ⟨_, q, _⟩ | ⟨ba, cur, rfl, hba, hlc, hs, ht, hcm⟩
  · omega
  refine ⟨m, Le.refl _, ?_⟩
  refine ⟨by omega, by omega, by omega, ?_⟩
  rw [shf0]
  refine ⟨by omega, by omega, by omega, ?_⟩
  have hsub := CellsAt.sub (sz := 4) (lo := i + 1) (hi := es.length) (c := c) ho.cells (by rw [hel]; omega) hcap
  rw [List.take_of_length_le (by rw [hel]; omega)] at hsub
  have hdrop : (ents es).drop ((i + 1) * 4) = ents (es.drop (i + 1)) := rows_drop vlen es (i + 1)
  rw [hdrop] at hsub
  have hfit : es.length * 4 ≤ cur.size := by rw [hs]; exact Nat.mul_le_mul_right _ hlc
  have e1 : ((i : Nat) : Int).toNat - (0 : Int).toNat = i := by omega
  have e2 : ((es.length : Nat) : Int).toNat - ((i : Int) + 1).toNat = es.length - (i + 1) := by omega
  have e3 : c - (0 : Int).toNat = c := by omega
  have e4 : ((i : Int) + 1).toNat = i + 1 := by omega
  rw [e1, e2, e3, e4]
  have hdl : (ents (es.drop (i + 1))).length = (es.length - (i + 1)) * 4 := by rw [ents_len, List.length_drop]
  refine append_room eE hba hsub hdl (ents_one _) (by omega) (by rw [hdl]; omega) ?_
  rw [show i + (es.length - (i + 1)) = es.length - 1 by omega]
  refine ⟨by omega, by omega, by omega, ?_⟩
  have e5 : ((es.length - 1 : Nat) : Int).toNat = es.length - 1 := by omega
  have e6 : ((es.length : Nat) : Int).toNat - (es.length - 1) = 1 := by omega
  rw [e5, e6]
  rw [show shf (some (⟨ba, 0, none⟩ : Addr)) (es.length - 1) 4 c = some ⟨ba, 0 + (es.length - 1) * 4, none⟩ from shf_at (by omega)]
  refine clear_row eE (by intro v hv; simp [Value.cells] at hv; rcases hv with rfl | rfl <;> rfl) (set_same _ _ _) (by rw [putCells_size]; omega) ?_
  intro zs hzs
  rw [set_set]
  have hput := put_cut (cur := cur) (xs := ents (es.take i)) (ys := ents (es.drop (i + 1))) (zs := zs) (p := i * 4) ?_ (by omega) (by rw [hdl, hzs]; omega)
  · have e7 : i * 4 + (ents (es.drop (i + 1))).length = (es.length - 1) * 4 := by rw [hdl]; omega
    rw [e7] at hput
    have e8 : ents (es.take i) ++ ents (es.drop (i + 1)) = ents (es.eraseIdx i) := by
      rw [List.eraseIdx_eq_take_drop_succ]; simp [ents]
    rw [e8] at hput
    refine k _ ((Chg.set _ _ _).mono (fun k e => by subst e; rfl)) ⟨?_, .inr ⟨ba, _, rfl, set_same _ _ _, by omega, by rw [putCells_size, putCells_size, hs], ?_, hcm⟩⟩
    · rw [ents_len, List.length_eraseIdx_of_lt hi]
    · simpa using hput
  · have := rows_take vlen es i
    rw [show ents (es.take i) = (ents es).take (i * 4) from this.symm, ← ht, List.take_take]
    congr 1; omega
end Go.E.ZK
