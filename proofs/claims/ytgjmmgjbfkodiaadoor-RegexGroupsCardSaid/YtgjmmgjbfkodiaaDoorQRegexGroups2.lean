/- This project's own logic, printed forms and lemmas, as far as this claim needs them (part 2). -/
import Derived.Test.YtgjmmgjbfkodiaaDoorQRegexGroups1
set_option linter.unusedVariables false
set_option maxRecDepth 100000
namespace Go.E
open Go.H
noncomputable section
noncomputable abbrev P : Program := Go.Proofs.Tryd.prog
theorem follows : P.follows .mixedOrders = true := by kernel_rfl
abbrev T_api_Errno : TypeId := 29
abbrev T_api_Rx : TypeId := 28
abbrev T_api_Set : TypeId := 25
abbrev T_arr2_uint8 : TypeId := 81
abbrev T_bool : TypeId := 4
abbrev T_class_reader : TypeId := 114
abbrev T_class_refusal : TypeId := 110
abbrev T_eyotplay_Picks : TypeId := 65
abbrev T_eyotref8_reader : TypeId := 59
abbrev T_int : TypeId := 3
abbrev T_regex_reader : TypeId := 55
abbrev T_regex_refusal : TypeId := 51
abbrev T_sl_api_Rx : TypeId := 26
abbrev T_sl_arr2_uint8 : TypeId := 79
abbrev T_sl_bool : TypeId := 72
abbrev T_sl_string : TypeId := 46
abbrev T_sl_uint8 : TypeId := 37
abbrev T_string : TypeId := 9
abbrev T_strings_Builder : TypeId := 86
abbrev T_uint8 : TypeId := 5
namespace strings_Builder_String
def id : FuncId := 61
end strings_Builder_String
namespace strings_Builder_copyCheck
def id : FuncId := 75
end strings_Builder_copyCheck
namespace internal_abi_NoEscape
def id : FuncId := 81
end internal_abi_NoEscape
namespace internal_bytealg_MakeNoZero
def id : FuncId := 82
end internal_bytealg_MakeNoZero
namespace internal_bytealg_IndexByteString
def id : FuncId := 85
end internal_bytealg_IndexByteString
def eyotlaw9_RegexParses.id : FuncId := 3
def eyotlaw9_RegexMay.id : FuncId := 4
def eyotlaw9_RegexAll.id : FuncId := 5
def eyotlaw9_RegexBack.id : FuncId := 6
def eyotlaw9_RegexSpells.id : FuncId := 7
def eyotlaw9_RegexForms.id : FuncId := 8
def eyotlaw9_RegexCounts.id : FuncId := 9
def eyotlaw9_RegexDeep.id : FuncId := 10
def eyotlaw9_RegexGroups.id : FuncId := 11
def eyotlaw9_RegexEmpty.id : FuncId := 12
def eyotlaw9_begun.id : FuncId := 13
def regex_Parse.id : FuncId := 14
def eyotref8_Parse.id : FuncId := 15
def eyotref8_SameRx.id : FuncId := 16
def eyotlaw9_light.id : FuncId := 17
def regex_May.id : FuncId := 18
def eyotref8_May.id : FuncId := 19
def eyotplay_Made.id : FuncId := 20
def eyotplay_Picks_Rx.id : FuncId := 21
def regex_Show.id : FuncId := 22
def eyotref8_Show.id : FuncId := 23
def regex_Null.id : FuncId := 24
def eyotref8_Null.id : FuncId := 25
def regex_In.id : FuncId := 26
def eyotref8_In.id : FuncId := 27
def eyotref8_Of.id : FuncId := 28
def regex_Parse_1.id : FuncId := 29
def regex_reader_alt.id : FuncId := 30
def eyotref8_reader_alt.id : FuncId := 31
def eyotref8_reader_fail.id : FuncId := 32
def regex_formed.id : FuncId := 33
def regex_size.id : FuncId := 34
def eyotref8_form.id : FuncId := 35
def eyotref8_nodes.id : FuncId := 36
def eyotref8_depth.id : FuncId := 37
def eyotplay_Picks_Num.id : FuncId := 38
def eyotplay_Picks_Set.id : FuncId := 39
def class_Show.id : FuncId := 40
def regex_rank.id : FuncId := 41
def regex_within.id : FuncId := 42
def strings_Join.id : FuncId := 43
def regex_sign.id : FuncId := 44
def eyotref8_ShowClass.id : FuncId := 45
def regex_from.id : FuncId := 46
def eyotref8_spans.id : FuncId := 47
def regex_reader_cat.id : FuncId := 48
def regex_reader_sees.id : FuncId := 49
def regex_one.id : FuncId := 50
def eyotref8_reader_cat.id : FuncId := 51
def eyotref8_reader_is.id : FuncId := 52
def eyotref8_Empty.id : FuncId := 53
def eyotref8_Not.id : FuncId := 54
def class_runs.id : FuncId := 55
def class_Not.id : FuncId := 56
def class_sign.id : FuncId := 57
def class_shown.id : FuncId := 58
def strings_Builder_Grow.id : FuncId := 59
def strings_Builder_WriteString.id : FuncId := 60
def eyotref8_list.id : FuncId := 62
def eyotref8_shown.id : FuncId := 63
def class_Has.id : FuncId := 64
def regex_join.id : FuncId := 65
def eyotref8_table.id : FuncId := 66
def eyotref8_Has.id : FuncId := 67
def eyotref8_same.id : FuncId := 68
def eyotref8_behind.id : FuncId := 69
def regex_reader_rep.id : FuncId := 70
def eyotref8_reader_rep.id : FuncId := 71
def class_with.id : FuncId := 72
def class_Not_1.id : FuncId := 73
def strings_IndexByte.id : FuncId := 74
def strings_Builder_grow.id : FuncId := 76
def eyotref8_in.id : FuncId := 77
def regex_reader_atom.id : FuncId := 78
def eyotref8_reader_atom.id : FuncId := 79
def internal_stringslite_IndexByte.id : FuncId := 80
def class_Parse.id : FuncId := 83
def eyotref8_Class.id : FuncId := 84
def class_Parse_1.id : FuncId := 86
def class_reader_class.id : FuncId := 87
def class_Least.id : FuncId := 88
def eyotref8_sign.id : FuncId := 89
def class_reader_next.id : FuncId := 90
def class_reader_take.id : FuncId := 91
def class_reader_sign.id : FuncId := 92
def class_run.id : FuncId := 93
def class_reader_part.id : FuncId := 94
def class_Or.id : FuncId := 95
def math_bits_TrailingZeros64.id : FuncId := 96
def eyotref8_digit.id : FuncId := 97
def class_reader_digit.id : FuncId := 98
def class_Of.id : FuncId := 99
def class_Or_1.id : FuncId := 100
end
end Go.E
set_option linter.unusedVariables false
set_option maxRecDepth 100000
namespace Go.E
open Go.H
noncomputable section
/-! ### eyot/eyotlaw9.begun -/
namespace eyotlaw9_begun
noncomputable def fn : Func := Go.Proofs.Tryd.f13
noncomputable def body : Code := fn.body.getD .skip
def od : Nat → Ord := fun _ => .done
def tb : Nat → Tab := fun _ => (0, [], [])
def e0  (R : Ending → Mem → Prop) (m : Mem) : Prop :=
 HC P regex_Parse.id #[.string (ByteArray.mk #[97, 40, 98, 124, 99, 41, 42])] m (Cont (fun v m1 =>
   UnTup v fun us0 =>
   UnCons us0 fun w us1 =>
   UnAgg w fun l =>
   UnCons l fun v l =>
   UnI v .i64 fun x4_0_0 =>
   UnCons l fun v l =>
   UnI v .u64 fun x4_0_1 =>
   UnCons l fun v l =>
   UnI v .u64 fun x4_0_2 =>
   UnCons l fun v l =>
   UnI v .u64 fun x4_0_3 =>
   UnCons l fun v l =>
   UnI v .u64 fun x4_0_4 =>
   UnCons l fun v l =>
   UnS v fun x4_0_5a x4_0_5l x4_0_5c =>
   UnNil l (
    UnCons us1 fun w us2 =>
    UnI w .i64 fun x4_1 =>
    UnNil us2 (
     NewC m1 #[.int .i64 0, .int .u64 0, .int .u64 0, .int .u64 0, .int .u64 0, .slice none 0 0] T_api_Rx fun b_r_1 m2 =>
     St1 m2 b_r_1 0 (.int .i64 x4_0_0) fun m3 =>
     St1 m3 b_r_1 1 (.int .u64 x4_0_1) fun m4 =>
     St1 m4 b_r_1 2 (.int .u64 x4_0_2) fun m5 =>
     St1 m5 b_r_1 3 (.int .u64 x4_0_3) fun m6 =>
     St1 m6 b_r_1 4 (.int .u64 x4_0_4) fun m7 =>
     St1 m7 b_r_1 5 (.slice x4_0_5a x4_0_5l x4_0_5c) fun m8 =>
     Br (x4_1 == 0) (
      LdV m8 b_r_1 0 fun v =>
      UnI v .i64 fun x10_0 =>
      LdV m8 b_r_1 1 fun v =>
      UnI v .u64 fun x10_1 =>
      LdV m8 b_r_1 2 fun v =>
      UnI v .u64 fun x10_2 =>
      LdV m8 b_r_1 3 fun v =>
      UnI v .u64 fun x10_3 =>
      LdV m8 b_r_1 4 fun v =>
      UnI v .u64 fun x10_4 =>
      LdV m8 b_r_1 5 fun v =>
      UnS v fun x10_5a x10_5l x10_5c =>
      HC P regex_Show.id #[.agg #[.int .i64 x10_0, .int .u64 x10_1, .int .u64 x10_2, .int .u64 x10_3, .int .u64 x10_4, .slice x10_5a x10_5l x10_5c]] m8 (Cont (fun v m9 =>
        UnStr v fun x11 =>
        Br (x11.toList == (ByteArray.mk #[97, 40, 98, 124, 99, 41, 42]).toList) (
        LdV m9 b_r_1 0 fun v =>
        UnI v .i64 fun x15_0 =>
        LdV m9 b_r_1 1 fun v =>
        UnI v .u64 fun x15_1 =>
        LdV m9 b_r_1 2 fun v =>
        UnI v .u64 fun x15_2 =>
        LdV m9 b_r_1 3 fun v =>
        UnI v .u64 fun x15_3 =>
        LdV m9 b_r_1 4 fun v =>
        UnI v .u64 fun x15_4 =>
        LdV m9 b_r_1 5 fun v =>
        UnS v fun x15_5a x15_5l x15_5c =>
        HC P regex_May.id #[.agg #[.int .i64 x15_0, .int .u64 x15_1, .int .u64 x15_2, .int .u64 x15_3, .int .u64 x15_4, .slice x15_5a x15_5l x15_5c]] m9 (Cont (fun v m10 =>
        UnI v .i64 fun x16 =>
        Br (x16 == 0) (
        LdV m10 b_r_1 0 fun v =>
        UnI v .i64 fun x20_0 =>
        LdV m10 b_r_1 1 fun v =>
        UnI v .u64 fun x20_1 =>
        LdV m10 b_r_1 2 fun v =>
        UnI v .u64 fun x20_2 =>
        LdV m10 b_r_1 3 fun v =>
        UnI v .u64 fun x20_3 =>
        LdV m10 b_r_1 4 fun v =>
        UnI v .u64 fun x20_4 =>
        LdV m10 b_r_1 5 fun v =>
        UnS v fun x20_5a x20_5l x20_5c =>
        HC P regex_Null.id #[.agg #[.int .i64 x20_0, .int .u64 x20_1, .int .u64 x20_2, .int .u64 x20_3, .int .u64 x20_4, .slice x20_5a x20_5l x20_5c]] m10 (Cont (fun v m11 =>
        UnB v fun x21 =>
        Br (!x21) (
        LdV m11 b_r_1 0 fun v =>
        UnI v .i64 fun x25_0 =>
        LdV m11 b_r_1 1 fun v =>
        UnI v .u64 fun x25_1 =>
        LdV m11 b_r_1 2 fun v =>
        UnI v .u64 fun x25_2 =>
        LdV m11 b_r_1 3 fun v =>
        UnI v .u64 fun x25_3 =>
        LdV m11 b_r_1 4 fun v =>
        UnI v .u64 fun x25_4 =>
        LdV m11 b_r_1 5 fun v =>
        UnS v fun x25_5a x25_5l x25_5c =>
        NewC m11 #[.int .u8 97, .int .u8 98, .int .u8 99] T_uint8 fun b26 m12 =>
        ConvN P T_sl_uint8 T_sl_uint8 (.slice (some ⟨b26, 0, none⟩) 3 3) m12 (fun w m13 =>
        UnS w fun x27a x27l x27c =>
        HC P regex_In.id #[.agg #[.int .i64 x25_0, .int .u64 x25_1, .int .u64 x25_2, .int .u64 x25_3, .int .u64 x25_4, .slice x25_5a x25_5l x25_5c], .slice x27a x27l x27c] m13 (Cont (fun v m14 =>
        UnB v fun x28 =>
        Br x28 (
        LdV m14 b_r_1 0 fun v =>
        UnI v .i64 fun x31_0 =>
        LdV m14 b_r_1 1 fun v =>
        UnI v .u64 fun x31_1 =>
        LdV m14 b_r_1 2 fun v =>
        UnI v .u64 fun x31_2 =>
        LdV m14 b_r_1 3 fun v =>
        UnI v .u64 fun x31_3 =>
        LdV m14 b_r_1 4 fun v =>
        UnI v .u64 fun x31_4 =>
        LdV m14 b_r_1 5 fun v =>
        UnS v fun x31_5a x31_5l x31_5c =>
        NewC m14 #[.int .u8 98] T_uint8 fun b32 m15 =>
        ConvN P T_sl_uint8 T_sl_uint8 (.slice (some ⟨b32, 0, none⟩) 1 1) m15 (fun w m16 =>
        UnS w fun x33a x33l x33c =>
        HC P regex_In.id #[.agg #[.int .i64 x31_0, .int .u64 x31_1, .int .u64 x31_2, .int .u64 x31_3, .int .u64 x31_4, .slice x31_5a x31_5l x31_5c], .slice x33a x33l x33c] m16 (Cont (fun v m17 =>
        UnB v fun x34 =>
        R (.returned (.bool (!x34))) m17) (panicR R))) (panicR R)) (
        R (.returned (.bool false)) m14)) (panicR R))) (panicR R)) (
        R (.returned (.bool false)) m11)) (panicR R))) (
        R (.returned (.bool false)) m10)) (panicR R))) (
        R (.returned (.bool false)) m9)) (panicR R))) (
      R (.returned (.bool false)) m8)))) (panicR R))
noncomputable def e0A (R : Ending → Mem → Prop) : ACode := (.code (body))
theorem e0_eq  (R : Ending → Mem → Prop) (m : Mem) : e0  R m = acpt P od (panicR R) (e0A R) (bodyQ P fn R) (argE (#[] : Array Value).toList) m := by kernel_rfl
theorem ok  (R : Ending → Mem → Prop) (m : Mem) (h : e0  R m) : HC P id #[] m R := by
  refine HC_of (fn := fn) (c := body) (od := od) (tb := tb) Go.Proofs.Tryd.func13 (by kernel_rfl) (by kernel_rfl) follows (by kernel_rfl) (of_decide_eq_true (by kernel_rfl)) ?_
  have he : (e0A R).erase = body := by kernel_rfl
  rw [← he]
  refine acpt_sound (P := P) (e0A R) _ _ _ True.intro ?_
  exact Eq.mp (e0_eq  R m) h
end eyotlaw9_begun
/-! ### eyot/regex.Parse -/
namespace regex_Parse
noncomputable def fn : Func := Go.Proofs.Tryd.f14
noncomputable def fnR : Func := { fn with results := #[] }
noncomputable def body : Code := fn.body.getD .skip
def od : Nat → Ord := fun _ => .done
def tb : Nat → Tab := fun _ => (0, [], [])
def k1E (K : ByteArray → Nat → Nat → Nat → Nat → Mem → Prop) : Env → Mem → Prop := fun ρ m => UnStr (ρ 0) fun s_0 => UnPA (ρ 2) fun x_2b x_2o => UnPA (ρ 3) fun e_3b e_3o => K s_0 x_2b x_2o e_3b e_3o m
def k1  (s_0 : ByteArray) (x_2b : Nat) (x_2o : Nat) (e_3b : Nat) (e_3o : Nat) (R : Ending → Mem → Prop) (m : Mem) : Prop :=
 NewC m #[.string s_0, .int .i64 0] T_regex_reader fun b9 m1 =>
 HC P regex_reader_alt.id #[.pointer (some ⟨b9, 0, none⟩)] m1 (Cont (fun v m2 =>
   UnAgg v fun l =>
   UnCons l fun v l =>
   UnI v .i64 fun x11_0 =>
   UnCons l fun v l =>
   UnI v .u64 fun x11_1 =>
   UnCons l fun v l =>
   UnI v .u64 fun x11_2 =>
   UnCons l fun v l =>
   UnI v .u64 fun x11_3 =>
   UnCons l fun v l =>
   UnI v .u64 fun x11_4 =>
   UnCons l fun v l =>
   UnS v fun x11_5a x11_5l x11_5c =>
   UnNil l (
    St1 m2 x_2b x_2o (.int .i64 x11_0) fun m3 =>
    St1 m3 x_2b (x_2o + 1) (.int .u64 x11_1) fun m4 =>
    St1 m4 x_2b (x_2o + 2) (.int .u64 x11_2) fun m5 =>
    St1 m5 x_2b (x_2o + 3) (.int .u64 x11_3) fun m6 =>
    St1 m6 x_2b (x_2o + 4) (.int .u64 x11_4) fun m7 =>
    St1 m7 x_2b (x_2o + 5) (.slice x11_5a x11_5l x11_5c) fun m8 =>
    LdV m8 b9 0 fun v =>
    UnStr v fun x15 =>
    Br (!(x15.toList == (ByteArray.mk #[]).toList)) (
     R (.panicked [{ v := .iface T_regex_refusal (.agg #[.int .i64 2]), recovered := false }]) m8) (
     LdV m8 x_2b x_2o fun v =>
     UnI v .i64 fun x19_0 =>
     LdV m8 x_2b (x_2o + 1) fun v =>
     UnI v .u64 fun x19_1 =>
     LdV m8 x_2b (x_2o + 2) fun v =>
     UnI v .u64 fun x19_2 =>
     LdV m8 x_2b (x_2o + 3) fun v =>
     UnI v .u64 fun x19_3 =>
     LdV m8 x_2b (x_2o + 4) fun v =>
     UnI v .u64 fun x19_4 =>
     LdV m8 x_2b (x_2o + 5) fun v =>
     UnS v fun x19_5a x19_5l x19_5c =>
     HC P regex_May.id #[.agg #[.int .i64 x19_0, .int .u64 x19_1, .int .u64 x19_2, .int .u64 x19_3, .int .u64 x19_4, .slice x19_5a x19_5l x19_5c]] m8 (Cont (fun v m9 =>
       UnI v .i64 fun x20 =>
       Br (x20 != 0) (
        R (.panicked [{ v := .iface T_regex_refusal (.agg #[.int .i64 x20]), recovered := false }]) m9) (
        LdV m9 x_2b x_2o fun v =>
        UnI v .i64 fun x26_0 =>
        LdV m9 x_2b (x_2o + 1) fun v =>
        UnI v .u64 fun x26_1 =>
        LdV m9 x_2b (x_2o + 2) fun v =>
        UnI v .u64 fun x26_2 =>
        LdV m9 x_2b (x_2o + 3) fun v =>
        UnI v .u64 fun x26_3 =>
        LdV m9 x_2b (x_2o + 4) fun v =>
        UnI v .u64 fun x26_4 =>
        LdV m9 x_2b (x_2o + 5) fun v =>
        UnS v fun x26_5a x26_5l x26_5c =>
        St1 m9 x_2b x_2o (.int .i64 x26_0) fun m10 =>
        St1 m10 x_2b (x_2o + 1) (.int .u64 x26_1) fun m11 =>
        St1 m11 x_2b (x_2o + 2) (.int .u64 x26_2) fun m12 =>
        St1 m12 x_2b (x_2o + 3) (.int .u64 x26_3) fun m13 =>
        St1 m13 x_2b (x_2o + 4) (.int .u64 x26_4) fun m14 =>
        St1 m14 x_2b (x_2o + 5) (.slice x26_5a x26_5l x26_5c) fun m15 =>
        St1 m15 e_3b e_3o (.int .i64 0) fun m16 =>
        R (.returned (.tuple #[])) m16)) (panicR R))))) (panicR R))
noncomputable def k1A  (R : Ending → Mem → Prop) : ACode := (.code (sR (sR (body))))
abbrev k1Q  (R : Ending → Mem → Prop) : Exit → Env → Mem → Prop := (bodyQ P fnR R)
theorem k1_eq  (R : Ending → Mem → Prop) (s_0 : ByteArray) (x_2b : Nat) (x_2o : Nat) (e_3b : Nat) (e_3o : Nat) (ρ : Env) (m : Mem) : k1  s_0 x_2b x_2o e_3b e_3o R m = acpt P od (panicR R) (k1A  R) (k1Q  R) (upd (upd (upd ρ 3 (.pointer (some ⟨e_3b, e_3o, none⟩))) 2 (.pointer (some ⟨x_2b, x_2o, none⟩))) 0 (.string s_0)) m := by kernel_rfl
theorem k1_er  (R : Ending → Mem → Prop) : (k1A  R).erase = sR (sR (body)) := by kernel_rfl
theorem k1_ok  (R : Ending → Mem → Prop) (ρ : Env) (m : Mem) (h : (k1E fun s_0 x_2b x_2o e_3b e_3o m => k1  s_0 x_2b x_2o e_3b e_3o R m) ρ m) : cpt P od (panicR R) (sR (sR (body))) (k1Q  R) ρ m := by
  unfold k1E at h
  obtain ⟨s_0, e0, h⟩ := h.ex
  obtain ⟨x_2b, x_2o, e2, h⟩ := h.ex
  obtain ⟨e_3b, e_3o, e3, h⟩ := h.ex
  rw [← upd_self e0, ← upd_self e2, ← upd_self e3]
  rw [← k1_er  R]
  refine acpt_sound (P := P) (k1A  R) _ _ _ True.intro ?_
  exact Eq.mp (k1_eq  R s_0 x_2b x_2o e_3b e_3o ρ m) h
/-- Reading the results. -/
def out (d2b : Nat) (d2o : Nat) (d3b : Nat) (d3o : Nat) (R : Ending → Mem → Prop) (m : Mem) : Prop :=
 LdV m d2b d2o fun v =>
 UnI v .i64 fun res0_0 =>
 LdV m d2b (d2o + 1) fun v =>
 UnI v .u64 fun res0_1 =>
 LdV m d2b (d2o + 2) fun v =>
 UnI v .u64 fun res0_2 =>
 LdV m d2b (d2o + 3) fun v =>
 UnI v .u64 fun res0_3 =>
 LdV m d2b (d2o + 4) fun v =>
 UnI v .u64 fun res0_4 =>
 LdV m d2b (d2o + 5) fun v =>
 UnS v fun res0_5a res0_5l res0_5c =>
 LdV m d3b d3o fun v =>
 UnI v .i64 fun res1 =>
 R (.returned (.tuple #[.agg #[.int .i64 res0_0, .int .u64 res0_1, .int .u64 res0_2, .int .u64 res0_3, .int .u64 res0_4, .slice res0_5a res0_5l res0_5c], .int .i64 res1])) m
def p0 (s_0 : ByteArray) (R : Ending → Mem → Prop) (KK : ByteArray → Nat → Nat → Nat → Nat → Mem → Prop) (m : Mem) : Prop :=
 NewC m #[.int .i64 0, .int .u64 0, .int .u64 0, .int .u64 0, .int .u64 0, .slice none 0 0] T_api_Rx fun b_x_2 m1 =>
 NewC m1 #[.int .i64 0] T_api_Errno fun b_e_3 m2 =>
 KK s_0 b_x_2 0 b_e_3 0 m2
/-- The rest, its end told by the deferred call. -/
def rest0 (s_0 : ByteArray) (x_2b : Nat) (x_2o : Nat) (e_3b : Nat) (e_3o : Nat) (R : Ending → Mem → Prop) (m : Mem) : Prop := k1 s_0 x_2b x_2o e_3b e_3o (DefR P regex_Parse_1.id #[.pointer (some ⟨x_2b, x_2o, none⟩), .pointer (some ⟨e_3b, e_3o, none⟩)] (out x_2b x_2o e_3b e_3o R)) m
theorem p0_eq (s_0 : ByteArray) (R : Ending → Mem → Prop) (KK : ByteArray → Nat → Nat → Nat → Nat → Mem → Prop) (m : Mem) : p0 s_0 R KK m = cpt P od (panicR R) (sL (body)) (aheadQ P fn R (k1E KK)) (argE (#[.string s_0] : Array Value).toList) m := by kernel_rfl
theorem cok : codeOk P od tb 4 fn.ntmps (sR (sR (body))) = true := by kernel_rfl
theorem rest_eq (s_0 : ByteArray) (x_2b : Nat) (x_2o : Nat) (e_3b : Nat) (e_3o : Nat) (R : Ending → Mem → Prop) (ρ : Env) (m : Mem) : rest0 s_0 x_2b x_2o e_3b e_3o R m = (k1E fun us_0 ux_2b ux_2o ue_3b ue_3o m => k1 us_0 ux_2b ux_2o ue_3b ue_3o (DefR P regex_Parse_1.id #[.pointer (some ⟨x_2b, x_2o, none⟩), .pointer (some ⟨e_3b, e_3o, none⟩)] (out x_2b x_2o e_3b e_3o R)) m) (upd (upd (upd (upd ρ 3 (.pointer (some ⟨e_3b, e_3o, none⟩))) 2 (.pointer (some ⟨x_2b, x_2o, none⟩))) 0 (.string s_0)) 6 (.func (.func 29) #[] #[.pointer (some ⟨x_2b, x_2o, none⟩), .pointer (some ⟨e_3b, e_3o, none⟩)])) m := by kernel_rfl
theorem rest_ok (s_0 : ByteArray) (x_2b : Nat) (x_2o : Nat) (e_3b : Nat) (e_3o : Nat) (R : Ending → Mem → Prop) (ρ : Env) (m : Mem) (h : rest0 s_0 x_2b x_2o e_3b e_3o R m) : cpt P od (panicR (DefR P regex_Parse_1.id #[.pointer (some ⟨x_2b, x_2o, none⟩), .pointer (some ⟨e_3b, e_3o, none⟩)] (out x_2b x_2o e_3b e_3o R))) (sR (sR (body))) (bodyQ P fnR (DefR P regex_Parse_1.id #[.pointer (some ⟨x_2b, x_2o, none⟩), .pointer (some ⟨e_3b, e_3o, none⟩)] (out x_2b x_2o e_3b e_3o R))) (upd (upd (upd (upd ρ 3 (.pointer (some ⟨e_3b, e_3o, none⟩))) 2 (.pointer (some ⟨x_2b, x_2o, none⟩))) 0 (.string s_0)) 6 (.func (.func 29) #[] #[.pointer (some ⟨x_2b, x_2o, none⟩), .pointer (some ⟨e_3b, e_3o, none⟩)])) m := k1_ok (DefR P regex_Parse_1.id #[.pointer (some ⟨x_2b, x_2o, none⟩), .pointer (some ⟨e_3b, e_3o, none⟩)] (out x_2b x_2o e_3b e_3o R)) (upd (upd (upd (upd ρ 3 (.pointer (some ⟨e_3b, e_3o, none⟩))) 2 (.pointer (some ⟨x_2b, x_2o, none⟩))) 0 (.string s_0)) 6 (.func (.func 29) #[] #[.pointer (some ⟨x_2b, x_2o, none⟩), .pointer (some ⟨e_3b, e_3o, none⟩)])) m (Eq.mp (rest_eq s_0 x_2b x_2o e_3b e_3o R ρ m) h)
theorem rest_eq2 (s_0 : ByteArray) (x_2b : Nat) (x_2o : Nat) (e_3b : Nat) (e_3o : Nat) (R : Ending → Mem → Prop) (ρ : Env) (m : Mem) : cpt P od (panicR (DefR P regex_Parse_1.id #[.pointer (some ⟨x_2b, x_2o, none⟩), .pointer (some ⟨e_3b, e_3o, none⟩)] (out x_2b x_2o e_3b e_3o R))) (sR (sR (body))) (bodyQ P fnR (DefR P regex_Parse_1.id #[.pointer (some ⟨x_2b, x_2o, none⟩), .pointer (some ⟨e_3b, e_3o, none⟩)] (out x_2b x_2o e_3b e_3o R))) (upd (upd (upd (upd ρ 3 (.pointer (some ⟨e_3b, e_3o, none⟩))) 2 (.pointer (some ⟨x_2b, x_2o, none⟩))) 0 (.string s_0)) 6 (.func (.func 29) #[] #[.pointer (some ⟨x_2b, x_2o, none⟩), .pointer (some ⟨e_3b, e_3o, none⟩)])) m = restP P od fn (sR (sR (body))) 29 ((#[.tmp 2, .tmp 3] : Array Operand).map (evr (upd (upd (upd ρ 3 (.pointer (some ⟨e_3b, e_3o, none⟩))) 2 (.pointer (some ⟨x_2b, x_2o, none⟩))) 0 (.string s_0)))) R (upd (upd (upd (upd ρ 3 (.pointer (some ⟨e_3b, e_3o, none⟩))) 2 (.pointer (some ⟨x_2b, x_2o, none⟩))) 0 (.string s_0)) 6 (.func (.func 29) #[] ((#[.tmp 2, .tmp 3] : Array Operand).map (evr (upd (upd (upd ρ 3 (.pointer (some ⟨e_3b, e_3o, none⟩))) 2 (.pointer (some ⟨x_2b, x_2o, none⟩))) 0 (.string s_0)))))) m := by kernel_rfl
theorem ok (s_0 : ByteArray) (R : Ending → Mem → Prop) (m : Mem) (h : p0 s_0 R (fun s_0 x_2b x_2o e_3b e_3o m => rest0 s_0 x_2b x_2o e_3b e_3o R m) m) : HC P id #[.string s_0] m R := by
  have h := Eq.mp (p0_eq s_0 R (fun s_0 x_2b x_2o e_3b e_3o m => rest0 s_0 x_2b x_2o e_3b e_3o R m) m) h
  refine HC_of_DW (fn := fn) (c := (.seq (sL (body)) (.seq (.region 1 #[⟨some 6, .makeFunc (.func 29) #[] #[.tmp 2, .tmp 3], 1, "regex.go:91", #[], none⟩, ⟨none, .defer ⟨.value (.tmp 6), #[], #[]⟩, 0, "regex.go:91", #[⟨0, .data⟩], none⟩] false) (sR (sR (body)))))) Go.Proofs.Tryd.func14 (by kernel_rfl) (by kernel_rfl) (of_decide_eq_true (by kernel_rfl)) ?_
  refine DW_seq (tb := tb) (od := od) follows (by kernel_rfl) ?_
  refine cpt_mono (P := P) (sL (body)) (Q := aheadQ P fn R (k1E (fun s_0 x_2b x_2o e_3b e_3o m => rest0 s_0 x_2b x_2o e_3b e_3o R m))) (fun e ρ m h => ?_) _ _ h
  cases e with
  | normal =>
    have h : k1E (fun s_0 x_2b x_2o e_3b e_3o m => rest0 s_0 x_2b x_2o e_3b e_3o R m) ρ m := h
    unfold k1E at h
    obtain ⟨s_0, e0, h⟩ := h.ex
    obtain ⟨x_2b, x_2o, e2, h⟩ := h.ex
    obtain ⟨e_3b, e_3o, e3, h⟩ := h.ex
    rw [← upd_self e0, ← upd_self e2, ← upd_self e3]
    refine DW_defer (tb := tb) (od := od) (gn := Go.Proofs.Tryd.f29) (lo := 4) Go.Proofs.Tryd.func29 (by kernel_rfl) (by kernel_rfl) follows cok (by kernel_rfl) (by kernel_rfl) ?_
    exact Eq.mp (rest_eq2 s_0 x_2b x_2o e_3b e_3o R ρ m) (rest_ok s_0 x_2b x_2o e_3b e_3o R ρ m h)
  | _ => exact h
end regex_Parse
/-! ### eyot/eyotref8.SameRx -/
namespace eyotref8_SameRx
noncomputable def fn : Func := Go.Proofs.Tryd.f16
noncomputable def body : Code := fn.body.getD .skip
def od : Nat → Ord := fun | 6 => ordL [(0, 3), (1, 1), (2, 3), (3, 3), (4, 1), (5, 3), (6, 1), (7, 3), (8, 3), (9, 0), (10, 2), (11, 3)] .done | _ => .done
def tb : Nat → Tab := fun | 6 => (1024, [0, 1, 0, 7, 15, 0, 32, 0, 224, 480, 1023, 2047], [(0, 4, 35), (1, 17179869184, 36), (0, 32, 37), (6, 103079215104, 38), (8, 137438953472, 39), (0, 8, 40), (32, 549755813888, 41), (0, 32, 42), (192, 3298534883328, 43), (256, 4398046511104, 44), (528, 9070970929152, 45), (1024, 17592186044416, 46)]) | _ => (0, [], [])
def l1E (K : Nat → Nat → Nat → Nat → Int → Mem → Prop) : Env → Mem → Prop := fun ρ m => UnPA (ρ 2) fun a_2b a_2o => UnPA (ρ 3) fun b_3b b_3o => UnI (ρ 5) .i64 fun i_5 => K a_2b a_2o b_3b b_3o i_5 m
def l1B  (K1 : Nat → Nat → Nat → Nat → Int → Mem → Prop) (a_2b : Nat) (a_2o : Nat) (b_3b : Nat) (b_3o : Nat) (i_5 : Int) (R : Ending → Mem → Prop) (m : Mem) : Prop :=
 LdV m a_2b (a_2o + 5) fun v =>
 UnS v fun x29a x29l x29c =>
 Br (decide (i_5 < ((x29l : Nat) : Int))) (
  Sub m fun r1 =>
  LdV r1 a_2b (a_2o + 5) fun v =>
  UnS v fun x35a x35l x35c =>
  IxS x35a x35l i_5 6 fun x37b x37o =>
  LdV r1 x37b x37o fun v =>
  UnI v .i64 fun x38_0 =>
  LdV r1 x37b (x37o + 1) fun v =>
  UnI v .u64 fun x38_1 =>
  LdV r1 x37b (x37o + 2) fun v =>
  UnI v .u64 fun x38_2 =>
  LdV r1 x37b (x37o + 3) fun v =>
  UnI v .u64 fun x38_3 =>
  LdV r1 x37b (x37o + 4) fun v =>
  UnI v .u64 fun x38_4 =>
  LdV r1 x37b (x37o + 5) fun v =>
  UnS v fun x38_5a x38_5l x38_5c =>
  LdV r1 b_3b (b_3o + 5) fun v =>
  UnS v fun x40a x40l x40c =>
  IxS x40a x40l i_5 6 fun x42b x42o =>
  LdV m x42b x42o fun v =>
  UnI v .i64 fun x43_0 =>
  LdV m x42b (x42o + 1) fun v =>
  UnI v .u64 fun x43_1 =>
  LdV m x42b (x42o + 2) fun v =>
  UnI v .u64 fun x43_2 =>
  LdV m x42b (x42o + 3) fun v =>
  UnI v .u64 fun x43_3 =>
  LdV m x42b (x42o + 4) fun v =>
  UnI v .u64 fun x43_4 =>
  LdV m x42b (x42o + 5) fun v =>
  UnS v fun x43_5a x43_5l x43_5c =>
  HC P eyotref8_SameRx.id #[.agg #[.int .i64 x38_0, .int .u64 x38_1, .int .u64 x38_2, .int .u64 x38_3, .int .u64 x38_4, .slice x38_5a x38_5l x38_5c], .agg #[.int .i64 x43_0, .int .u64 x43_1, .int .u64 x43_2, .int .u64 x43_3, .int .u64 x43_4, .slice x43_5a x43_5l x43_5c]] m (Cont (fun v m2 =>
    UnB v fun x44 =>
    Br (!x44) (
     R (.returned (.bool false)) m2) (
     K1 a_2b a_2o b_3b b_3o (IntKind.i64.wrap (i_5 + 1)) m2)) (panicR R))) (
  R (.returned (.bool true)) m)
def l1  (a_2b : Nat) (a_2o : Nat) (b_3b : Nat) (b_3o : Nat) (i_5 : Int) (R : Ending → Mem → Prop) (m : Mem) : Prop :=
  ∃ (I : Nat → Nat → Nat → Nat → Nat → Int → Mem → Prop) (N : Nat), I N a_2b a_2o b_3b b_3o i_5 m ∧ ∀ N a_2b a_2o b_3b b_3o i_5 m, I N a_2b a_2o b_3b b_3o i_5 m → l1B  (fun a_2b a_2o b_3b b_3o i_5 m => ∃ N1, N1 < N ∧ I N1 a_2b a_2o b_3b b_3o i_5 m) a_2b a_2o b_3b b_3o i_5 R m
noncomputable def l1A  (K1 : Nat → Nat → Nat → Nat → Int → Mem → Prop) (R : Ending → Mem → Prop) : ACode := (.code (lP (bB (sR (sL (sR (sR (body))))))))
def e0 (a_0_0 : Int) (a_0_1 : Int) (a_0_2 : Int) (a_0_3 : Int) (a_0_4 : Int) (a_0_5a : Option Addr) (a_0_5l : Nat) (a_0_5c : Nat) (b_1_0 : Int) (b_1_1 : Int) (b_1_2 : Int) (b_1_3 : Int) (b_1_4 : Int) (b_1_5a : Option Addr) (b_1_5l : Nat) (b_1_5c : Nat) (R : Ending → Mem → Prop) (m : Mem) : Prop :=
 NewC m #[.int .i64 a_0_0, .int .u64 a_0_1, .int .u64 a_0_2, .int .u64 a_0_3, .int .u64 a_0_4, .slice a_0_5a a_0_5l a_0_5c] T_api_Rx fun b_a_2 m1 =>
 NewC m1 #[.int .i64 b_1_0, .int .u64 b_1_1, .int .u64 b_1_2, .int .u64 b_1_3, .int .u64 b_1_4, .slice b_1_5a b_1_5l b_1_5c] T_api_Rx fun b_3 m2 =>
 LdV m2 b_a_2 0 fun v =>
 UnI v .i64 fun x7 =>
 LdV m2 b_3 0 fun v =>
 UnI v .i64 fun x9 =>
 Br (x7 != x9) (
  R (.returned (.bool false)) m2) (
  LdV m2 b_a_2 1 fun v =>
  UnI v .u64 fun x13_0 =>
  LdV m2 b_a_2 2 fun v =>
  UnI v .u64 fun x13_1 =>
  LdV m2 b_a_2 3 fun v =>
  UnI v .u64 fun x13_2 =>
  LdV m2 b_a_2 4 fun v =>
  UnI v .u64 fun x13_3 =>
  LdV m2 b_3 1 fun v =>
  UnI v .u64 fun x15_0 =>
  LdV m2 b_3 2 fun v =>
  UnI v .u64 fun x15_1 =>
  LdV m2 b_3 3 fun v =>
  UnI v .u64 fun x15_2 =>
  LdV m2 b_3 4 fun v =>
  UnI v .u64 fun x15_3 =>
  Br (!(eqL [.int .u64 x13_0, .int .u64 x13_1, .int .u64 x13_2, .int .u64 x13_3] [.int .u64 x15_0, .int .u64 x15_1, .int .u64 x15_2, .int .u64 x15_3])) (
   R (.returned (.bool false)) m2) (
   LdV m2 b_a_2 5 fun v =>
   UnS v fun x20a x20l x20c =>
   LdV m2 b_3 5 fun v =>
   UnS v fun x23a x23l x23c =>
   Br (((x20l : Nat) : Int) != ((x23l : Nat) : Int)) (
    R (.returned (.bool false)) m2) (
    l1  b_a_2 0 b_3 0 0 R m2)))
noncomputable def e0A (R : Ending → Mem → Prop) : ACode := (.seq (.code (sL (body))) (.seq (.code (sL (sR (body)))) (.seq (.seq (.code (sL (sL (sR (sR (body)))))) (.block 0 (.cut (l1E fun a_2b a_2o b_3b b_3o i_5 m => l1  a_2b a_2o b_3b b_3o i_5 R m) (.loop (lP (bB (sR (sL (sR (sR (body))))))))))) (.code (sR (sR (sR (body))))))))
abbrev l1Q  (R : Ending → Mem → Prop) : Exit → Env → Mem → Prop := (blockQ 0 (thenQ (acpt P od (panicR R) (.code (sR (sR (sR (body))))) (bodyQ P fn R)) (bodyQ P fn R)))
theorem l1_eq  (K1 : Nat → Nat → Nat → Nat → Int → Mem → Prop) (R : Ending → Mem → Prop) (a_2b : Nat) (a_2o : Nat) (b_3b : Nat) (b_3o : Nat) (i_5 : Int) (ρ : Env) (m : Mem) : l1B  K1 a_2b a_2o b_3b b_3o i_5 R m = acpt P od (panicR R) (l1A  K1 R) (thenQ (l1E K1) (l1Q  R)) (upd (upd (upd ρ 5 (.int .i64 i_5)) 3 (.pointer (some ⟨b_3b, b_3o, none⟩))) 2 (.pointer (some ⟨a_2b, a_2o, none⟩))) m := by kernel_rfl
theorem l1_er  (K1 : Nat → Nat → Nat → Nat → Int → Mem → Prop) (R : Ending → Mem → Prop) : (l1A  K1 R).erase = lP (bB (sR (sL (sR (sR (body)))))) := by kernel_rfl
theorem l1_ok  (R : Ending → Mem → Prop) (ρ : Env) (m : Mem) (h : (l1E fun a_2b a_2o b_3b b_3o i_5 m => l1  a_2b a_2o b_3b b_3o i_5 R m) ρ m) : cpt P od (panicR R) (.loop (lP (bB (sR (sL (sR (sR (body)))))))) (l1Q  R) ρ m := by
  unfold l1E at h
  obtain ⟨a_2b, a_2o, e2, h⟩ := h.ex
  obtain ⟨b_3b, b_3o, e3, h⟩ := h.ex
  obtain ⟨i_5, e5, h⟩ := h.ex
  obtain ⟨I, N, h0, hs⟩ := h
  refine ⟨fun N => l1E (I N), N, (by show l1E (I N) ρ m; unfold l1E; rw [e2, e3, e5]; exact h0), ?_⟩
  clear h0 e2 e3 e5
  intro N ρ m h
  unfold l1E at h
  obtain ⟨a_2b, a_2o, e2, h⟩ := h.ex
  obtain ⟨b_3b, b_3o, e3, h⟩ := h.ex
  obtain ⟨i_5, e5, h⟩ := h.ex
  refine cpt_mono (P := P) (lP (bB (sR (sL (sR (sR (body))))))) (Q := thenQ (l1E fun a_2b a_2o b_3b b_3o i_5 m => ∃ N1, N1 < N ∧ I N1 a_2b a_2o b_3b b_3o i_5 m) (l1Q  R)) (fun e ρ m h => ?_) ρ m ?_
  · cases e with
    | normal =>
      have h : l1E (fun a_2b a_2o b_3b b_3o i_5 m => ∃ N1, N1 < N ∧ I N1 a_2b a_2o b_3b b_3o i_5 m) ρ m := h
      unfold l1E at h
      obtain ⟨a_2b, a_2o, e2, h⟩ := h.ex
      obtain ⟨b_3b, b_3o, e3, h⟩ := h.ex
      obtain ⟨i_5, e5, h⟩ := h.ex
      obtain ⟨N1, hlt, h⟩ := h
      exact ⟨N1, hlt, (by show l1E (I N1) ρ m; unfold l1E; rw [e2, e3, e5]; exact h)⟩
    | _ => exact h
  have hh := hs N a_2b a_2o b_3b b_3o i_5 m h
  generalize (fun a_2b a_2o b_3b b_3o i_5 m => ∃ N1, N1 < N ∧ I N1 a_2b a_2o b_3b b_3o i_5 m : Nat → Nat → Nat → Nat → Int → Mem → Prop) = K1 at hh ⊢
  rw [← upd_self e2, ← upd_self e3, ← upd_self e5]
  rw [← l1_er  K1 R]
  refine acpt_sound (P := P) (l1A  K1 R) _ _ _ True.intro ?_
  exact Eq.mp (l1_eq  K1 R a_2b a_2o b_3b b_3o i_5 ρ m) hh
theorem e0_eq (a_0_0 : Int) (a_0_1 : Int) (a_0_2 : Int) (a_0_3 : Int) (a_0_4 : Int) (a_0_5a : Option Addr) (a_0_5l : Nat) (a_0_5c : Nat) (b_1_0 : Int) (b_1_1 : Int) (b_1_2 : Int) (b_1_3 : Int) (b_1_4 : Int) (b_1_5a : Option Addr) (b_1_5l : Nat) (b_1_5c : Nat) (R : Ending → Mem → Prop) (m : Mem) : e0 a_0_0 a_0_1 a_0_2 a_0_3 a_0_4 a_0_5a a_0_5l a_0_5c b_1_0 b_1_1 b_1_2 b_1_3 b_1_4 b_1_5a b_1_5l b_1_5c R m = acpt P od (panicR R) (e0A R) (bodyQ P fn R) (argE (#[.agg #[.int .i64 a_0_0, .int .u64 a_0_1, .int .u64 a_0_2, .int .u64 a_0_3, .int .u64 a_0_4, .slice a_0_5a a_0_5l a_0_5c], .agg #[.int .i64 b_1_0, .int .u64 b_1_1, .int .u64 b_1_2, .int .u64 b_1_3, .int .u64 b_1_4, .slice b_1_5a b_1_5l b_1_5c]] : Array Value).toList) m := by kernel_rfl
theorem ok (a_0_0 : Int) (a_0_1 : Int) (a_0_2 : Int) (a_0_3 : Int) (a_0_4 : Int) (a_0_5a : Option Addr) (a_0_5l : Nat) (a_0_5c : Nat) (b_1_0 : Int) (b_1_1 : Int) (b_1_2 : Int) (b_1_3 : Int) (b_1_4 : Int) (b_1_5a : Option Addr) (b_1_5l : Nat) (b_1_5c : Nat) (R : Ending → Mem → Prop) (m : Mem) (h : e0 a_0_0 a_0_1 a_0_2 a_0_3 a_0_4 a_0_5a a_0_5l a_0_5c b_1_0 b_1_1 b_1_2 b_1_3 b_1_4 b_1_5a b_1_5l b_1_5c R m) : HC P id #[.agg #[.int .i64 a_0_0, .int .u64 a_0_1, .int .u64 a_0_2, .int .u64 a_0_3, .int .u64 a_0_4, .slice a_0_5a a_0_5l a_0_5c], .agg #[.int .i64 b_1_0, .int .u64 b_1_1, .int .u64 b_1_2, .int .u64 b_1_3, .int .u64 b_1_4, .slice b_1_5a b_1_5l b_1_5c]] m R := by
  refine HC_of (fn := fn) (c := body) (od := od) (tb := tb) Go.Proofs.Tryd.func16 (by kernel_rfl) (by kernel_rfl) follows (by kernel_rfl) (of_decide_eq_true (by kernel_rfl)) ?_
  have he : (e0A R).erase = body := by kernel_rfl
  rw [← he]
  refine acpt_sound (P := P) (e0A R) _ _ _ ⟨⟨⟨True.intro, ⟨(fun ρ m h => l1_ok  R ρ m h), True.intro⟩⟩, True.intro⟩, True.intro⟩ ?_
  exact Eq.mp (e0_eq a_0_0 a_0_1 a_0_2 a_0_3 a_0_4 a_0_5a a_0_5l a_0_5c b_1_0 b_1_1 b_1_2 b_1_3 b_1_4 b_1_5a b_1_5l b_1_5c R m) h
end eyotref8_SameRx
/-! ### eyot/regex.May -/
namespace regex_May
noncomputable def fn : Func := Go.Proofs.Tryd.f18
noncomputable def body : Code := fn.body.getD .skip
def od : Nat → Ord := fun _ => .done
def tb : Nat → Tab := fun _ => (0, [], [])
def e0 (r_0_0 : Int) (r_0_1 : Int) (r_0_2 : Int) (r_0_3 : Int) (r_0_4 : Int) (r_0_5a : Option Addr) (r_0_5l : Nat) (r_0_5c : Nat) (R : Ending → Mem → Prop) (m : Mem) : Prop :=
 NewC m #[.int .i64 r_0_0, .int .u64 r_0_1, .int .u64 r_0_2, .int .u64 r_0_3, .int .u64 r_0_4, .slice r_0_5a r_0_5l r_0_5c] T_api_Rx fun b_r_1 m1 =>
 LdV m1 b_r_1 0 fun v =>
 UnI v .i64 fun x5_0 =>
 LdV m1 b_r_1 1 fun v =>
 UnI v .u64 fun x5_1 =>
 LdV m1 b_r_1 2 fun v =>
 UnI v .u64 fun x5_2 =>
 LdV m1 b_r_1 3 fun v =>
 UnI v .u64 fun x5_3 =>
 LdV m1 b_r_1 4 fun v =>
 UnI v .u64 fun x5_4 =>
 LdV m1 b_r_1 5 fun v =>
 UnS v fun x5_5a x5_5l x5_5c =>
 HC P regex_formed.id #[.agg #[.int .i64 x5_0, .int .u64 x5_1, .int .u64 x5_2, .int .u64 x5_3, .int .u64 x5_4, .slice x5_5a x5_5l x5_5c]] m1 (Cont (fun v m2 =>
   UnB v fun x6 =>
   Br (!x6) (
    R (.returned (.int .i64 2)) m2) (
    LdV m2 b_r_1 0 fun v =>
    UnI v .i64 fun x9_0 =>
    LdV m2 b_r_1 1 fun v =>
    UnI v .u64 fun x9_1 =>
    LdV m2 b_r_1 2 fun v =>
    UnI v .u64 fun x9_2 =>
    LdV m2 b_r_1 3 fun v =>
    UnI v .u64 fun x9_3 =>
    LdV m2 b_r_1 4 fun v =>
    UnI v .u64 fun x9_4 =>
    LdV m2 b_r_1 5 fun v =>
    UnS v fun x9_5a x9_5l x9_5c =>
    HC P regex_size.id #[.agg #[.int .i64 x9_0, .int .u64 x9_1, .int .u64 x9_2, .int .u64 x9_3, .int .u64 x9_4, .slice x9_5a x9_5l x9_5c]] m2 (Cont (fun v m3 =>
      UnTup v fun us0 =>
      UnCons us0 fun w us1 =>
      UnI w .i64 fun x10_0 =>
      UnCons us1 fun w us2 =>
      UnI w .i64 fun x10_1 =>
      UnNil us2 (
       Br (decide (x10_0 > 40)) (
        R (.returned (.int .i64 6)) m3) (
        Br (decide (x10_1 > 12)) (
        R (.returned (.int .i64 6)) m3) (
        R (.returned (.int .i64 0)) m3)))) (panicR R)))) (panicR R))
noncomputable def e0A (R : Ending → Mem → Prop) : ACode := (.code (body))
theorem e0_eq (r_0_0 : Int) (r_0_1 : Int) (r_0_2 : Int) (r_0_3 : Int) (r_0_4 : Int) (r_0_5a : Option Addr) (r_0_5l : Nat) (r_0_5c : Nat) (R : Ending → Mem → Prop) (m : Mem) : e0 r_0_0 r_0_1 r_0_2 r_0_3 r_0_4 r_0_5a r_0_5l r_0_5c R m = acpt P od (panicR R) (e0A R) (bodyQ P fn R) (argE (#[.agg #[.int .i64 r_0_0, .int .u64 r_0_1, .int .u64 r_0_2, .int .u64 r_0_3, .int .u64 r_0_4, .slice r_0_5a r_0_5l r_0_5c]] : Array Value).toList) m := by kernel_rfl
theorem ok (r_0_0 : Int) (r_0_1 : Int) (r_0_2 : Int) (r_0_3 : Int) (r_0_4 : Int) (r_0_5a : Option Addr) (r_0_5l : Nat) (r_0_5c : Nat) (R : Ending → Mem → Prop) (m : Mem) (h : e0 r_0_0 r_0_1 r_0_2 r_0_3 r_0_4 r_0_5a r_0_5l r_0_5c R m) : HC P id #[.agg #[.int .i64 r_0_0, .int .u64 r_0_1, .int .u64 r_0_2, .int .u64 r_0_3, .int .u64 r_0_4, .slice r_0_5a r_0_5l r_0_5c]] m R := by
  refine HC_of (fn := fn) (c := body) (od := od) (tb := tb) Go.Proofs.Tryd.func18 (by kernel_rfl) (by kernel_rfl) follows (by kernel_rfl) (of_decide_eq_true (by kernel_rfl)) ?_
  have he : (e0A R).erase = body := by kernel_rfl
  rw [← he]
  refine acpt_sound (P := P) (e0A R) _ _ _ True.intro ?_
  exact Eq.mp (e0_eq r_0_0 r_0_1 r_0_2 r_0_3 r_0_4 r_0_5a r_0_5l r_0_5c R m) h
end regex_May
/-! ### eyot/eyotref8.May -/
namespace eyotref8_May
noncomputable def fn : Func := Go.Proofs.Tryd.f19
noncomputable def body : Code := fn.body.getD .skip
def od : Nat → Ord := fun _ => .done
def tb : Nat → Tab := fun _ => (0, [], [])
def e0 (r_0_0 : Int) (r_0_1 : Int) (r_0_2 : Int) (r_0_3 : Int) (r_0_4 : Int) (r_0_5a : Option Addr) (r_0_5l : Nat) (r_0_5c : Nat) (R : Ending → Mem → Prop) (m : Mem) : Prop :=
 NewC m #[.int .i64 r_0_0, .int .u64 r_0_1, .int .u64 r_0_2, .int .u64 r_0_3, .int .u64 r_0_4, .slice r_0_5a r_0_5l r_0_5c] T_api_Rx fun b_r_1 m1 =>
 LdV m1 b_r_1 0 fun v =>
 UnI v .i64 fun x3_0 =>
 LdV m1 b_r_1 1 fun v =>
 UnI v .u64 fun x3_1 =>
 LdV m1 b_r_1 2 fun v =>
 UnI v .u64 fun x3_2 =>
 LdV m1 b_r_1 3 fun v =>
 UnI v .u64 fun x3_3 =>
 LdV m1 b_r_1 4 fun v =>
 UnI v .u64 fun x3_4 =>
 LdV m1 b_r_1 5 fun v =>
 UnS v fun x3_5a x3_5l x3_5c =>
 HC P eyotref8_form.id #[.agg #[.int .i64 x3_0, .int .u64 x3_1, .int .u64 x3_2, .int .u64 x3_3, .int .u64 x3_4, .slice x3_5a x3_5l x3_5c]] m1 (Cont (fun v m2 =>
   UnB v fun x4 =>
   Br (!x4) (
    R (.returned (.int .i64 2)) m2) (
    LdV m2 b_r_1 0 fun v =>
    UnI v .i64 fun x6_0 =>
    LdV m2 b_r_1 1 fun v =>
    UnI v .u64 fun x6_1 =>
    LdV m2 b_r_1 2 fun v =>
    UnI v .u64 fun x6_2 =>
    LdV m2 b_r_1 3 fun v =>
    UnI v .u64 fun x6_3 =>
    LdV m2 b_r_1 4 fun v =>
    UnI v .u64 fun x6_4 =>
    LdV m2 b_r_1 5 fun v =>
    UnS v fun x6_5a x6_5l x6_5c =>
    HC P eyotref8_nodes.id #[.agg #[.int .i64 x6_0, .int .u64 x6_1, .int .u64 x6_2, .int .u64 x6_3, .int .u64 x6_4, .slice x6_5a x6_5l x6_5c]] m2 (Cont (fun v m3 =>
      UnI v .i64 fun x7 =>
      Br (decide (x7 > 40)) (
       R (.returned (.int .i64 6)) m3) (
       LdV m3 b_r_1 0 fun v =>
       UnI v .i64 fun x10_0 =>
       LdV m3 b_r_1 1 fun v =>
       UnI v .u64 fun x10_1 =>
       LdV m3 b_r_1 2 fun v =>
       UnI v .u64 fun x10_2 =>
       LdV m3 b_r_1 3 fun v =>
       UnI v .u64 fun x10_3 =>
       LdV m3 b_r_1 4 fun v =>
       UnI v .u64 fun x10_4 =>
       LdV m3 b_r_1 5 fun v =>
       UnS v fun x10_5a x10_5l x10_5c =>
       HC P eyotref8_depth.id #[.agg #[.int .i64 x10_0, .int .u64 x10_1, .int .u64 x10_2, .int .u64 x10_3, .int .u64 x10_4, .slice x10_5a x10_5l x10_5c]] m3 (Cont (fun v m4 =>
        UnI v .i64 fun x11 =>
        Br (decide (x11 > 12)) (
        R (.returned (.int .i64 6)) m4) (
        R (.returned (.int .i64 0)) m4)) (panicR R)))) (panicR R)))) (panicR R))
noncomputable def e0A (R : Ending → Mem → Prop) : ACode := (.code (body))
theorem e0_eq (r_0_0 : Int) (r_0_1 : Int) (r_0_2 : Int) (r_0_3 : Int) (r_0_4 : Int) (r_0_5a : Option Addr) (r_0_5l : Nat) (r_0_5c : Nat) (R : Ending → Mem → Prop) (m : Mem) : e0 r_0_0 r_0_1 r_0_2 r_0_3 r_0_4 r_0_5a r_0_5l r_0_5c R m = acpt P od (panicR R) (e0A R) (bodyQ P fn R) (argE (#[.agg #[.int .i64 r_0_0, .int .u64 r_0_1, .int .u64 r_0_2, .int .u64 r_0_3, .int .u64 r_0_4, .slice r_0_5a r_0_5l r_0_5c]] : Array Value).toList) m := by kernel_rfl
theorem ok (r_0_0 : Int) (r_0_1 : Int) (r_0_2 : Int) (r_0_3 : Int) (r_0_4 : Int) (r_0_5a : Option Addr) (r_0_5l : Nat) (r_0_5c : Nat) (R : Ending → Mem → Prop) (m : Mem) (h : e0 r_0_0 r_0_1 r_0_2 r_0_3 r_0_4 r_0_5a r_0_5l r_0_5c R m) : HC P id #[.agg #[.int .i64 r_0_0, .int .u64 r_0_1, .int .u64 r_0_2, .int .u64 r_0_3, .int .u64 r_0_4, .slice r_0_5a r_0_5l r_0_5c]] m R := by
  refine HC_of (fn := fn) (c := body) (od := od) (tb := tb) Go.Proofs.Tryd.func19 (by kernel_rfl) (by kernel_rfl) follows (by kernel_rfl) (of_decide_eq_true (by kernel_rfl)) ?_
  have he : (e0A R).erase = body := by kernel_rfl
  rw [← he]
  refine acpt_sound (P := P) (e0A R) _ _ _ True.intro ?_
  exact Eq.mp (e0_eq r_0_0 r_0_1 r_0_2 r_0_3 r_0_4 r_0_5a r_0_5l r_0_5c R m) h
end eyotref8_May
/-! ### eyot/eyotplay.Made -/
namespace eyotplay_Made
noncomputable def fn : Func := Go.Proofs.Tryd.f20
noncomputable def body : Code := fn.body.getD .skip
def od : Nat → Ord := fun _ => .done
def tb : Nat → Tab := fun _ => (0, [], [])
def e0 (l_0a : Option Addr) (l_0l : Nat) (l_0c : Nat) (R : Ending → Mem → Prop) (m : Mem) : Prop :=
 NewC m #[.slice l_0a l_0l l_0c, .int .i64 0] T_eyotplay_Picks fun b5 m1 =>
 R (.returned (.pointer (some ⟨b5, 0, none⟩))) m1
noncomputable def e0A (R : Ending → Mem → Prop) : ACode := (.code (body))
theorem e0_eq (l_0a : Option Addr) (l_0l : Nat) (l_0c : Nat) (R : Ending → Mem → Prop) (m : Mem) : e0 l_0a l_0l l_0c R m = acpt P od (panicR R) (e0A R) (bodyQ P fn R) (argE (#[.slice l_0a l_0l l_0c] : Array Value).toList) m := by kernel_rfl
theorem ok (l_0a : Option Addr) (l_0l : Nat) (l_0c : Nat) (R : Ending → Mem → Prop) (m : Mem) (h : e0 l_0a l_0l l_0c R m) : HC P id #[.slice l_0a l_0l l_0c] m R := by
  refine HC_of (fn := fn) (c := body) (od := od) (tb := tb) Go.Proofs.Tryd.func20 (by kernel_rfl) (by kernel_rfl) follows (by kernel_rfl) (of_decide_eq_true (by kernel_rfl)) ?_
  have he : (e0A R).erase = body := by kernel_rfl
  rw [← he]
  refine acpt_sound (P := P) (e0A R) _ _ _ True.intro ?_
  exact Eq.mp (e0_eq l_0a l_0l l_0c R m) h
end eyotplay_Made
end
end Go.E
set_option linter.unusedVariables false
set_option maxRecDepth 100000
namespace Go.E
open Go.H
noncomputable section
/-! ### (*eyot/eyotplay.Picks).Rx -/
namespace eyotplay_Picks_Rx
noncomputable def fn : Func := Go.Proofs.Tryd.f21
noncomputable def body : Code := fn.body.getD .skip
def od : Nat → Ord := fun _ => .done
def tb : Nat → Tab := fun _ => (0, [], [])
def k5E (K : Option Addr → Int → Nat → Nat → Int → Int → Nat → Nat → Int → Nat → Nat → Mem → Prop) : Env → Mem → Prop := fun ρ m => UnP (ρ 0) fun x0 => UnI (ρ 1) .i64 fun x1 => UnPA (ρ 4) fun x4b x4o => UnI (ρ 6) .i64 fun x6 => UnI (ρ 7) .i64 fun x7 => UnPA (ρ 8) fun x8b x8o => UnI (ρ 9) .i64 fun x9 => UnPA (ρ 10) fun x10b x10o => K x0 x1 x4b x4o x6 x7 x8b x8o x9 x10b x10o m
def k5 (K3 : Option Addr → Int → Nat → Nat → Int → Int → Nat → Nat → Int → Mem → Prop) (x0 : Option Addr) (x1 : Int) (x4b : Nat) (x4o : Nat) (x6 : Int) (x7 : Int) (x8b : Nat) (x8o : Nat) (x9 : Int) (x10b : Nat) (x10o : Nat) (R : Ending → Mem → Prop) (m : Mem) : Prop :=
 LdV m x8b (x8o + 5) fun v =>
 UnS v fun x59a x59l x59c =>
 LdV m x10b x10o fun v =>
 UnI v .i64 fun x60_0 =>
 LdV m x10b (x10o + 1) fun v =>
 UnI v .u64 fun x60_1 =>
 LdV m x10b (x10o + 2) fun v =>
 UnI v .u64 fun x60_2 =>
 LdV m x10b (x10o + 3) fun v =>
 UnI v .u64 fun x60_3 =>
 LdV m x10b (x10o + 4) fun v =>
 UnI v .u64 fun x60_4 =>
 LdV m x10b (x10o + 5) fun v =>
 UnS v fun x60_5a x60_5l x60_5c =>
 NewC m #[.int .i64 x60_0, .int .u64 x60_1, .int .u64 x60_2, .int .u64 x60_3, .int .u64 x60_4, .slice x60_5a x60_5l x60_5c] T_api_Rx fun b61 m1 =>
 BiN P .append #[T_sl_api_Rx, T_sl_api_Rx] T_sl_api_Rx #[false, false] #[.slice x59a x59l x59c, .slice (some ⟨b61, 0, none⟩) 1 1] m1 (fun w m2 =>
  UnS w fun x62a x62l x62c =>
  St1 m2 x8b (x8o + 5) (.slice x62a x62l x62c) fun m3 =>
  K3 x0 x1 x4b x4o x6 x7 x8b x8o (IntKind.i64.wrap (x9 + 1)) m3) (panicR R)
noncomputable def k5A (K3 : Option Addr → Int → Nat → Nat → Int → Int → Nat → Nat → Int → Mem → Prop) (R : Ending → Mem → Prop) : ACode := (.code (sR (sR (bB (sL (sR (lP (bB (sR (sL (sR (sR (sR (sR (sR (sR (sR (body))))))))))))))))))
def k4E (K : Option Addr → Int → Nat → Nat → Int → Int → Nat → Nat → Int → Nat → Nat → Bool → Mem → Prop) : Env → Mem → Prop := fun ρ m => UnP (ρ 0) fun x0 => UnI (ρ 1) .i64 fun x1 => UnPA (ρ 4) fun x4b x4o => UnI (ρ 6) .i64 fun x6 => UnI (ρ 7) .i64 fun x7 => UnPA (ρ 8) fun x8b x8o => UnI (ρ 9) .i64 fun x9 => UnPA (ρ 10) fun x10b x10o => UnB (ρ 54) fun x54 => K x0 x1 x4b x4o x6 x7 x8b x8o x9 x10b x10o x54 m
def k4 (K3 : Option Addr → Int → Nat → Nat → Int → Int → Nat → Nat → Int → Mem → Prop) (x0 : Option Addr) (x1 : Int) (x4b : Nat) (x4o : Nat) (x6 : Int) (x7 : Int) (x8b : Nat) (x8o : Nat) (x9 : Int) (x10b : Nat) (x10o : Nat) (x54 : Bool) (R : Ending → Mem → Prop) (m : Mem) : Prop :=
 Br x54 (
  HC P eyotplay_Picks_Set.id #[.pointer x0] m (Cont (fun v m1 =>
    UnAgg v fun l =>
    UnCons l fun v l =>
    UnI v .u64 fun x56_0 =>
    UnCons l fun v l =>
    UnI v .u64 fun x56_1 =>
    UnCons l fun v l =>
    UnI v .u64 fun x56_2 =>
    UnCons l fun v l =>
    UnI v .u64 fun x56_3 =>
    UnNil l (
     St1 m1 x10b x10o (.int .i64 1) fun m2 =>
     St1 m2 x10b (x10o + 1) (.int .u64 x56_0) fun m3 =>
     St1 m3 x10b (x10o + 2) (.int .u64 x56_1) fun m4 =>
     St1 m4 x10b (x10o + 3) (.int .u64 x56_2) fun m5 =>
     St1 m5 x10b (x10o + 4) (.int .u64 x56_3) fun m6 =>
     St1 m6 x10b (x10o + 5) (.slice none 0 0) fun m7 =>
     k5 K3 x0 x1 x4b x4o x6 x7 x8b x8o x9 x10b x10o R m7)) (panicR R))) (
  k5 K3 x0 x1 x4b x4o x6 x7 x8b x8o x9 x10b x10o R m)
noncomputable def k4A (K3 : Option Addr → Int → Nat → Nat → Int → Int → Nat → Nat → Int → Mem → Prop) (R : Ending → Mem → Prop) : ACode := (.code (sR (sL (sR (bB (sL (sR (lP (bB (sR (sL (sR (sR (sR (sR (sR (sR (sR (body)))))))))))))))))))
def l3E (K : Option Addr → Int → Nat → Nat → Int → Int → Nat → Nat → Int → Mem → Prop) : Env → Mem → Prop := fun ρ m => UnP (ρ 0) fun x0 => UnI (ρ 1) .i64 fun x1 => UnPA (ρ 4) fun x4b x4o => UnI (ρ 6) .i64 fun x6 => UnI (ρ 7) .i64 fun x7 => UnPA (ρ 8) fun x8b x8o => UnI (ρ 9) .i64 fun x9 => K x0 x1 x4b x4o x6 x7 x8b x8o x9 m
def l3B  (K3 : Option Addr → Int → Nat → Nat → Int → Int → Nat → Nat → Int → Mem → Prop) (x0 : Option Addr) (x1 : Int) (x4b : Nat) (x4o : Nat) (x6 : Int) (x7 : Int) (x8b : Nat) (x8o : Nat) (x9 : Int) (R : Ending → Mem → Prop) (m : Mem) : Prop :=
 Br (decide (x9 < x7)) (
  HC P eyotplay_Picks_Rx.id #[.pointer x0, .int .i64 (IntKind.i64.wrap (x1 - 1))] m (Cont (fun v m1 =>
    UnAgg v fun l =>
    UnCons l fun v l =>
    UnI v .i64 fun x41_0 =>
    UnCons l fun v l =>
    UnI v .u64 fun x41_1 =>
    UnCons l fun v l =>
    UnI v .u64 fun x41_2 =>
    UnCons l fun v l =>
    UnI v .u64 fun x41_3 =>
    UnCons l fun v l =>
    UnI v .u64 fun x41_4 =>
    UnCons l fun v l =>
    UnS v fun x41_5a x41_5l x41_5c =>
    UnNil l (
     NewC m1 #[.int .i64 0, .int .u64 0, .int .u64 0, .int .u64 0, .int .u64 0, .slice none 0 0] T_api_Rx fun b10 m2 =>
     St1 m2 b10 0 (.int .i64 x41_0) fun m3 =>
     St1 m3 b10 1 (.int .u64 x41_1) fun m4 =>
     St1 m4 b10 2 (.int .u64 x41_2) fun m5 =>
     St1 m5 b10 3 (.int .u64 x41_3) fun m6 =>
     St1 m6 b10 4 (.int .u64 x41_4) fun m7 =>
     St1 m7 b10 5 (.slice x41_5a x41_5l x41_5c) fun m8 =>
     LdV m8 b10 0 fun v =>
     UnI v .i64 fun x43 =>
     Br (x43 == x6) (
      k4 K3 x0 x1 x4b x4o x6 x7 x8b x8o x9 b10 0 true R m8) (
      Br (decide (x6 ≥ 4)) (
       LdV m8 b10 0 fun v =>
       UnI v .i64 fun x51 =>
       k4 K3 x0 x1 x4b x4o x6 x7 x8b x8o x9 b10 0 (decide (x51 ≥ 4)) R m8) (
       k4 K3 x0 x1 x4b x4o x6 x7 x8b x8o x9 b10 0 false R m8)))) (panicR R))) (
  LdV m x8b x8o fun v =>
  UnI v .i64 fun x64_0 =>
  LdV m x8b (x8o + 1) fun v =>
  UnI v .u64 fun x64_1 =>
  LdV m x8b (x8o + 2) fun v =>
  UnI v .u64 fun x64_2 =>
  LdV m x8b (x8o + 3) fun v =>
  UnI v .u64 fun x64_3 =>
  LdV m x8b (x8o + 4) fun v =>
  UnI v .u64 fun x64_4 =>
  LdV m x8b (x8o + 5) fun v =>
  UnS v fun x64_5a x64_5l x64_5c =>
  St1 m x4b x4o (.int .i64 x64_0) fun m1 =>
  St1 m1 x4b (x4o + 1) (.int .u64 x64_1) fun m2 =>
  St1 m2 x4b (x4o + 2) (.int .u64 x64_2) fun m3 =>
  St1 m3 x4b (x4o + 3) (.int .u64 x64_3) fun m4 =>
  St1 m4 x4b (x4o + 4) (.int .u64 x64_4) fun m5 =>
  St1 m5 x4b (x4o + 5) (.slice x64_5a x64_5l x64_5c) fun m6 =>
  LdV m6 x4b x4o fun v =>
  UnI v .i64 fun res0_0 =>
  LdV m6 x4b (x4o + 1) fun v =>
  UnI v .u64 fun res0_1 =>
  LdV m6 x4b (x4o + 2) fun v =>
  UnI v .u64 fun res0_2 =>
  LdV m6 x4b (x4o + 3) fun v =>
  UnI v .u64 fun res0_3 =>
  LdV m6 x4b (x4o + 4) fun v =>
  UnI v .u64 fun res0_4 =>
  LdV m6 x4b (x4o + 5) fun v =>
  UnS v fun res0_5a res0_5l res0_5c =>
  R (.returned (.agg #[.int .i64 res0_0, .int .u64 res0_1, .int .u64 res0_2, .int .u64 res0_3, .int .u64 res0_4, .slice res0_5a res0_5l res0_5c])) m6)
def l3  (x0 : Option Addr) (x1 : Int) (x4b : Nat) (x4o : Nat) (x6 : Int) (x7 : Int) (x8b : Nat) (x8o : Nat) (x9 : Int) (R : Ending → Mem → Prop) (m : Mem) : Prop :=
  ∃ (I : Nat → Option Addr → Int → Nat → Nat → Int → Int → Nat → Nat → Int → Mem → Prop) (N : Nat), I N x0 x1 x4b x4o x6 x7 x8b x8o x9 m ∧ ∀ N x0 x1 x4b x4o x6 x7 x8b x8o x9 m, I N x0 x1 x4b x4o x6 x7 x8b x8o x9 m → l3B  (fun x0 x1 x4b x4o x6 x7 x8b x8o x9 m => ∃ N1, N1 < N ∧ I N1 x0 x1 x4b x4o x6 x7 x8b x8o x9 m) x0 x1 x4b x4o x6 x7 x8b x8o x9 R m
noncomputable def l3A  (K3 : Option Addr → Int → Nat → Nat → Int → Int → Nat → Nat → Int → Mem → Prop) (R : Ending → Mem → Prop) : ACode := (.seq (.code (sL (lP (bB (sR (sL (sR (sR (sR (sR (sR (sR (sR (body)))))))))))))) (.seq (.block 1 (.seq (.code (sL (bB (sL (sR (lP (bB (sR (sL (sR (sR (sR (sR (sR (sR (sR (body))))))))))))))))) (.seq (.seq (.code (sL (sL (sR (bB (sL (sR (lP (bB (sR (sL (sR (sR (sR (sR (sR (sR (sR (body))))))))))))))))))) (.cut (k4E fun x0 x1 x4b x4o x6 x7 x8b x8o x9 x10b x10o x54 m => k4 K3 x0 x1 x4b x4o x6 x7 x8b x8o x9 x10b x10o x54 R m) (sR (sL (sR (bB (sL (sR (lP (bB (sR (sL (sR (sR (sR (sR (sR (sR (sR (body)))))))))))))))))))) (.cut (k5E fun x0 x1 x4b x4o x6 x7 x8b x8o x9 x10b x10o m => k5 K3 x0 x1 x4b x4o x6 x7 x8b x8o x9 x10b x10o R m) (sR (sR (bB (sL (sR (lP (bB (sR (sL (sR (sR (sR (sR (sR (sR (sR (body))))))))))))))))))))) (.code (sR (sR (lP (bB (sR (sL (sR (sR (sR (sR (sR (sR (sR (body)))))))))))))))))
def k2E (K : Option Addr → Int → Nat → Nat → Int → Int → Mem → Prop) : Env → Mem → Prop := fun ρ m => UnP (ρ 0) fun x0 => UnI (ρ 1) .i64 fun x1 => UnPA (ρ 4) fun x4b x4o => UnI (ρ 6) .i64 fun x6 => UnI (ρ 7) .i64 fun x7 => K x0 x1 x4b x4o x6 x7 m
def k2  (x0 : Option Addr) (x1 : Int) (x4b : Nat) (x4o : Nat) (x6 : Int) (x7 : Int) (R : Ending → Mem → Prop) (m : Mem) : Prop :=
 NewC m #[.int .i64 0, .int .u64 0, .int .u64 0, .int .u64 0, .int .u64 0, .slice none 0 0] T_api_Rx fun b8 m1 =>
 St1 m1 b8 0 (.int .i64 x6) fun m2 =>
 St1 m2 b8 1 (.int .u64 0) fun m3 =>
 St1 m3 b8 2 (.int .u64 0) fun m4 =>
 St1 m4 b8 3 (.int .u64 0) fun m5 =>
 St1 m5 b8 4 (.int .u64 0) fun m6 =>
 St1 m6 b8 5 (.slice none 0 0) fun m7 =>
 l3  x0 x1 x4b x4o x6 x7 b8 0 0 R m7
noncomputable def k2A  (R : Ending → Mem → Prop) : ACode := (.seq (.code (sL (sR (sR (sR (sR (sR (sR (body))))))))) (.seq (.seq (.code (sL (sL (sR (sR (sR (sR (sR (sR (sR (body))))))))))) (.block 0 (.cut (l3E fun x0 x1 x4b x4o x6 x7 x8b x8o x9 m => l3  x0 x1 x4b x4o x6 x7 x8b x8o x9 R m) (.loop (lP (bB (sR (sL (sR (sR (sR (sR (sR (sR (sR (body)))))))))))))))) (.code (sR (sR (sR (sR (sR (sR (sR (sR (body))))))))))))
def k1E (K : Option Addr → Int → Nat → Nat → Int → Bool → Mem → Prop) : Env → Mem → Prop := fun ρ m => UnP (ρ 0) fun x0 => UnI (ρ 1) .i64 fun x1 => UnPA (ρ 4) fun x4b x4o => UnI (ρ 5) .i64 fun x5 => UnB (ρ 18) fun x18 => K x0 x1 x4b x4o x5 x18 m
def k1  (x0 : Option Addr) (x1 : Int) (x4b : Nat) (x4o : Nat) (x5 : Int) (x18 : Bool) (R : Ending → Mem → Prop) (m : Mem) : Prop :=
 Br x18 (
  HC P eyotplay_Picks_Set.id #[.pointer x0] m (Cont (fun v m1 =>
    UnAgg v fun l =>
    UnCons l fun v l =>
    UnI v .u64 fun x20_0 =>
    UnCons l fun v l =>
    UnI v .u64 fun x20_1 =>
    UnCons l fun v l =>
    UnI v .u64 fun x20_2 =>
    UnCons l fun v l =>
    UnI v .u64 fun x20_3 =>
    UnNil l (
     St1 m1 x4b x4o (.int .i64 1) fun m2 =>
     St1 m2 x4b (x4o + 1) (.int .u64 x20_0) fun m3 =>
     St1 m3 x4b (x4o + 2) (.int .u64 x20_1) fun m4 =>
     St1 m4 x4b (x4o + 3) (.int .u64 x20_2) fun m5 =>
     St1 m5 x4b (x4o + 4) (.int .u64 x20_3) fun m6 =>
     St1 m6 x4b (x4o + 5) (.slice none 0 0) fun m7 =>
     LdV m7 x4b x4o fun v =>
     UnI v .i64 fun res0_0 =>
     LdV m7 x4b (x4o + 1) fun v =>
     UnI v .u64 fun res0_1 =>
     LdV m7 x4b (x4o + 2) fun v =>
     UnI v .u64 fun res0_2 =>
     LdV m7 x4b (x4o + 3) fun v =>
     UnI v .u64 fun res0_3 =>
     LdV m7 x4b (x4o + 4) fun v =>
     UnI v .u64 fun res0_4 =>
     LdV m7 x4b (x4o + 5) fun v =>
     UnS v fun res0_5a res0_5l res0_5c =>
     R (.returned (.agg #[.int .i64 res0_0, .int .u64 res0_1, .int .u64 res0_2, .int .u64 res0_3, .int .u64 res0_4, .slice res0_5a res0_5l res0_5c])) m7)) (panicR R))) (
  Br (decide ((IntKind.i64.wrap (2 + (Int.tmod (IntKind.i64.wrap (x5 + 1)) 5))) ≤ 3)) (
   HC P eyotplay_Picks_Num.id #[.pointer x0, .int .i64 2] m (Cont (fun v m1 =>
     UnI v .i64 fun x29 =>
     k2  x0 x1 x4b x4o (IntKind.i64.wrap (2 + (Int.tmod (IntKind.i64.wrap (x5 + 1)) 5))) (IntKind.i64.wrap (2 + x29)) R m1) (panicR R))) (
   k2  x0 x1 x4b x4o (IntKind.i64.wrap (2 + (Int.tmod (IntKind.i64.wrap (x5 + 1)) 5))) 1 R m))
noncomputable def k1A  (R : Ending → Mem → Prop) : ACode := (.code (sR (sL (sR (sR (body))))))
def e0 (a0 : Option Addr) (a1 : Int) (R : Ending → Mem → Prop) (m : Mem) : Prop :=
 NewC m #[.int .i64 0, .int .u64 0, .int .u64 0, .int .u64 0, .int .u64 0, .slice none 0 0] T_api_Rx fun b4 m1 =>
 HC P eyotplay_Picks_Num.id #[.pointer a0, .int .i64 9] m1 (Cont (fun v m2 =>
   UnI v .i64 fun x12 =>
   Br (decide (a1 ≤ 0)) (
    k1  a0 a1 b4 0 x12 true R m2) (
    k1  a0 a1 b4 0 x12 (decide (x12 < 4)) R m2)) (panicR R))
noncomputable def e0A (R : Ending → Mem → Prop) : ACode := (.seq (.code (sL (body))) (.seq (.code (sL (sR (body)))) (.seq (.seq (.code (sL (sL (sR (sR (body)))))) (.cut (k1E fun x0 x1 x4b x4o x5 x18 m => k1  x0 x1 x4b x4o x5 x18 R m) (sR (sL (sR (sR (body))))))) (.seq (.code (sL (sR (sR (sR (body)))))) (.seq (.code (sL (sR (sR (sR (sR (body))))))) (.seq (.code (sL (sR (sR (sR (sR (sR (body)))))))) (.cut (k2E fun x0 x1 x4b x4o x6 x7 m => k2  x0 x1 x4b x4o x6 x7 R m) (sR (sR (sR (sR (sR (sR (body))))))))))))))
abbrev k1Q  (R : Ending → Mem → Prop) : Exit → Env → Mem → Prop := (thenQ (acpt P od (panicR R) (.seq (.code (sL (sR (sR (sR (body)))))) (.seq (.code (sL (sR (sR (sR (sR (body))))))) (.seq (.code (sL (sR (sR (sR (sR (sR (body)))))))) (.cut (k2E fun x0 x1 x4b x4o x6 x7 m => k2  x0 x1 x4b x4o x6 x7 R m) (sR (sR (sR (sR (sR (sR (body))))))))))) (bodyQ P fn R)) (bodyQ P fn R))
abbrev k2Q  (R : Ending → Mem → Prop) : Exit → Env → Mem → Prop := (bodyQ P fn R)
abbrev l3Q  (R : Ending → Mem → Prop) : Exit → Env → Mem → Prop := (blockQ 0 (thenQ (acpt P od (panicR R) (.code (sR (sR (sR (sR (sR (sR (sR (sR (body)))))))))) (k2Q  R)) (k2Q  R)))
abbrev k5Q (K3 : Option Addr → Int → Nat → Nat → Int → Int → Nat → Nat → Int → Mem → Prop) (R : Ending → Mem → Prop) : Exit → Env → Mem → Prop := (blockQ 1 (thenQ (acpt P od (panicR R) (.code (sR (sR (lP (bB (sR (sL (sR (sR (sR (sR (sR (sR (sR (body))))))))))))))) (thenQ (l3E K3) (l3Q  R))) (thenQ (l3E K3) (l3Q  R))))
abbrev k4Q (K3 : Option Addr → Int → Nat → Nat → Int → Int → Nat → Nat → Int → Mem → Prop) (R : Ending → Mem → Prop) : Exit → Env → Mem → Prop := (thenQ (acpt P od (panicR R) (.cut (k5E fun x0 x1 x4b x4o x6 x7 x8b x8o x9 x10b x10o m => k5 K3 x0 x1 x4b x4o x6 x7 x8b x8o x9 x10b x10o R m) (sR (sR (bB (sL (sR (lP (bB (sR (sL (sR (sR (sR (sR (sR (sR (sR (body)))))))))))))))))) (blockQ 1 (thenQ (acpt P od (panicR R) (.code (sR (sR (lP (bB (sR (sL (sR (sR (sR (sR (sR (sR (sR (body))))))))))))))) (thenQ (l3E K3) (l3Q  R))) (thenQ (l3E K3) (l3Q  R))))) (blockQ 1 (thenQ (acpt P od (panicR R) (.code (sR (sR (lP (bB (sR (sL (sR (sR (sR (sR (sR (sR (sR (body))))))))))))))) (thenQ (l3E K3) (l3Q  R))) (thenQ (l3E K3) (l3Q  R)))))
theorem k5_eq (K3 : Option Addr → Int → Nat → Nat → Int → Int → Nat → Nat → Int → Mem → Prop) (R : Ending → Mem → Prop) (x0 : Option Addr) (x1 : Int) (x4b : Nat) (x4o : Nat) (x6 : Int) (x7 : Int) (x8b : Nat) (x8o : Nat) (x9 : Int) (x10b : Nat) (x10o : Nat) (ρ : Env) (m : Mem) : k5 K3 x0 x1 x4b x4o x6 x7 x8b x8o x9 x10b x10o R m = acpt P od (panicR R) (k5A K3 R) (k5Q K3 R) (upd (upd (upd (upd (upd (upd (upd (upd ρ 10 (.pointer (some ⟨x10b, x10o, none⟩))) 9 (.int .i64 x9)) 8 (.pointer (some ⟨x8b, x8o, none⟩))) 7 (.int .i64 x7)) 6 (.int .i64 x6)) 4 (.pointer (some ⟨x4b, x4o, none⟩))) 1 (.int .i64 x1)) 0 (.pointer x0)) m := by kernel_rfl
theorem k5_er (K3 : Option Addr → Int → Nat → Nat → Int → Int → Nat → Nat → Int → Mem → Prop) (R : Ending → Mem → Prop) : (k5A K3 R).erase = sR (sR (bB (sL (sR (lP (bB (sR (sL (sR (sR (sR (sR (sR (sR (sR (body)))))))))))))))) := by kernel_rfl
theorem k5_ok (K3 : Option Addr → Int → Nat → Nat → Int → Int → Nat → Nat → Int → Mem → Prop) (R : Ending → Mem → Prop) (ρ : Env) (m : Mem) (h : (k5E fun x0 x1 x4b x4o x6 x7 x8b x8o x9 x10b x10o m => k5 K3 x0 x1 x4b x4o x6 x7 x8b x8o x9 x10b x10o R m) ρ m) : cpt P od (panicR R) (sR (sR (bB (sL (sR (lP (bB (sR (sL (sR (sR (sR (sR (sR (sR (sR (body))))))))))))))))) (k5Q K3 R) ρ m := by
  unfold k5E at h
  obtain ⟨x0, e0, h⟩ := h.ex
  obtain ⟨x1, e1, h⟩ := h.ex
  obtain ⟨x4b, x4o, e4, h⟩ := h.ex
  obtain ⟨x6, e6, h⟩ := h.ex
  obtain ⟨x7, e7, h⟩ := h.ex
  obtain ⟨x8b, x8o, e8, h⟩ := h.ex
  obtain ⟨x9, e9, h⟩ := h.ex
  obtain ⟨x10b, x10o, e10, h⟩ := h.ex
  rw [← upd_self e0, ← upd_self e1, ← upd_self e4, ← upd_self e6, ← upd_self e7, ← upd_self e8, ← upd_self e9, ← upd_self e10]
  rw [← k5_er K3 R]
  refine acpt_sound (P := P) (k5A K3 R) _ _ _ True.intro ?_
  exact Eq.mp (k5_eq K3 R x0 x1 x4b x4o x6 x7 x8b x8o x9 x10b x10o ρ m) h
theorem k4_eq (K3 : Option Addr → Int → Nat → Nat → Int → Int → Nat → Nat → Int → Mem → Prop) (R : Ending → Mem → Prop) (x0 : Option Addr) (x1 : Int) (x4b : Nat) (x4o : Nat) (x6 : Int) (x7 : Int) (x8b : Nat) (x8o : Nat) (x9 : Int) (x10b : Nat) (x10o : Nat) (x54 : Bool) (ρ : Env) (m : Mem) : k4 K3 x0 x1 x4b x4o x6 x7 x8b x8o x9 x10b x10o x54 R m = acpt P od (panicR R) (k4A K3 R) (k4Q K3 R) (upd (upd (upd (upd (upd (upd (upd (upd (upd ρ 54 (.bool x54)) 10 (.pointer (some ⟨x10b, x10o, none⟩))) 9 (.int .i64 x9)) 8 (.pointer (some ⟨x8b, x8o, none⟩))) 7 (.int .i64 x7)) 6 (.int .i64 x6)) 4 (.pointer (some ⟨x4b, x4o, none⟩))) 1 (.int .i64 x1)) 0 (.pointer x0)) m := by kernel_rfl
theorem k4_er (K3 : Option Addr → Int → Nat → Nat → Int → Int → Nat → Nat → Int → Mem → Prop) (R : Ending → Mem → Prop) : (k4A K3 R).erase = sR (sL (sR (bB (sL (sR (lP (bB (sR (sL (sR (sR (sR (sR (sR (sR (sR (body))))))))))))))))) := by kernel_rfl
theorem k4_ok (K3 : Option Addr → Int → Nat → Nat → Int → Int → Nat → Nat → Int → Mem → Prop) (R : Ending → Mem → Prop) (ρ : Env) (m : Mem) (h : (k4E fun x0 x1 x4b x4o x6 x7 x8b x8o x9 x10b x10o x54 m => k4 K3 x0 x1 x4b x4o x6 x7 x8b x8o x9 x10b x10o x54 R m) ρ m) : cpt P od (panicR R) (sR (sL (sR (bB (sL (sR (lP (bB (sR (sL (sR (sR (sR (sR (sR (sR (sR (body)))))))))))))))))) (k4Q K3 R) ρ m := by
  unfold k4E at h
  obtain ⟨x0, e0, h⟩ := h.ex
  obtain ⟨x1, e1, h⟩ := h.ex
  obtain ⟨x4b, x4o, e4, h⟩ := h.ex
  obtain ⟨x6, e6, h⟩ := h.ex
  obtain ⟨x7, e7, h⟩ := h.ex
  obtain ⟨x8b, x8o, e8, h⟩ := h.ex
  obtain ⟨x9, e9, h⟩ := h.ex
  obtain ⟨x10b, x10o, e10, h⟩ := h.ex
  obtain ⟨x54, e54, h⟩ := h.ex
  rw [← upd_self e0, ← upd_self e1, ← upd_self e4, ← upd_self e6, ← upd_self e7, ← upd_self e8, ← upd_self e9, ← upd_self e10, ← upd_self e54]
  rw [← k4_er K3 R]
  refine acpt_sound (P := P) (k4A K3 R) _ _ _ True.intro ?_
  exact Eq.mp (k4_eq K3 R x0 x1 x4b x4o x6 x7 x8b x8o x9 x10b x10o x54 ρ m) h
theorem l3_eq  (K3 : Option Addr → Int → Nat → Nat → Int → Int → Nat → Nat → Int → Mem → Prop) (R : Ending → Mem → Prop) (x0 : Option Addr) (x1 : Int) (x4b : Nat) (x4o : Nat) (x6 : Int) (x7 : Int) (x8b : Nat) (x8o : Nat) (x9 : Int) (ρ : Env) (m : Mem) : l3B  K3 x0 x1 x4b x4o x6 x7 x8b x8o x9 R m = acpt P od (panicR R) (l3A  K3 R) (thenQ (l3E K3) (l3Q  R)) (upd (upd (upd (upd (upd (upd (upd ρ 9 (.int .i64 x9)) 8 (.pointer (some ⟨x8b, x8o, none⟩))) 7 (.int .i64 x7)) 6 (.int .i64 x6)) 4 (.pointer (some ⟨x4b, x4o, none⟩))) 1 (.int .i64 x1)) 0 (.pointer x0)) m := by kernel_rfl
theorem l3_er  (K3 : Option Addr → Int → Nat → Nat → Int → Int → Nat → Nat → Int → Mem → Prop) (R : Ending → Mem → Prop) : (l3A  K3 R).erase = lP (bB (sR (sL (sR (sR (sR (sR (sR (sR (sR (body))))))))))) := by kernel_rfl
theorem l3_ok  (R : Ending → Mem → Prop) (ρ : Env) (m : Mem) (h : (l3E fun x0 x1 x4b x4o x6 x7 x8b x8o x9 m => l3  x0 x1 x4b x4o x6 x7 x8b x8o x9 R m) ρ m) : cpt P od (panicR R) (.loop (lP (bB (sR (sL (sR (sR (sR (sR (sR (sR (sR (body))))))))))))) (l3Q  R) ρ m := by
  unfold l3E at h
  obtain ⟨x0, e0, h⟩ := h.ex
  obtain ⟨x1, e1, h⟩ := h.ex
  obtain ⟨x4b, x4o, e4, h⟩ := h.ex
  obtain ⟨x6, e6, h⟩ := h.ex
  obtain ⟨x7, e7, h⟩ := h.ex
  obtain ⟨x8b, x8o, e8, h⟩ := h.ex
  obtain ⟨x9, e9, h⟩ := h.ex
  obtain ⟨I, N, h0, hs⟩ := h
  refine ⟨fun N => l3E (I N), N, (by show l3E (I N) ρ m; unfold l3E; rw [e0, e1, e4, e6, e7, e8, e9]; exact h0), ?_⟩
  clear h0 e0 e1 e4 e6 e7 e8 e9
  intro N ρ m h
  unfold l3E at h
  obtain ⟨x0, e0, h⟩ := h.ex
  obtain ⟨x1, e1, h⟩ := h.ex
  obtain ⟨x4b, x4o, e4, h⟩ := h.ex
  obtain ⟨x6, e6, h⟩ := h.ex
  obtain ⟨x7, e7, h⟩ := h.ex
  obtain ⟨x8b, x8o, e8, h⟩ := h.ex
  obtain ⟨x9, e9, h⟩ := h.ex
  refine cpt_mono (P := P) (lP (bB (sR (sL (sR (sR (sR (sR (sR (sR (sR (body)))))))))))) (Q := thenQ (l3E fun x0 x1 x4b x4o x6 x7 x8b x8o x9 m => ∃ N1, N1 < N ∧ I N1 x0 x1 x4b x4o x6 x7 x8b x8o x9 m) (l3Q  R)) (fun e ρ m h => ?_) ρ m ?_
  · cases e with
    | normal =>
      have h : l3E (fun x0 x1 x4b x4o x6 x7 x8b x8o x9 m => ∃ N1, N1 < N ∧ I N1 x0 x1 x4b x4o x6 x7 x8b x8o x9 m) ρ m := h
      unfold l3E at h
      obtain ⟨x0, e0, h⟩ := h.ex
      obtain ⟨x1, e1, h⟩ := h.ex
      obtain ⟨x4b, x4o, e4, h⟩ := h.ex
      obtain ⟨x6, e6, h⟩ := h.ex
      obtain ⟨x7, e7, h⟩ := h.ex
      obtain ⟨x8b, x8o, e8, h⟩ := h.ex
      obtain ⟨x9, e9, h⟩ := h.ex
      obtain ⟨N1, hlt, h⟩ := h
      exact ⟨N1, hlt, (by show l3E (I N1) ρ m; unfold l3E; rw [e0, e1, e4, e6, e7, e8, e9]; exact h)⟩
    | _ => exact h
  have hh := hs N x0 x1 x4b x4o x6 x7 x8b x8o x9 m h
  generalize (fun x0 x1 x4b x4o x6 x7 x8b x8o x9 m => ∃ N1, N1 < N ∧ I N1 x0 x1 x4b x4o x6 x7 x8b x8o x9 m : Option Addr → Int → Nat → Nat → Int → Int → Nat → Nat → Int → Mem → Prop) = K3 at hh ⊢
  rw [← upd_self e0, ← upd_self e1, ← upd_self e4, ← upd_self e6, ← upd_self e7, ← upd_self e8, ← upd_self e9]
  rw [← l3_er  K3 R]
  refine acpt_sound (P := P) (l3A  K3 R) _ _ _ ⟨⟨True.intro, ⟨⟨(fun ρ m h => k5_ok K3 R ρ m h), ⟨(fun ρ m h => k4_ok K3 R ρ m h), True.intro⟩⟩, True.intro⟩⟩, True.intro⟩ ?_
  exact Eq.mp (l3_eq  K3 R x0 x1 x4b x4o x6 x7 x8b x8o x9 ρ m) hh
theorem k2_eq  (R : Ending → Mem → Prop) (x0 : Option Addr) (x1 : Int) (x4b : Nat) (x4o : Nat) (x6 : Int) (x7 : Int) (ρ : Env) (m : Mem) : k2  x0 x1 x4b x4o x6 x7 R m = acpt P od (panicR R) (k2A  R) (k2Q  R) (upd (upd (upd (upd (upd ρ 7 (.int .i64 x7)) 6 (.int .i64 x6)) 4 (.pointer (some ⟨x4b, x4o, none⟩))) 1 (.int .i64 x1)) 0 (.pointer x0)) m := by kernel_rfl
theorem k2_er  (R : Ending → Mem → Prop) : (k2A  R).erase = sR (sR (sR (sR (sR (sR (body)))))) := by kernel_rfl
theorem k2_ok  (R : Ending → Mem → Prop) (ρ : Env) (m : Mem) (h : (k2E fun x0 x1 x4b x4o x6 x7 m => k2  x0 x1 x4b x4o x6 x7 R m) ρ m) : cpt P od (panicR R) (sR (sR (sR (sR (sR (sR (body))))))) (k2Q  R) ρ m := by
  unfold k2E at h
  obtain ⟨x0, e0, h⟩ := h.ex
  obtain ⟨x1, e1, h⟩ := h.ex
  obtain ⟨x4b, x4o, e4, h⟩ := h.ex
  obtain ⟨x6, e6, h⟩ := h.ex
  obtain ⟨x7, e7, h⟩ := h.ex
  rw [← upd_self e0, ← upd_self e1, ← upd_self e4, ← upd_self e6, ← upd_self e7]
  rw [← k2_er  R]
  refine acpt_sound (P := P) (k2A  R) _ _ _ ⟨⟨True.intro, ⟨(fun ρ m h => l3_ok  R ρ m h), True.intro⟩⟩, True.intro⟩ ?_
  exact Eq.mp (k2_eq  R x0 x1 x4b x4o x6 x7 ρ m) h
theorem k1_eq  (R : Ending → Mem → Prop) (x0 : Option Addr) (x1 : Int) (x4b : Nat) (x4o : Nat) (x5 : Int) (x18 : Bool) (ρ : Env) (m : Mem) : k1  x0 x1 x4b x4o x5 x18 R m = acpt P od (panicR R) (k1A  R) (k1Q  R) (upd (upd (upd (upd (upd ρ 18 (.bool x18)) 5 (.int .i64 x5)) 4 (.pointer (some ⟨x4b, x4o, none⟩))) 1 (.int .i64 x1)) 0 (.pointer x0)) m := by kernel_rfl
theorem k1_er  (R : Ending → Mem → Prop) : (k1A  R).erase = sR (sL (sR (sR (body)))) := by kernel_rfl
theorem k1_ok  (R : Ending → Mem → Prop) (ρ : Env) (m : Mem) (h : (k1E fun x0 x1 x4b x4o x5 x18 m => k1  x0 x1 x4b x4o x5 x18 R m) ρ m) : cpt P od (panicR R) (sR (sL (sR (sR (body))))) (k1Q  R) ρ m := by
  unfold k1E at h
  obtain ⟨x0, e0, h⟩ := h.ex
  obtain ⟨x1, e1, h⟩ := h.ex
  obtain ⟨x4b, x4o, e4, h⟩ := h.ex
  obtain ⟨x5, e5, h⟩ := h.ex
  obtain ⟨x18, e18, h⟩ := h.ex
  rw [← upd_self e0, ← upd_self e1, ← upd_self e4, ← upd_self e5, ← upd_self e18]
  rw [← k1_er  R]
  refine acpt_sound (P := P) (k1A  R) _ _ _ True.intro ?_
  exact Eq.mp (k1_eq  R x0 x1 x4b x4o x5 x18 ρ m) h
theorem e0_eq (a0 : Option Addr) (a1 : Int) (R : Ending → Mem → Prop) (m : Mem) : e0 a0 a1 R m = acpt P od (panicR R) (e0A R) (bodyQ P fn R) (argE (#[.pointer a0, .int .i64 a1] : Array Value).toList) m := by kernel_rfl
theorem ok (a0 : Option Addr) (a1 : Int) (R : Ending → Mem → Prop) (m : Mem) (h : e0 a0 a1 R m) : HC P id #[.pointer a0, .int .i64 a1] m R := by
  refine HC_of (fn := fn) (c := body) (od := od) (tb := tb) Go.Proofs.Tryd.func21 (by kernel_rfl) (by kernel_rfl) follows (by kernel_rfl) (of_decide_eq_true (by kernel_rfl)) ?_
  have he : (e0A R).erase = body := by kernel_rfl
  rw [← he]
  refine acpt_sound (P := P) (e0A R) _ _ _ ⟨⟨⟨⟨⟨⟨(fun ρ m h => k2_ok  R ρ m h), True.intro⟩, True.intro⟩, True.intro⟩, ⟨(fun ρ m h => k1_ok  R ρ m h), True.intro⟩⟩, True.intro⟩, True.intro⟩ ?_
  exact Eq.mp (e0_eq a0 a1 R m) h
end eyotplay_Picks_Rx
/-! ### eyot/regex.Show -/
namespace regex_Show
noncomputable def fn : Func := Go.Proofs.Tryd.f22
noncomputable def body : Code := fn.body.getD .skip
def od : Nat → Ord := fun | 14 => ordL [(0, 3), (2, 3), (3, 3), (4, 3), (5, 3), (1, 2), (6, 3), (7, 3)] .done | _ => .done
def tb : Nat → Tab := fun | 14 => (2, [0, 1, 0, 0, 8, 28, 63, 127], [(0, 16, 46), (1, 35184372088832, 47), (0, 128, 48), (0, 128, 49), (8, 281474976710656, 50), (20, 703687441776640, 51), (34, 1196268651020288, 52), (127, 2251799813685248, 3)]) | _ => (0, [], [])
def k2E (K : Nat → Nat → Option Addr → Nat → Nat → Mem → Prop) : Env → Mem → Prop := fun ρ m => UnPA (ρ 1) fun r_1b r_1o => UnS (ρ 4) fun l_4a l_4l l_4c => K r_1b r_1o l_4a l_4l l_4c m
def k2  (r_1b : Nat) (r_1o : Nat) (l_4a : Option Addr) (l_4l : Nat) (l_4c : Nat) (R : Ending → Mem → Prop) (m : Mem) : Prop :=
 LdV m r_1b r_1o fun v =>
 UnI v .i64 fun x34 =>
 Br (x34 == 3) (
  HC P strings_Join.id #[.slice l_4a l_4l l_4c, .string (ByteArray.mk #[124])] m (Cont (fun v m1 =>
    UnStr v fun x37 =>
    R (.returned (.string x37)) m1) (panicR R))) (
  LdV m r_1b r_1o fun v =>
  UnI v .i64 fun x40 =>
  HC P regex_sign.id #[.int .i64 x40] m (Cont (fun v m1 =>
    UnB v fun x41 =>
    Br x41 (
     LdV m1 r_1b r_1o fun v =>
     UnI v .i64 fun x43 =>
     Sub m1 fun r2 =>
     SlB (ByteArray.mk #[42, 43, 63]) (IntKind.i64.wrap (x43 - 4)) (IntKind.i64.wrap ((IntKind.i64.wrap (x43 - 4)) + 1)) fun x50 =>
     HC P strings_Join.id #[.slice l_4a l_4l l_4c, .string (ByteArray.mk #[])] m1 (Cont (fun v m3 =>
       UnStr v fun x46 =>
       CatB x46 x50 (
        R (.returned (.string (x46 ++ x50))) m3)) (panicR R))) (
     HC P strings_Join.id #[.slice l_4a l_4l l_4c, .string (ByteArray.mk #[])] m1 (Cont (fun v m2 =>
       UnStr v fun x53 =>
       R (.returned (.string x53)) m2) (panicR R)))) (panicR R)))
noncomputable def k2A  (R : Ending → Mem → Prop) : ACode := (.code (sR (sR (sR (sR (sR (body)))))))
def l1E (K : Nat → Nat → Int → Option Addr → Nat → Nat → Option Addr → Nat → Nat → Int → Int → Mem → Prop) : Env → Mem → Prop := fun ρ m => UnPA (ρ 1) fun r_1b r_1o => UnI (ρ 3) .i64 fun k_3 => UnS (ρ 4) fun l_4a l_4l l_4c => UnS (ρ 19) fun x19a x19l x19c => UnI (ρ 20) .i64 fun x20 => UnI (ρ 21) .i64 fun x21 => K r_1b r_1o k_3 l_4a l_4l l_4c x19a x19l x19c x20 x21 m
def l1B  (K1 : Nat → Nat → Int → Option Addr → Nat → Nat → Option Addr → Nat → Nat → Int → Int → Mem → Prop) (r_1b : Nat) (r_1o : Nat) (k_3 : Int) (l_4a : Option Addr) (l_4l : Nat) (l_4c : Nat) (x19a : Option Addr) (x19l : Nat) (x19c : Nat) (x20 : Int) (x21 : Int) (R : Ending → Mem → Prop) (m : Mem) : Prop :=
 Br (decide (x21 < x20)) (
  IxS x19a x19l x21 6 fun x23b x23o =>
  LdV m x23b x23o fun v =>
  UnI v .i64 fun x24_0 =>
  LdV m x23b (x23o + 1) fun v =>
  UnI v .u64 fun x24_1 =>
  LdV m x23b (x23o + 2) fun v =>
  UnI v .u64 fun x24_2 =>
  LdV m x23b (x23o + 3) fun v =>
  UnI v .u64 fun x24_3 =>
  LdV m x23b (x23o + 4) fun v =>
  UnI v .u64 fun x24_4 =>
  LdV m x23b (x23o + 5) fun v =>
  UnS v fun x24_5a x24_5l x24_5c =>
  NewC m #[.int .i64 0, .int .u64 0, .int .u64 0, .int .u64 0, .int .u64 0, .slice none 0 0] T_api_Rx fun b_x_6 m1 =>
  St1 m1 b_x_6 0 (.int .i64 x24_0) fun m2 =>
  St1 m2 b_x_6 1 (.int .u64 x24_1) fun m3 =>
  St1 m3 b_x_6 2 (.int .u64 x24_2) fun m4 =>
  St1 m4 b_x_6 3 (.int .u64 x24_3) fun m5 =>
  St1 m5 b_x_6 4 (.int .u64 x24_4) fun m6 =>
  St1 m6 b_x_6 5 (.slice x24_5a x24_5l x24_5c) fun m7 =>
  LdV m7 b_x_6 0 fun v =>
  UnI v .i64 fun x26_0 =>
  LdV m7 b_x_6 1 fun v =>
  UnI v .u64 fun x26_1 =>
  LdV m7 b_x_6 2 fun v =>
  UnI v .u64 fun x26_2 =>
  LdV m7 b_x_6 3 fun v =>
  UnI v .u64 fun x26_3 =>
  LdV m7 b_x_6 4 fun v =>
  UnI v .u64 fun x26_4 =>
  LdV m7 b_x_6 5 fun v =>
  UnS v fun x26_5a x26_5l x26_5c =>
  HC P regex_within.id #[.agg #[.int .i64 x26_0, .int .u64 x26_1, .int .u64 x26_2, .int .u64 x26_3, .int .u64 x26_4, .slice x26_5a x26_5l x26_5c], .int .i64 k_3] m7 (Cont (fun v m8 =>
    UnStr v fun x28 =>
    NewC m8 #[.string x28] T_string fun b29 m9 =>
    BiN P .append #[T_sl_string, T_sl_string] T_sl_string #[false, false] #[.slice l_4a l_4l l_4c, .slice (some ⟨b29, 0, none⟩) 1 1] m9 (fun w m10 =>
     UnS w fun x30a x30l x30c =>
     K1 r_1b r_1o k_3 x30a x30l x30c x19a x19l x19c x20 (IntKind.i64.wrap (x21 + 1)) m10) (panicR R)) (panicR R))) (
  k2  r_1b r_1o l_4a l_4l l_4c R m)
def l1  (r_1b : Nat) (r_1o : Nat) (k_3 : Int) (l_4a : Option Addr) (l_4l : Nat) (l_4c : Nat) (x19a : Option Addr) (x19l : Nat) (x19c : Nat) (x20 : Int) (x21 : Int) (R : Ending → Mem → Prop) (m : Mem) : Prop :=
  ∃ (I : Nat → Nat → Nat → Int → Option Addr → Nat → Nat → Option Addr → Nat → Nat → Int → Int → Mem → Prop) (N : Nat), I N r_1b r_1o k_3 l_4a l_4l l_4c x19a x19l x19c x20 x21 m ∧ ∀ N r_1b r_1o k_3 l_4a l_4l l_4c x19a x19l x19c x20 x21 m, I N r_1b r_1o k_3 l_4a l_4l l_4c x19a x19l x19c x20 x21 m → l1B  (fun r_1b r_1o k_3 l_4a l_4l l_4c x19a x19l x19c x20 x21 m => ∃ N1, N1 < N ∧ I N1 r_1b r_1o k_3 l_4a l_4l l_4c x19a x19l x19c x20 x21 m) r_1b r_1o k_3 l_4a l_4l l_4c x19a x19l x19c x20 x21 R m
noncomputable def l1A  (K1 : Nat → Nat → Int → Option Addr → Nat → Nat → Option Addr → Nat → Nat → Int → Int → Mem → Prop) (R : Ending → Mem → Prop) : ACode := (.code (lP (bB (sR (sL (sR (sR (sR (sR (body))))))))))
def e0 (r_0_0 : Int) (r_0_1 : Int) (r_0_2 : Int) (r_0_3 : Int) (r_0_4 : Int) (r_0_5a : Option Addr) (r_0_5l : Nat) (r_0_5c : Nat) (R : Ending → Mem → Prop) (m : Mem) : Prop :=
 NewC m #[.int .i64 r_0_0, .int .u64 r_0_1, .int .u64 r_0_2, .int .u64 r_0_3, .int .u64 r_0_4, .slice r_0_5a r_0_5l r_0_5c] T_api_Rx fun b_r_1 m1 =>
 LdV m1 b_r_1 0 fun v =>
 UnI v .i64 fun x9 =>
 Br (x9 == 1) (
  LdV m1 b_r_1 1 fun v =>
  UnI v .u64 fun x12_0 =>
  LdV m1 b_r_1 2 fun v =>
  UnI v .u64 fun x12_1 =>
  LdV m1 b_r_1 3 fun v =>
  UnI v .u64 fun x12_2 =>
  LdV m1 b_r_1 4 fun v =>
  UnI v .u64 fun x12_3 =>
  HC P class_Show.id #[.agg #[.int .u64 x12_0, .int .u64 x12_1, .int .u64 x12_2, .int .u64 x12_3]] m1 (Cont (fun v m2 =>
    UnStr v fun x13 =>
    R (.returned (.string x13)) m2) (panicR R))) (
  LdV m1 b_r_1 0 fun v =>
  UnI v .i64 fun x15 =>
  HC P regex_rank.id #[.int .i64 x15] m1 (Cont (fun v m2 =>
    UnI v .i64 fun x16 =>
    LdV m2 b_r_1 5 fun v =>
    UnS v fun x19a x19l x19c =>
    l1  b_r_1 0 (IntKind.i64.wrap (x16 + 1)) none 0 0 x19a x19l x19c ((x19l : Nat) : Int) 0 R m2) (panicR R)))
noncomputable def e0A (R : Ending → Mem → Prop) : ACode := (.seq (.code (sL (body))) (.seq (.code (sL (sR (body)))) (.seq (.code (sL (sR (sR (body))))) (.seq (.code (sL (sR (sR (sR (body)))))) (.seq (.seq (.code (sL (sL (sR (sR (sR (sR (body)))))))) (.block 0 (.cut (l1E fun r_1b r_1o k_3 l_4a l_4l l_4c x19a x19l x19c x20 x21 m => l1  r_1b r_1o k_3 l_4a l_4l l_4c x19a x19l x19c x20 x21 R m) (.loop (lP (bB (sR (sL (sR (sR (sR (sR (body))))))))))))) (.cut (k2E fun r_1b r_1o l_4a l_4l l_4c m => k2  r_1b r_1o l_4a l_4l l_4c R m) (sR (sR (sR (sR (sR (body))))))))))))
abbrev k2Q  (R : Ending → Mem → Prop) : Exit → Env → Mem → Prop := (bodyQ P fn R)
abbrev l1Q  (R : Ending → Mem → Prop) : Exit → Env → Mem → Prop := (blockQ 0 (thenQ (acpt P od (panicR R) (.cut (k2E fun r_1b r_1o l_4a l_4l l_4c m => k2  r_1b r_1o l_4a l_4l l_4c R m) (sR (sR (sR (sR (sR (body))))))) (bodyQ P fn R)) (bodyQ P fn R)))
theorem k2_eq  (R : Ending → Mem → Prop) (r_1b : Nat) (r_1o : Nat) (l_4a : Option Addr) (l_4l : Nat) (l_4c : Nat) (ρ : Env) (m : Mem) : k2  r_1b r_1o l_4a l_4l l_4c R m = acpt P od (panicR R) (k2A  R) (k2Q  R) (upd (upd ρ 4 (.slice l_4a l_4l l_4c)) 1 (.pointer (some ⟨r_1b, r_1o, none⟩))) m := by kernel_rfl
theorem k2_er  (R : Ending → Mem → Prop) : (k2A  R).erase = sR (sR (sR (sR (sR (body))))) := by kernel_rfl
theorem k2_ok  (R : Ending → Mem → Prop) (ρ : Env) (m : Mem) (h : (k2E fun r_1b r_1o l_4a l_4l l_4c m => k2  r_1b r_1o l_4a l_4l l_4c R m) ρ m) : cpt P od (panicR R) (sR (sR (sR (sR (sR (body)))))) (k2Q  R) ρ m := by
  unfold k2E at h
  obtain ⟨r_1b, r_1o, e1, h⟩ := h.ex
  obtain ⟨l_4a, l_4l, l_4c, e4, h⟩ := h.ex
  rw [← upd_self e1, ← upd_self e4]
  rw [← k2_er  R]
  refine acpt_sound (P := P) (k2A  R) _ _ _ True.intro ?_
  exact Eq.mp (k2_eq  R r_1b r_1o l_4a l_4l l_4c ρ m) h
theorem l1_eq  (K1 : Nat → Nat → Int → Option Addr → Nat → Nat → Option Addr → Nat → Nat → Int → Int → Mem → Prop) (R : Ending → Mem → Prop) (r_1b : Nat) (r_1o : Nat) (k_3 : Int) (l_4a : Option Addr) (l_4l : Nat) (l_4c : Nat) (x19a : Option Addr) (x19l : Nat) (x19c : Nat) (x20 : Int) (x21 : Int) (ρ : Env) (m : Mem) : l1B  K1 r_1b r_1o k_3 l_4a l_4l l_4c x19a x19l x19c x20 x21 R m = acpt P od (panicR R) (l1A  K1 R) (thenQ (l1E K1) (l1Q  R)) (upd (upd (upd (upd (upd (upd ρ 21 (.int .i64 x21)) 20 (.int .i64 x20)) 19 (.slice x19a x19l x19c)) 4 (.slice l_4a l_4l l_4c)) 3 (.int .i64 k_3)) 1 (.pointer (some ⟨r_1b, r_1o, none⟩))) m := by kernel_rfl
theorem l1_er  (K1 : Nat → Nat → Int → Option Addr → Nat → Nat → Option Addr → Nat → Nat → Int → Int → Mem → Prop) (R : Ending → Mem → Prop) : (l1A  K1 R).erase = lP (bB (sR (sL (sR (sR (sR (sR (body)))))))) := by kernel_rfl
theorem l1_ok  (R : Ending → Mem → Prop) (ρ : Env) (m : Mem) (h : (l1E fun r_1b r_1o k_3 l_4a l_4l l_4c x19a x19l x19c x20 x21 m => l1  r_1b r_1o k_3 l_4a l_4l l_4c x19a x19l x19c x20 x21 R m) ρ m) : cpt P od (panicR R) (.loop (lP (bB (sR (sL (sR (sR (sR (sR (body)))))))))) (l1Q  R) ρ m := by
  unfold l1E at h
  obtain ⟨r_1b, r_1o, e1, h⟩ := h.ex
  obtain ⟨k_3, e3, h⟩ := h.ex
  obtain ⟨l_4a, l_4l, l_4c, e4, h⟩ := h.ex
  obtain ⟨x19a, x19l, x19c, e19, h⟩ := h.ex
  obtain ⟨x20, e20, h⟩ := h.ex
  obtain ⟨x21, e21, h⟩ := h.ex
  obtain ⟨I, N, h0, hs⟩ := h
  refine ⟨fun N => l1E (I N), N, (by show l1E (I N) ρ m; unfold l1E; rw [e1, e3, e4, e19, e20, e21]; exact h0), ?_⟩
  clear h0 e1 e3 e4 e19 e20 e21
  intro N ρ m h
  unfold l1E at h
  obtain ⟨r_1b, r_1o, e1, h⟩ := h.ex
  obtain ⟨k_3, e3, h⟩ := h.ex
  obtain ⟨l_4a, l_4l, l_4c, e4, h⟩ := h.ex
  obtain ⟨x19a, x19l, x19c, e19, h⟩ := h.ex
  obtain ⟨x20, e20, h⟩ := h.ex
  obtain ⟨x21, e21, h⟩ := h.ex
  refine cpt_mono (P := P) (lP (bB (sR (sL (sR (sR (sR (sR (body))))))))) (Q := thenQ (l1E fun r_1b r_1o k_3 l_4a l_4l l_4c x19a x19l x19c x20 x21 m => ∃ N1, N1 < N ∧ I N1 r_1b r_1o k_3 l_4a l_4l l_4c x19a x19l x19c x20 x21 m) (l1Q  R)) (fun e ρ m h => ?_) ρ m ?_
  · cases e with
    | normal =>
      have h : l1E (fun r_1b r_1o k_3 l_4a l_4l l_4c x19a x19l x19c x20 x21 m => ∃ N1, N1 < N ∧ I N1 r_1b r_1o k_3 l_4a l_4l l_4c x19a x19l x19c x20 x21 m) ρ m := h
      unfold l1E at h
      obtain ⟨r_1b, r_1o, e1, h⟩ := h.ex
      obtain ⟨k_3, e3, h⟩ := h.ex
      obtain ⟨l_4a, l_4l, l_4c, e4, h⟩ := h.ex
      obtain ⟨x19a, x19l, x19c, e19, h⟩ := h.ex
      obtain ⟨x20, e20, h⟩ := h.ex
      obtain ⟨x21, e21, h⟩ := h.ex
      obtain ⟨N1, hlt, h⟩ := h
      exact ⟨N1, hlt, (by show l1E (I N1) ρ m; unfold l1E; rw [e1, e3, e4, e19, e20, e21]; exact h)⟩
    | _ => exact h
  have hh := hs N r_1b r_1o k_3 l_4a l_4l l_4c x19a x19l x19c x20 x21 m h
  generalize (fun r_1b r_1o k_3 l_4a l_4l l_4c x19a x19l x19c x20 x21 m => ∃ N1, N1 < N ∧ I N1 r_1b r_1o k_3 l_4a l_4l l_4c x19a x19l x19c x20 x21 m : Nat → Nat → Int → Option Addr → Nat → Nat → Option Addr → Nat → Nat → Int → Int → Mem → Prop) = K1 at hh ⊢
  rw [← upd_self e1, ← upd_self e3, ← upd_self e4, ← upd_self e19, ← upd_self e20, ← upd_self e21]
  rw [← l1_er  K1 R]
  refine acpt_sound (P := P) (l1A  K1 R) _ _ _ True.intro ?_
  exact Eq.mp (l1_eq  K1 R r_1b r_1o k_3 l_4a l_4l l_4c x19a x19l x19c x20 x21 ρ m) hh
theorem e0_eq (r_0_0 : Int) (r_0_1 : Int) (r_0_2 : Int) (r_0_3 : Int) (r_0_4 : Int) (r_0_5a : Option Addr) (r_0_5l : Nat) (r_0_5c : Nat) (R : Ending → Mem → Prop) (m : Mem) : e0 r_0_0 r_0_1 r_0_2 r_0_3 r_0_4 r_0_5a r_0_5l r_0_5c R m = acpt P od (panicR R) (e0A R) (bodyQ P fn R) (argE (#[.agg #[.int .i64 r_0_0, .int .u64 r_0_1, .int .u64 r_0_2, .int .u64 r_0_3, .int .u64 r_0_4, .slice r_0_5a r_0_5l r_0_5c]] : Array Value).toList) m := by kernel_rfl
theorem ok (r_0_0 : Int) (r_0_1 : Int) (r_0_2 : Int) (r_0_3 : Int) (r_0_4 : Int) (r_0_5a : Option Addr) (r_0_5l : Nat) (r_0_5c : Nat) (R : Ending → Mem → Prop) (m : Mem) (h : e0 r_0_0 r_0_1 r_0_2 r_0_3 r_0_4 r_0_5a r_0_5l r_0_5c R m) : HC P id #[.agg #[.int .i64 r_0_0, .int .u64 r_0_1, .int .u64 r_0_2, .int .u64 r_0_3, .int .u64 r_0_4, .slice r_0_5a r_0_5l r_0_5c]] m R := by
  refine HC_of (fn := fn) (c := body) (od := od) (tb := tb) Go.Proofs.Tryd.func22 (by kernel_rfl) (by kernel_rfl) follows (by kernel_rfl) (of_decide_eq_true (by kernel_rfl)) ?_
  have he : (e0A R).erase = body := by kernel_rfl
  rw [← he]
  refine acpt_sound (P := P) (e0A R) _ _ _ ⟨⟨⟨⟨⟨(fun ρ m h => k2_ok  R ρ m h), ⟨(fun ρ m h => l1_ok  R ρ m h), True.intro⟩⟩, True.intro⟩, True.intro⟩, True.intro⟩, True.intro⟩ ?_
  exact Eq.mp (e0_eq r_0_0 r_0_1 r_0_2 r_0_3 r_0_4 r_0_5a r_0_5l r_0_5c R m) h
end regex_Show
/-! ### eyot/eyotref8.Show -/
namespace eyotref8_Show
noncomputable def fn : Func := Go.Proofs.Tryd.f23
noncomputable def body : Code := fn.body.getD .skip
def od : Nat → Ord := fun _ => .done
def tb : Nat → Tab := fun _ => (0, [], [])
def k5E (K : Nat → Nat → ByteArray → Int → ByteArray → Mem → Prop) : Env → Mem → Prop := fun ρ m => UnPA (ρ 1) fun x1b x1o => UnStr (ρ 3) fun x3 => UnI (ρ 4) .i64 fun x4 => UnStr (ρ 5) fun x5 => K x1b x1o x3 x4 x5 m
def k5 (K2 : Nat → Nat → ByteArray → Int → Mem → Prop) (x1b : Nat) (x1o : Nat) (x3 : ByteArray) (x4 : Int) (x5 : ByteArray) (R : Ending → Mem → Prop) (m : Mem) : Prop :=
 CatB x3 x5 (
  K2 x1b x1o (x3 ++ x5) (IntKind.i64.wrap (x4 + 1)) m)
noncomputable def k5A (K2 : Nat → Nat → ByteArray → Int → Mem → Prop) (R : Ending → Mem → Prop) : ACode := (.code (sR (sR (sR (bB (sL (sR (lP (bB (sR (sL (cT (sR (cE (sR (bB (sR (sL (sR (sR (body)))))))))))))))))))))
def k4E (K : Nat → Nat → ByteArray → Int → ByteArray → Bool → Mem → Prop) : Env → Mem → Prop := fun ρ m => UnPA (ρ 1) fun x1b x1o => UnStr (ρ 3) fun x3 => UnI (ρ 4) .i64 fun x4 => UnStr (ρ 5) fun x5 => UnB (ρ 49) fun x49 => K x1b x1o x3 x4 x5 x49 m
def k4 (K2 : Nat → Nat → ByteArray → Int → Mem → Prop) (x1b : Nat) (x1o : Nat) (x3 : ByteArray) (x4 : Int) (x5 : ByteArray) (x49 : Bool) (R : Ending → Mem → Prop) (m : Mem) : Prop :=
 Br x49 (
  CatB (ByteArray.mk #[40]) x5 (
   CatB ((ByteArray.mk #[40]) ++ x5) (ByteArray.mk #[41]) (
    k5 K2 x1b x1o x3 x4 (((ByteArray.mk #[40]) ++ x5) ++ (ByteArray.mk #[41])) R m))) (
  k5 K2 x1b x1o x3 x4 x5 R m)
noncomputable def k4A (K2 : Nat → Nat → ByteArray → Int → Mem → Prop) (R : Ending → Mem → Prop) : ACode := (.code (sR (sL (sR (sR (bB (sL (sR (lP (bB (sR (sL (cT (sR (cE (sR (bB (sR (sL (sR (sR (body))))))))))))))))))))))
def k3E (K : Nat → Nat → ByteArray → Int → ByteArray → Mem → Prop) : Env → Mem → Prop := fun ρ m => UnPA (ρ 1) fun x1b x1o => UnStr (ρ 3) fun x3 => UnI (ρ 4) .i64 fun x4 => UnStr (ρ 5) fun x5 => K x1b x1o x3 x4 x5 m
def k3 (K2 : Nat → Nat → ByteArray → Int → Mem → Prop) (x1b : Nat) (x1o : Nat) (x3 : ByteArray) (x4 : Int) (x5 : ByteArray) (R : Ending → Mem → Prop) (m : Mem) : Prop :=
 LdV m x1b x1o fun v =>
 UnI v .i64 fun x39 =>
 Br (x39 == 2) (
  LdV m x1b (x1o + 5) fun v =>
  UnS v fun x43a x43l x43c =>
  IxS x43a x43l x4 6 fun x45b x45o =>
  LdV m x45b x45o fun v =>
  UnI v .i64 fun x47 =>
  k4 K2 x1b x1o x3 x4 x5 (x47 == 3) R m) (
  k4 K2 x1b x1o x3 x4 x5 false R m)
noncomputable def k3A (K2 : Nat → Nat → ByteArray → Int → Mem → Prop) (R : Ending → Mem → Prop) : ACode := (.seq (.seq (.code (sL (sL (sR (sR (bB (sL (sR (lP (bB (sR (sL (cT (sR (cE (sR (bB (sR (sL (sR (sR (body)))))))))))))))))))))) (.cut (k4E fun x1b x1o x3 x4 x5 x49 m => k4 K2 x1b x1o x3 x4 x5 x49 R m) (sR (sL (sR (sR (bB (sL (sR (lP (bB (sR (sL (cT (sR (cE (sR (bB (sR (sL (sR (sR (body))))))))))))))))))))))) (.cut (k5E fun x1b x1o x3 x4 x5 m => k5 K2 x1b x1o x3 x4 x5 R m) (sR (sR (sR (bB (sL (sR (lP (bB (sR (sL (cT (sR (cE (sR (bB (sR (sL (sR (sR (body))))))))))))))))))))))
def l2E (K : Nat → Nat → ByteArray → Int → Mem → Prop) : Env → Mem → Prop := fun ρ m => UnPA (ρ 1) fun x1b x1o => UnStr (ρ 3) fun x3 => UnI (ρ 4) .i64 fun x4 => K x1b x1o x3 x4 m
def l2B  (K2 : Nat → Nat → ByteArray → Int → Mem → Prop) (x1b : Nat) (x1o : Nat) (x3 : ByteArray) (x4 : Int) (R : Ending → Mem → Prop) (m : Mem) : Prop :=
 LdV m x1b (x1o + 5) fun v =>
 UnS v fun x18a x18l x18c =>
 Br (decide (x4 < ((x18l : Nat) : Int))) (
  LdV m x1b (x1o + 5) fun v =>
  UnS v fun x24a x24l x24c =>
  IxS x24a x24l x4 6 fun x26b x26o =>
  LdV m x26b x26o fun v =>
  UnI v .i64 fun x27_0 =>
  LdV m x26b (x26o + 1) fun v =>
  UnI v .u64 fun x27_1 =>
  LdV m x26b (x26o + 2) fun v =>
  UnI v .u64 fun x27_2 =>
  LdV m x26b (x26o + 3) fun v =>
  UnI v .u64 fun x27_3 =>
  LdV m x26b (x26o + 4) fun v =>
  UnI v .u64 fun x27_4 =>
  LdV m x26b (x26o + 5) fun v =>
  UnS v fun x27_5a x27_5l x27_5c =>
  HC P eyotref8_Show.id #[.agg #[.int .i64 x27_0, .int .u64 x27_1, .int .u64 x27_2, .int .u64 x27_3, .int .u64 x27_4, .slice x27_5a x27_5l x27_5c]] m (Cont (fun v m1 =>
    UnStr v fun x28 =>
    LdV m1 x1b x1o fun v =>
    UnI v .i64 fun x30 =>
    Br (x30 == 3) (
     Br (decide (x4 > 0)) (
      CatB x3 (ByteArray.mk #[124]) (
       k3 K2 x1b x1o (x3 ++ (ByteArray.mk #[124])) x4 x28 R m1)) (
      k3 K2 x1b x1o x3 x4 x28 R m1)) (
     k3 K2 x1b x1o x3 x4 x28 R m1)) (panicR R))) (
  R (.returned (.string x3)) m)
def l2  (x1b : Nat) (x1o : Nat) (x3 : ByteArray) (x4 : Int) (R : Ending → Mem → Prop) (m : Mem) : Prop :=
  ∃ (I : Nat → Nat → Nat → ByteArray → Int → Mem → Prop) (N : Nat), I N x1b x1o x3 x4 m ∧ ∀ N x1b x1o x3 x4 m, I N x1b x1o x3 x4 m → l2B  (fun x1b x1o x3 x4 m => ∃ N1, N1 < N ∧ I N1 x1b x1o x3 x4 m) x1b x1o x3 x4 R m
noncomputable def l2A  (K2 : Nat → Nat → ByteArray → Int → Mem → Prop) (R : Ending → Mem → Prop) : ACode := (.seq (.code (sL (lP (bB (sR (sL (cT (sR (cE (sR (bB (sR (sL (sR (sR (body)))))))))))))))) (.seq (.block 2 (.seq (.code (sL (bB (sL (sR (lP (bB (sR (sL (cT (sR (cE (sR (bB (sR (sL (sR (sR (body))))))))))))))))))) (.seq (.code (sL (sR (bB (sL (sR (lP (bB (sR (sL (cT (sR (cE (sR (bB (sR (sL (sR (sR (body)))))))))))))))))))) (.cut (k3E fun x1b x1o x3 x4 x5 m => k3 K2 x1b x1o x3 x4 x5 R m) (sR (sR (bB (sL (sR (lP (bB (sR (sL (cT (sR (cE (sR (bB (sR (sL (sR (sR (body))))))))))))))))))))))) (.code (sR (sR (lP (bB (sR (sL (cT (sR (cE (sR (bB (sR (sL (sR (sR (body)))))))))))))))))))
def k6E (K : Nat → Nat → ByteArray → Mem → Prop) : Env → Mem → Prop := fun ρ m => UnPA (ρ 1) fun x1b x1o => UnStr (ρ 3) fun x3 => K x1b x1o x3 m
def k6  (x1b : Nat) (x1o : Nat) (x3 : ByteArray) (R : Ending → Mem → Prop) (m : Mem) : Prop :=
 NewC m #[.string (ByteArray.mk #[42]), .string (ByteArray.mk #[43]), .string (ByteArray.mk #[63])] T_string fun b72 m1 =>
 LdV m1 x1b x1o fun v =>
 UnI v .i64 fun x74 =>
 IxS (some ⟨b72, 0, none⟩) 3 (IntKind.i64.wrap (x74 - 4)) 1 fun x76b x76o =>
 LdV m1 x76b x76o fun v =>
 UnStr v fun x77 =>
 CatB x3 x77 (
  R (.returned (.string (x3 ++ x77))) m1)
noncomputable def k6A  (R : Ending → Mem → Prop) : ACode := (.code (sR (sR (sR (sR (sR (body)))))))
def k1E (K : Nat → Nat → ByteArray → Bool → Mem → Prop) : Env → Mem → Prop := fun ρ m => UnPA (ρ 1) fun x1b x1o => UnStr (ρ 3) fun x3 => UnB (ρ 13) fun x13 => K x1b x1o x3 x13 m
def k1  (x1b : Nat) (x1o : Nat) (x3 : ByteArray) (x13 : Bool) (R : Ending → Mem → Prop) (m : Mem) : Prop :=
 Br x13 (
  l2  x1b x1o x3 0 R m) (
  LdV m x1b (x1o + 5) fun v =>
  UnS v fun x58a x58l x58c =>
  IxS x58a x58l 0 6 fun x59b x59o =>
  LdV m x59b x59o fun v =>
  UnI v .i64 fun x60_0 =>
  LdV m x59b (x59o + 1) fun v =>
  UnI v .u64 fun x60_1 =>
  LdV m x59b (x59o + 2) fun v =>
  UnI v .u64 fun x60_2 =>
  LdV m x59b (x59o + 3) fun v =>
  UnI v .u64 fun x60_3 =>
  LdV m x59b (x59o + 4) fun v =>
  UnI v .u64 fun x60_4 =>
  LdV m x59b (x59o + 5) fun v =>
  UnS v fun x60_5a x60_5l x60_5c =>
  HC P eyotref8_Show.id #[.agg #[.int .i64 x60_0, .int .u64 x60_1, .int .u64 x60_2, .int .u64 x60_3, .int .u64 x60_4, .slice x60_5a x60_5l x60_5c]] m (Cont (fun v m1 =>
    UnStr v fun x61 =>
    LdV m1 x1b (x1o + 5) fun v =>
    UnS v fun x63a x63l x63c =>
    IxS x63a x63l 0 6 fun x64b x64o =>
    LdV m1 x64b x64o fun v =>
    UnI v .i64 fun x66 =>
    Br (x66 != 1) (
     CatB (ByteArray.mk #[40]) x61 (
      CatB ((ByteArray.mk #[40]) ++ x61) (ByteArray.mk #[41]) (
       k6  x1b x1o (((ByteArray.mk #[40]) ++ x61) ++ (ByteArray.mk #[41])) R m1))) (
     k6  x1b x1o x61 R m1)) (panicR R)))
noncomputable def k1A  (R : Ending → Mem → Prop) : ACode := (.cond (.tmp 13) (.seq (.seq (.code (sL (sL (cT (sR (cE (sR (bB (sR (sL (sR (sR (body))))))))))))) (.block 1 (.cut (l2E fun x1b x1o x3 x4 m => l2  x1b x1o x3 x4 R m) (.loop (lP (bB (sR (sL (cT (sR (cE (sR (bB (sR (sL (sR (sR (body)))))))))))))))))) (.code (sR (cT (sR (cE (sR (bB (sR (sL (sR (sR (body))))))))))))) (.code (cE (sR (cE (sR (bB (sR (sL (sR (sR (body))))))))))))
def e0 (a0_0 : Int) (a0_1 : Int) (a0_2 : Int) (a0_3 : Int) (a0_4 : Int) (a0_5a : Option Addr) (a0_5l : Nat) (a0_5c : Nat) (R : Ending → Mem → Prop) (m : Mem) : Prop :=
 NewC m #[.int .i64 a0_0, .int .u64 a0_1, .int .u64 a0_2, .int .u64 a0_3, .int .u64 a0_4, .slice a0_5a a0_5l a0_5c] T_api_Rx fun b1 m1 =>
 LdV m1 b1 0 fun v =>
 UnI v .i64 fun x7 =>
 Br (x7 == 1) (
  LdV m1 b1 1 fun v =>
  UnI v .u64 fun x11_0 =>
  LdV m1 b1 2 fun v =>
  UnI v .u64 fun x11_1 =>
  LdV m1 b1 3 fun v =>
  UnI v .u64 fun x11_2 =>
  LdV m1 b1 4 fun v =>
  UnI v .u64 fun x11_3 =>
  HC P eyotref8_ShowClass.id #[.agg #[.int .u64 x11_0, .int .u64 x11_1, .int .u64 x11_2, .int .u64 x11_3]] m1 (Cont (fun v m2 =>
    UnStr v fun x12 =>
    R (.returned (.string x12)) m2) (panicR R))) (
  Br (x7 == 2) (
   k1  b1 0 (ByteArray.mk #[]) true R m1) (
   k1  b1 0 (ByteArray.mk #[]) (x7 == 3) R m1))
noncomputable def e0A (R : Ending → Mem → Prop) : ACode := (.seq (.code (sL (body))) (.seq (.code (sL (sR (body)))) (.seq (.seq (.code (sL (sL (sR (sR (body)))))) (.block 0 (.seq (.code (sL (bB (sR (sL (sR (sR (body)))))))) (.cond (.tmp 8) (.code (cT (sR (bB (sR (sL (sR (sR (body))))))))) (.seq (.code (sL (cE (sR (bB (sR (sL (sR (sR (body)))))))))) (.cut (k1E fun x1b x1o x3 x13 m => k1  x1b x1o x3 x13 R m) (sR (cE (sR (bB (sR (sL (sR (sR (body))))))))))))))) (.seq (.code (sL (sR (sR (sR (body)))))) (.seq (.code (sL (sR (sR (sR (sR (body))))))) (.cut (k6E fun x1b x1o x3 m => k6  x1b x1o x3 R m) (sR (sR (sR (sR (sR (body))))))))))))
abbrev k6Q  (R : Ending → Mem → Prop) : Exit → Env → Mem → Prop := (bodyQ P fn R)
abbrev k1Q  (R : Ending → Mem → Prop) : Exit → Env → Mem → Prop := (blockQ 0 (thenQ (acpt P od (panicR R) (.seq (.code (sL (sR (sR (sR (body)))))) (.seq (.code (sL (sR (sR (sR (sR (body))))))) (.cut (k6E fun x1b x1o x3 m => k6  x1b x1o x3 R m) (sR (sR (sR (sR (sR (body))))))))) (bodyQ P fn R)) (bodyQ P fn R)))
abbrev l2Q  (R : Ending → Mem → Prop) : Exit → Env → Mem → Prop := (blockQ 1 (thenQ (acpt P od (panicR R) (.code (sR (cT (sR (cE (sR (bB (sR (sL (sR (sR (body)))))))))))) (k1Q  R)) (k1Q  R)))
abbrev k3Q (K2 : Nat → Nat → ByteArray → Int → Mem → Prop) (R : Ending → Mem → Prop) : Exit → Env → Mem → Prop := (blockQ 2 (thenQ (acpt P od (panicR R) (.code (sR (sR (lP (bB (sR (sL (cT (sR (cE (sR (bB (sR (sL (sR (sR (body))))))))))))))))) (thenQ (l2E K2) (l2Q  R))) (thenQ (l2E K2) (l2Q  R))))
abbrev k5Q (K2 : Nat → Nat → ByteArray → Int → Mem → Prop) (R : Ending → Mem → Prop) : Exit → Env → Mem → Prop := (k3Q K2 R)
abbrev k4Q (K2 : Nat → Nat → ByteArray → Int → Mem → Prop) (R : Ending → Mem → Prop) : Exit → Env → Mem → Prop := (thenQ (acpt P od (panicR R) (.cut (k5E fun x1b x1o x3 x4 x5 m => k5 K2 x1b x1o x3 x4 x5 R m) (sR (sR (sR (bB (sL (sR (lP (bB (sR (sL (cT (sR (cE (sR (bB (sR (sL (sR (sR (body))))))))))))))))))))) (k3Q K2 R)) (k3Q K2 R))
theorem k5_eq (K2 : Nat → Nat → ByteArray → Int → Mem → Prop) (R : Ending → Mem → Prop) (x1b : Nat) (x1o : Nat) (x3 : ByteArray) (x4 : Int) (x5 : ByteArray) (ρ : Env) (m : Mem) : k5 K2 x1b x1o x3 x4 x5 R m = acpt P od (panicR R) (k5A K2 R) (k5Q K2 R) (upd (upd (upd (upd ρ 5 (.string x5)) 4 (.int .i64 x4)) 3 (.string x3)) 1 (.pointer (some ⟨x1b, x1o, none⟩))) m := by kernel_rfl
theorem k5_er (K2 : Nat → Nat → ByteArray → Int → Mem → Prop) (R : Ending → Mem → Prop) : (k5A K2 R).erase = sR (sR (sR (bB (sL (sR (lP (bB (sR (sL (cT (sR (cE (sR (bB (sR (sL (sR (sR (body))))))))))))))))))) := by kernel_rfl
theorem k5_ok (K2 : Nat → Nat → ByteArray → Int → Mem → Prop) (R : Ending → Mem → Prop) (ρ : Env) (m : Mem) (h : (k5E fun x1b x1o x3 x4 x5 m => k5 K2 x1b x1o x3 x4 x5 R m) ρ m) : cpt P od (panicR R) (sR (sR (sR (bB (sL (sR (lP (bB (sR (sL (cT (sR (cE (sR (bB (sR (sL (sR (sR (body)))))))))))))))))))) (k5Q K2 R) ρ m := by
  unfold k5E at h
  obtain ⟨x1b, x1o, e1, h⟩ := h.ex
  obtain ⟨x3, e3, h⟩ := h.ex
  obtain ⟨x4, e4, h⟩ := h.ex
  obtain ⟨x5, e5, h⟩ := h.ex
  rw [← upd_self e1, ← upd_self e3, ← upd_self e4, ← upd_self e5]
  rw [← k5_er K2 R]
  refine acpt_sound (P := P) (k5A K2 R) _ _ _ True.intro ?_
  exact Eq.mp (k5_eq K2 R x1b x1o x3 x4 x5 ρ m) h
theorem k4_eq (K2 : Nat → Nat → ByteArray → Int → Mem → Prop) (R : Ending → Mem → Prop) (x1b : Nat) (x1o : Nat) (x3 : ByteArray) (x4 : Int) (x5 : ByteArray) (x49 : Bool) (ρ : Env) (m : Mem) : k4 K2 x1b x1o x3 x4 x5 x49 R m = acpt P od (panicR R) (k4A K2 R) (k4Q K2 R) (upd (upd (upd (upd (upd ρ 49 (.bool x49)) 5 (.string x5)) 4 (.int .i64 x4)) 3 (.string x3)) 1 (.pointer (some ⟨x1b, x1o, none⟩))) m := by kernel_rfl
theorem k4_er (K2 : Nat → Nat → ByteArray → Int → Mem → Prop) (R : Ending → Mem → Prop) : (k4A K2 R).erase = sR (sL (sR (sR (bB (sL (sR (lP (bB (sR (sL (cT (sR (cE (sR (bB (sR (sL (sR (sR (body)))))))))))))))))))) := by kernel_rfl
theorem k4_ok (K2 : Nat → Nat → ByteArray → Int → Mem → Prop) (R : Ending → Mem → Prop) (ρ : Env) (m : Mem) (h : (k4E fun x1b x1o x3 x4 x5 x49 m => k4 K2 x1b x1o x3 x4 x5 x49 R m) ρ m) : cpt P od (panicR R) (sR (sL (sR (sR (bB (sL (sR (lP (bB (sR (sL (cT (sR (cE (sR (bB (sR (sL (sR (sR (body))))))))))))))))))))) (k4Q K2 R) ρ m := by
  unfold k4E at h
  obtain ⟨x1b, x1o, e1, h⟩ := h.ex
  obtain ⟨x3, e3, h⟩ := h.ex
  obtain ⟨x4, e4, h⟩ := h.ex
  obtain ⟨x5, e5, h⟩ := h.ex
  obtain ⟨x49, e49, h⟩ := h.ex
  rw [← upd_self e1, ← upd_self e3, ← upd_self e4, ← upd_self e5, ← upd_self e49]
  rw [← k4_er K2 R]
  refine acpt_sound (P := P) (k4A K2 R) _ _ _ True.intro ?_
  exact Eq.mp (k4_eq K2 R x1b x1o x3 x4 x5 x49 ρ m) h
theorem k3_eq (K2 : Nat → Nat → ByteArray → Int → Mem → Prop) (R : Ending → Mem → Prop) (x1b : Nat) (x1o : Nat) (x3 : ByteArray) (x4 : Int) (x5 : ByteArray) (ρ : Env) (m : Mem) : k3 K2 x1b x1o x3 x4 x5 R m = acpt P od (panicR R) (k3A K2 R) (k3Q K2 R) (upd (upd (upd (upd ρ 5 (.string x5)) 4 (.int .i64 x4)) 3 (.string x3)) 1 (.pointer (some ⟨x1b, x1o, none⟩))) m := by kernel_rfl
theorem k3_er (K2 : Nat → Nat → ByteArray → Int → Mem → Prop) (R : Ending → Mem → Prop) : (k3A K2 R).erase = sR (sR (bB (sL (sR (lP (bB (sR (sL (cT (sR (cE (sR (bB (sR (sL (sR (sR (body)))))))))))))))))) := by kernel_rfl
theorem k3_ok (K2 : Nat → Nat → ByteArray → Int → Mem → Prop) (R : Ending → Mem → Prop) (ρ : Env) (m : Mem) (h : (k3E fun x1b x1o x3 x4 x5 m => k3 K2 x1b x1o x3 x4 x5 R m) ρ m) : cpt P od (panicR R) (sR (sR (bB (sL (sR (lP (bB (sR (sL (cT (sR (cE (sR (bB (sR (sL (sR (sR (body))))))))))))))))))) (k3Q K2 R) ρ m := by
  unfold k3E at h
  obtain ⟨x1b, x1o, e1, h⟩ := h.ex
  obtain ⟨x3, e3, h⟩ := h.ex
  obtain ⟨x4, e4, h⟩ := h.ex
  obtain ⟨x5, e5, h⟩ := h.ex
  rw [← upd_self e1, ← upd_self e3, ← upd_self e4, ← upd_self e5]
  rw [← k3_er K2 R]
  refine acpt_sound (P := P) (k3A K2 R) _ _ _ ⟨(fun ρ m h => k5_ok K2 R ρ m h), ⟨(fun ρ m h => k4_ok K2 R ρ m h), True.intro⟩⟩ ?_
  exact Eq.mp (k3_eq K2 R x1b x1o x3 x4 x5 ρ m) h
theorem l2_eq  (K2 : Nat → Nat → ByteArray → Int → Mem → Prop) (R : Ending → Mem → Prop) (x1b : Nat) (x1o : Nat) (x3 : ByteArray) (x4 : Int) (ρ : Env) (m : Mem) : l2B  K2 x1b x1o x3 x4 R m = acpt P od (panicR R) (l2A  K2 R) (thenQ (l2E K2) (l2Q  R)) (upd (upd (upd ρ 4 (.int .i64 x4)) 3 (.string x3)) 1 (.pointer (some ⟨x1b, x1o, none⟩))) m := by kernel_rfl
theorem l2_er  (K2 : Nat → Nat → ByteArray → Int → Mem → Prop) (R : Ending → Mem → Prop) : (l2A  K2 R).erase = lP (bB (sR (sL (cT (sR (cE (sR (bB (sR (sL (sR (sR (body))))))))))))) := by kernel_rfl
theorem l2_ok  (R : Ending → Mem → Prop) (ρ : Env) (m : Mem) (h : (l2E fun x1b x1o x3 x4 m => l2  x1b x1o x3 x4 R m) ρ m) : cpt P od (panicR R) (.loop (lP (bB (sR (sL (cT (sR (cE (sR (bB (sR (sL (sR (sR (body))))))))))))))) (l2Q  R) ρ m := by
  unfold l2E at h
  obtain ⟨x1b, x1o, e1, h⟩ := h.ex
  obtain ⟨x3, e3, h⟩ := h.ex
  obtain ⟨x4, e4, h⟩ := h.ex
  obtain ⟨I, N, h0, hs⟩ := h
  refine ⟨fun N => l2E (I N), N, (by show l2E (I N) ρ m; unfold l2E; rw [e1, e3, e4]; exact h0), ?_⟩
  clear h0 e1 e3 e4
  intro N ρ m h
  unfold l2E at h
  obtain ⟨x1b, x1o, e1, h⟩ := h.ex
  obtain ⟨x3, e3, h⟩ := h.ex
  obtain ⟨x4, e4, h⟩ := h.ex
  refine cpt_mono (P := P) (lP (bB (sR (sL (cT (sR (cE (sR (bB (sR (sL (sR (sR (body)))))))))))))) (Q := thenQ (l2E fun x1b x1o x3 x4 m => ∃ N1, N1 < N ∧ I N1 x1b x1o x3 x4 m) (l2Q  R)) (fun e ρ m h => ?_) ρ m ?_
  · cases e with
    | normal =>
      have h : l2E (fun x1b x1o x3 x4 m => ∃ N1, N1 < N ∧ I N1 x1b x1o x3 x4 m) ρ m := h
      unfold l2E at h
      obtain ⟨x1b, x1o, e1, h⟩ := h.ex
      obtain ⟨x3, e3, h⟩ := h.ex
      obtain ⟨x4, e4, h⟩ := h.ex
      obtain ⟨N1, hlt, h⟩ := h
      exact ⟨N1, hlt, (by show l2E (I N1) ρ m; unfold l2E; rw [e1, e3, e4]; exact h)⟩
    | _ => exact h
  have hh := hs N x1b x1o x3 x4 m h
  generalize (fun x1b x1o x3 x4 m => ∃ N1, N1 < N ∧ I N1 x1b x1o x3 x4 m : Nat → Nat → ByteArray → Int → Mem → Prop) = K2 at hh ⊢
  rw [← upd_self e1, ← upd_self e3, ← upd_self e4]
  rw [← l2_er  K2 R]
  refine acpt_sound (P := P) (l2A  K2 R) _ _ _ ⟨⟨True.intro, ⟨⟨(fun ρ m h => k3_ok K2 R ρ m h), True.intro⟩, True.intro⟩⟩, True.intro⟩ ?_
  exact Eq.mp (l2_eq  K2 R x1b x1o x3 x4 ρ m) hh
theorem k6_eq  (R : Ending → Mem → Prop) (x1b : Nat) (x1o : Nat) (x3 : ByteArray) (ρ : Env) (m : Mem) : k6  x1b x1o x3 R m = acpt P od (panicR R) (k6A  R) (k6Q  R) (upd (upd ρ 3 (.string x3)) 1 (.pointer (some ⟨x1b, x1o, none⟩))) m := by kernel_rfl
theorem k6_er  (R : Ending → Mem → Prop) : (k6A  R).erase = sR (sR (sR (sR (sR (body))))) := by kernel_rfl
theorem k6_ok  (R : Ending → Mem → Prop) (ρ : Env) (m : Mem) (h : (k6E fun x1b x1o x3 m => k6  x1b x1o x3 R m) ρ m) : cpt P od (panicR R) (sR (sR (sR (sR (sR (body)))))) (k6Q  R) ρ m := by
  unfold k6E at h
  obtain ⟨x1b, x1o, e1, h⟩ := h.ex
  obtain ⟨x3, e3, h⟩ := h.ex
  rw [← upd_self e1, ← upd_self e3]
  rw [← k6_er  R]
  refine acpt_sound (P := P) (k6A  R) _ _ _ True.intro ?_
  exact Eq.mp (k6_eq  R x1b x1o x3 ρ m) h
theorem k1_eq  (R : Ending → Mem → Prop) (x1b : Nat) (x1o : Nat) (x3 : ByteArray) (x13 : Bool) (ρ : Env) (m : Mem) : k1  x1b x1o x3 x13 R m = acpt P od (panicR R) (k1A  R) (k1Q  R) (upd (upd (upd ρ 13 (.bool x13)) 3 (.string x3)) 1 (.pointer (some ⟨x1b, x1o, none⟩))) m := by kernel_rfl
theorem k1_er  (R : Ending → Mem → Prop) : (k1A  R).erase = sR (cE (sR (bB (sR (sL (sR (sR (body)))))))) := by kernel_rfl
theorem k1_ok  (R : Ending → Mem → Prop) (ρ : Env) (m : Mem) (h : (k1E fun x1b x1o x3 x13 m => k1  x1b x1o x3 x13 R m) ρ m) : cpt P od (panicR R) (sR (cE (sR (bB (sR (sL (sR (sR (body))))))))) (k1Q  R) ρ m := by
  unfold k1E at h
  obtain ⟨x1b, x1o, e1, h⟩ := h.ex
  obtain ⟨x3, e3, h⟩ := h.ex
  obtain ⟨x13, e13, h⟩ := h.ex
  rw [← upd_self e1, ← upd_self e3, ← upd_self e13]
  rw [← k1_er  R]
  refine acpt_sound (P := P) (k1A  R) _ _ _ ⟨⟨True.intro, ⟨(fun ρ m h => l2_ok  R ρ m h), True.intro⟩⟩, True.intro⟩ ?_
  exact Eq.mp (k1_eq  R x1b x1o x3 x13 ρ m) h
theorem e0_eq (a0_0 : Int) (a0_1 : Int) (a0_2 : Int) (a0_3 : Int) (a0_4 : Int) (a0_5a : Option Addr) (a0_5l : Nat) (a0_5c : Nat) (R : Ending → Mem → Prop) (m : Mem) : e0 a0_0 a0_1 a0_2 a0_3 a0_4 a0_5a a0_5l a0_5c R m = acpt P od (panicR R) (e0A R) (bodyQ P fn R) (argE (#[.agg #[.int .i64 a0_0, .int .u64 a0_1, .int .u64 a0_2, .int .u64 a0_3, .int .u64 a0_4, .slice a0_5a a0_5l a0_5c]] : Array Value).toList) m := by kernel_rfl
theorem ok (a0_0 : Int) (a0_1 : Int) (a0_2 : Int) (a0_3 : Int) (a0_4 : Int) (a0_5a : Option Addr) (a0_5l : Nat) (a0_5c : Nat) (R : Ending → Mem → Prop) (m : Mem) (h : e0 a0_0 a0_1 a0_2 a0_3 a0_4 a0_5a a0_5l a0_5c R m) : HC P id #[.agg #[.int .i64 a0_0, .int .u64 a0_1, .int .u64 a0_2, .int .u64 a0_3, .int .u64 a0_4, .slice a0_5a a0_5l a0_5c]] m R := by
  refine HC_of (fn := fn) (c := body) (od := od) (tb := tb) Go.Proofs.Tryd.func23 (by kernel_rfl) (by kernel_rfl) follows (by kernel_rfl) (of_decide_eq_true (by kernel_rfl)) ?_
  have he : (e0A R).erase = body := by kernel_rfl
  rw [← he]
  refine acpt_sound (P := P) (e0A R) _ _ _ ⟨⟨⟨⟨⟨(fun ρ m h => k6_ok  R ρ m h), True.intro⟩, True.intro⟩, ⟨⟨⟨True.intro, ⟨(fun ρ m h => k1_ok  R ρ m h), True.intro⟩⟩, True.intro⟩, True.intro⟩⟩, True.intro⟩, True.intro⟩ ?_
  exact Eq.mp (e0_eq a0_0 a0_1 a0_2 a0_3 a0_4 a0_5a a0_5l a0_5c R m) h
end eyotref8_Show
end
end Go.E
set_option linter.unusedVariables false
set_option maxRecDepth 100000
namespace Go.E
open Go.H
noncomputable section
/-! ### eyot/regex.Null -/
namespace regex_Null
noncomputable def fn : Func := Go.Proofs.Tryd.f24
noncomputable def body : Code := fn.body.getD .skip
def od : Nat → Ord := fun _ => .done
def tb : Nat → Tab := fun _ => (0, [], [])
def l3E (K : Option Addr → Nat → Nat → Int → Int → Mem → Prop) : Env → Mem → Prop := fun ρ m => UnS (ρ 16) fun x16a x16l x16c => UnI (ρ 17) .i64 fun x17 => UnI (ρ 18) .i64 fun x18 => K x16a x16l x16c x17 x18 m
def l3B  (K3 : Option Addr → Nat → Nat → Int → Int → Mem → Prop) (x16a : Option Addr) (x16l : Nat) (x16c : Nat) (x17 : Int) (x18 : Int) (R : Ending → Mem → Prop) (m : Mem) : Prop :=
 Br (decide (x18 < x17)) (
  IxS x16a x16l x18 6 fun x20b x20o =>
  LdV m x20b x20o fun v =>
  UnI v .i64 fun x21_0 =>
  LdV m x20b (x20o + 1) fun v =>
  UnI v .u64 fun x21_1 =>
  LdV m x20b (x20o + 2) fun v =>
  UnI v .u64 fun x21_2 =>
  LdV m x20b (x20o + 3) fun v =>
  UnI v .u64 fun x21_3 =>
  LdV m x20b (x20o + 4) fun v =>
  UnI v .u64 fun x21_4 =>
  LdV m x20b (x20o + 5) fun v =>
  UnS v fun x21_5a x21_5l x21_5c =>
  NewC m #[.int .i64 0, .int .u64 0, .int .u64 0, .int .u64 0, .int .u64 0, .slice none 0 0] T_api_Rx fun b_x_4 m1 =>
  St1 m1 b_x_4 0 (.int .i64 x21_0) fun m2 =>
  St1 m2 b_x_4 1 (.int .u64 x21_1) fun m3 =>
  St1 m3 b_x_4 2 (.int .u64 x21_2) fun m4 =>
  St1 m4 b_x_4 3 (.int .u64 x21_3) fun m5 =>
  St1 m5 b_x_4 4 (.int .u64 x21_4) fun m6 =>
  St1 m6 b_x_4 5 (.slice x21_5a x21_5l x21_5c) fun m7 =>
  LdV m7 b_x_4 0 fun v =>
  UnI v .i64 fun x22_0 =>
  LdV m7 b_x_4 1 fun v =>
  UnI v .u64 fun x22_1 =>
  LdV m7 b_x_4 2 fun v =>
  UnI v .u64 fun x22_2 =>
  LdV m7 b_x_4 3 fun v =>
  UnI v .u64 fun x22_3 =>
  LdV m7 b_x_4 4 fun v =>
  UnI v .u64 fun x22_4 =>
  LdV m7 b_x_4 5 fun v =>
  UnS v fun x22_5a x22_5l x22_5c =>
  HC P regex_Null.id #[.agg #[.int .i64 x22_0, .int .u64 x22_1, .int .u64 x22_2, .int .u64 x22_3, .int .u64 x22_4, .slice x22_5a x22_5l x22_5c]] m7 (Cont (fun v m8 =>
    UnB v fun x23 =>
    Br (!x23) (
     R (.returned (.bool false)) m8) (
     K3 x16a x16l x16c x17 (IntKind.i64.wrap (x18 + 1)) m8)) (panicR R))) (
  R (.returned (.bool true)) m)
def l3  (x16a : Option Addr) (x16l : Nat) (x16c : Nat) (x17 : Int) (x18 : Int) (R : Ending → Mem → Prop) (m : Mem) : Prop :=
  ∃ (I : Nat → Option Addr → Nat → Nat → Int → Int → Mem → Prop) (N : Nat), I N x16a x16l x16c x17 x18 m ∧ ∀ N x16a x16l x16c x17 x18 m, I N x16a x16l x16c x17 x18 m → l3B  (fun x16a x16l x16c x17 x18 m => ∃ N1, N1 < N ∧ I N1 x16a x16l x16c x17 x18 m) x16a x16l x16c x17 x18 R m
noncomputable def l3A  (K3 : Option Addr → Nat → Nat → Int → Int → Mem → Prop) (R : Ending → Mem → Prop) : ACode := (.code (lP (bB (sR (sL (cT (sR (cE (sR (bB (sR (sL (sR (body))))))))))))))
def l4E (K : Option Addr → Nat → Nat → Int → Int → Mem → Prop) : Env → Mem → Prop := fun ρ m => UnS (ρ 29) fun x29a x29l x29c => UnI (ρ 30) .i64 fun x30 => UnI (ρ 31) .i64 fun x31 => K x29a x29l x29c x30 x31 m
def l4B  (K4 : Option Addr → Nat → Nat → Int → Int → Mem → Prop) (x29a : Option Addr) (x29l : Nat) (x29c : Nat) (x30 : Int) (x31 : Int) (R : Ending → Mem → Prop) (m : Mem) : Prop :=
 Br (decide (x31 < x30)) (
  IxS x29a x29l x31 6 fun x33b x33o =>
  LdV m x33b x33o fun v =>
  UnI v .i64 fun x34_0 =>
  LdV m x33b (x33o + 1) fun v =>
  UnI v .u64 fun x34_1 =>
  LdV m x33b (x33o + 2) fun v =>
  UnI v .u64 fun x34_2 =>
  LdV m x33b (x33o + 3) fun v =>
  UnI v .u64 fun x34_3 =>
  LdV m x33b (x33o + 4) fun v =>
  UnI v .u64 fun x34_4 =>
  LdV m x33b (x33o + 5) fun v =>
  UnS v fun x34_5a x34_5l x34_5c =>
  NewC m #[.int .i64 0, .int .u64 0, .int .u64 0, .int .u64 0, .int .u64 0, .slice none 0 0] T_api_Rx fun b_x_6 m1 =>
  St1 m1 b_x_6 0 (.int .i64 x34_0) fun m2 =>
  St1 m2 b_x_6 1 (.int .u64 x34_1) fun m3 =>
  St1 m3 b_x_6 2 (.int .u64 x34_2) fun m4 =>
  St1 m4 b_x_6 3 (.int .u64 x34_3) fun m5 =>
  St1 m5 b_x_6 4 (.int .u64 x34_4) fun m6 =>
  St1 m6 b_x_6 5 (.slice x34_5a x34_5l x34_5c) fun m7 =>
  LdV m7 b_x_6 0 fun v =>
  UnI v .i64 fun x35_0 =>
  LdV m7 b_x_6 1 fun v =>
  UnI v .u64 fun x35_1 =>
  LdV m7 b_x_6 2 fun v =>
  UnI v .u64 fun x35_2 =>
  LdV m7 b_x_6 3 fun v =>
  UnI v .u64 fun x35_3 =>
  LdV m7 b_x_6 4 fun v =>
  UnI v .u64 fun x35_4 =>
  LdV m7 b_x_6 5 fun v =>
  UnS v fun x35_5a x35_5l x35_5c =>
  HC P regex_Null.id #[.agg #[.int .i64 x35_0, .int .u64 x35_1, .int .u64 x35_2, .int .u64 x35_3, .int .u64 x35_4, .slice x35_5a x35_5l x35_5c]] m7 (Cont (fun v m8 =>
    UnB v fun x36 =>
    Br x36 (
     R (.returned (.bool true)) m8) (
     K4 x29a x29l x29c x30 (IntKind.i64.wrap (x31 + 1)) m8)) (panicR R))) (
  R (.returned (.bool false)) m)
def l4  (x29a : Option Addr) (x29l : Nat) (x29c : Nat) (x30 : Int) (x31 : Int) (R : Ending → Mem → Prop) (m : Mem) : Prop :=
  ∃ (I : Nat → Option Addr → Nat → Nat → Int → Int → Mem → Prop) (N : Nat), I N x29a x29l x29c x30 x31 m ∧ ∀ N x29a x29l x29c x30 x31 m, I N x29a x29l x29c x30 x31 m → l4B  (fun x29a x29l x29c x30 x31 m => ∃ N1, N1 < N ∧ I N1 x29a x29l x29c x30 x31 m) x29a x29l x29c x30 x31 R m
noncomputable def l4A  (K4 : Option Addr → Nat → Nat → Int → Int → Mem → Prop) (R : Ending → Mem → Prop) : ACode := (.code (lP (bB (sR (cT (sR (cE (sR (cE (sR (bB (sR (sL (sR (body)))))))))))))))
def k2E (K : Nat → Nat → Int → Bool → Mem → Prop) : Env → Mem → Prop := fun ρ m => UnPA (ρ 1) fun r_1b r_1o => UnI (ρ 8) .i64 fun x8 => UnB (ρ 12) fun x12 => K r_1b r_1o x8 x12 m
def k2  (r_1b : Nat) (r_1o : Nat) (x8 : Int) (x12 : Bool) (R : Ending → Mem → Prop) (m : Mem) : Prop :=
 Br x12 (
  LdV m r_1b (r_1o + 5) fun v =>
  UnS v fun x16a x16l x16c =>
  l3  x16a x16l x16c ((x16l : Nat) : Int) 0 R m) (
  Br (x8 == 3) (
   LdV m r_1b (r_1o + 5) fun v =>
   UnS v fun x29a x29l x29c =>
   l4  x29a x29l x29c ((x29l : Nat) : Int) 0 R m) (
   R (.returned (.bool false)) m))
noncomputable def k2A  (R : Ending → Mem → Prop) : ACode := (.cond (.tmp 12) (.seq (.seq (.code (sL (sL (cT (sR (cE (sR (bB (sR (sL (sR (body)))))))))))) (.block 1 (.cut (l3E fun x16a x16l x16c x17 x18 m => l3  x16a x16l x16c x17 x18 R m) (.loop (lP (bB (sR (sL (cT (sR (cE (sR (bB (sR (sL (sR (body))))))))))))))))) (.code (sR (cT (sR (cE (sR (bB (sR (sL (sR (body)))))))))))) (.seq (.code (sL (cE (sR (cE (sR (bB (sR (sL (sR (body))))))))))) (.cond (.tmp 26) (.seq (.code (sL (cT (sR (cE (sR (cE (sR (bB (sR (sL (sR (body))))))))))))) (.block 3 (.cut (l4E fun x29a x29l x29c x30 x31 m => l4  x29a x29l x29c x30 x31 R m) (.loop (lP (bB (sR (cT (sR (cE (sR (cE (sR (bB (sR (sL (sR (body)))))))))))))))))) (.code (cE (sR (cE (sR (cE (sR (bB (sR (sL (sR (body)))))))))))))))
def k1E (K : Nat → Nat → Int → Bool → Mem → Prop) : Env → Mem → Prop := fun ρ m => UnPA (ρ 1) fun r_1b r_1o => UnI (ρ 8) .i64 fun x8 => UnB (ρ 9) fun x9 => K r_1b r_1o x8 x9 m
def k1  (r_1b : Nat) (r_1o : Nat) (x8 : Int) (x9 : Bool) (R : Ending → Mem → Prop) (m : Mem) : Prop :=
 Br x9 (
  R (.returned (.bool true)) m) (
  Br (x8 == 2) (
   k2  r_1b r_1o x8 true R m) (
   k2  r_1b r_1o x8 (x8 == 5) R m))
noncomputable def k1A  (R : Ending → Mem → Prop) : ACode := (.cond (.tmp 9) (.code (cT (sR (bB (sR (sL (sR (body)))))))) (.seq (.code (sL (cE (sR (bB (sR (sL (sR (body))))))))) (.cut (k2E fun r_1b r_1o x8 x12 m => k2  r_1b r_1o x8 x12 R m) (sR (cE (sR (bB (sR (sL (sR (body)))))))))))
def e0 (r_0_0 : Int) (r_0_1 : Int) (r_0_2 : Int) (r_0_3 : Int) (r_0_4 : Int) (r_0_5a : Option Addr) (r_0_5l : Nat) (r_0_5c : Nat) (R : Ending → Mem → Prop) (m : Mem) : Prop :=
 NewC m #[.int .i64 r_0_0, .int .u64 r_0_1, .int .u64 r_0_2, .int .u64 r_0_3, .int .u64 r_0_4, .slice r_0_5a r_0_5l r_0_5c] T_api_Rx fun b_r_1 m1 =>
 LdV m1 b_r_1 0 fun v =>
 UnI v .i64 fun x8 =>
 Br (x8 == 4) (
  k1  b_r_1 0 x8 true R m1) (
  k1  b_r_1 0 x8 (x8 == 6) R m1)
noncomputable def e0A (R : Ending → Mem → Prop) : ACode := (.seq (.code (sL (body))) (.seq (.seq (.code (sL (sL (sR (body))))) (.block 0 (.seq (.code (sL (bB (sR (sL (sR (body))))))) (.cut (k1E fun r_1b r_1o x8 x9 m => k1  r_1b r_1o x8 x9 R m) (sR (bB (sR (sL (sR (body)))))))))) (.code (sR (sR (body))))))
abbrev k1Q  (R : Ending → Mem → Prop) : Exit → Env → Mem → Prop := (blockQ 0 (thenQ (acpt P od (panicR R) (.code (sR (sR (body)))) (bodyQ P fn R)) (bodyQ P fn R)))
abbrev k2Q  (R : Ending → Mem → Prop) : Exit → Env → Mem → Prop := (k1Q  R)
abbrev l3Q  (R : Ending → Mem → Prop) : Exit → Env → Mem → Prop := (blockQ 1 (thenQ (acpt P od (panicR R) (.code (sR (cT (sR (cE (sR (bB (sR (sL (sR (body))))))))))) (k2Q  R)) (k2Q  R)))
abbrev l4Q  (R : Ending → Mem → Prop) : Exit → Env → Mem → Prop := (blockQ 3 (k2Q  R))
theorem l3_eq  (K3 : Option Addr → Nat → Nat → Int → Int → Mem → Prop) (R : Ending → Mem → Prop) (x16a : Option Addr) (x16l : Nat) (x16c : Nat) (x17 : Int) (x18 : Int) (ρ : Env) (m : Mem) : l3B  K3 x16a x16l x16c x17 x18 R m = acpt P od (panicR R) (l3A  K3 R) (thenQ (l3E K3) (l3Q  R)) (upd (upd (upd ρ 18 (.int .i64 x18)) 17 (.int .i64 x17)) 16 (.slice x16a x16l x16c)) m := by kernel_rfl
theorem l3_er  (K3 : Option Addr → Nat → Nat → Int → Int → Mem → Prop) (R : Ending → Mem → Prop) : (l3A  K3 R).erase = lP (bB (sR (sL (cT (sR (cE (sR (bB (sR (sL (sR (body)))))))))))) := by kernel_rfl
theorem l3_ok  (R : Ending → Mem → Prop) (ρ : Env) (m : Mem) (h : (l3E fun x16a x16l x16c x17 x18 m => l3  x16a x16l x16c x17 x18 R m) ρ m) : cpt P od (panicR R) (.loop (lP (bB (sR (sL (cT (sR (cE (sR (bB (sR (sL (sR (body)))))))))))))) (l3Q  R) ρ m := by
  unfold l3E at h
  obtain ⟨x16a, x16l, x16c, e16, h⟩ := h.ex
  obtain ⟨x17, e17, h⟩ := h.ex
  obtain ⟨x18, e18, h⟩ := h.ex
  obtain ⟨I, N, h0, hs⟩ := h
  refine ⟨fun N => l3E (I N), N, (by show l3E (I N) ρ m; unfold l3E; rw [e16, e17, e18]; exact h0), ?_⟩
  clear h0 e16 e17 e18
  intro N ρ m h
  unfold l3E at h
  obtain ⟨x16a, x16l, x16c, e16, h⟩ := h.ex
  obtain ⟨x17, e17, h⟩ := h.ex
  obtain ⟨x18, e18, h⟩ := h.ex
  refine cpt_mono (P := P) (lP (bB (sR (sL (cT (sR (cE (sR (bB (sR (sL (sR (body))))))))))))) (Q := thenQ (l3E fun x16a x16l x16c x17 x18 m => ∃ N1, N1 < N ∧ I N1 x16a x16l x16c x17 x18 m) (l3Q  R)) (fun e ρ m h => ?_) ρ m ?_
  · cases e with
    | normal =>
      have h : l3E (fun x16a x16l x16c x17 x18 m => ∃ N1, N1 < N ∧ I N1 x16a x16l x16c x17 x18 m) ρ m := h
      unfold l3E at h
      obtain ⟨x16a, x16l, x16c, e16, h⟩ := h.ex
      obtain ⟨x17, e17, h⟩ := h.ex
      obtain ⟨x18, e18, h⟩ := h.ex
      obtain ⟨N1, hlt, h⟩ := h
      exact ⟨N1, hlt, (by show l3E (I N1) ρ m; unfold l3E; rw [e16, e17, e18]; exact h)⟩
    | _ => exact h
  have hh := hs N x16a x16l x16c x17 x18 m h
  generalize (fun x16a x16l x16c x17 x18 m => ∃ N1, N1 < N ∧ I N1 x16a x16l x16c x17 x18 m : Option Addr → Nat → Nat → Int → Int → Mem → Prop) = K3 at hh ⊢
  rw [← upd_self e16, ← upd_self e17, ← upd_self e18]
  rw [← l3_er  K3 R]
  refine acpt_sound (P := P) (l3A  K3 R) _ _ _ True.intro ?_
  exact Eq.mp (l3_eq  K3 R x16a x16l x16c x17 x18 ρ m) hh
theorem l4_eq  (K4 : Option Addr → Nat → Nat → Int → Int → Mem → Prop) (R : Ending → Mem → Prop) (x29a : Option Addr) (x29l : Nat) (x29c : Nat) (x30 : Int) (x31 : Int) (ρ : Env) (m : Mem) : l4B  K4 x29a x29l x29c x30 x31 R m = acpt P od (panicR R) (l4A  K4 R) (thenQ (l4E K4) (l4Q  R)) (upd (upd (upd ρ 31 (.int .i64 x31)) 30 (.int .i64 x30)) 29 (.slice x29a x29l x29c)) m := by kernel_rfl
theorem l4_er  (K4 : Option Addr → Nat → Nat → Int → Int → Mem → Prop) (R : Ending → Mem → Prop) : (l4A  K4 R).erase = lP (bB (sR (cT (sR (cE (sR (cE (sR (bB (sR (sL (sR (body))))))))))))) := by kernel_rfl
theorem l4_ok  (R : Ending → Mem → Prop) (ρ : Env) (m : Mem) (h : (l4E fun x29a x29l x29c x30 x31 m => l4  x29a x29l x29c x30 x31 R m) ρ m) : cpt P od (panicR R) (.loop (lP (bB (sR (cT (sR (cE (sR (cE (sR (bB (sR (sL (sR (body))))))))))))))) (l4Q  R) ρ m := by
  unfold l4E at h
  obtain ⟨x29a, x29l, x29c, e29, h⟩ := h.ex
  obtain ⟨x30, e30, h⟩ := h.ex
  obtain ⟨x31, e31, h⟩ := h.ex
  obtain ⟨I, N, h0, hs⟩ := h
  refine ⟨fun N => l4E (I N), N, (by show l4E (I N) ρ m; unfold l4E; rw [e29, e30, e31]; exact h0), ?_⟩
  clear h0 e29 e30 e31
  intro N ρ m h
  unfold l4E at h
  obtain ⟨x29a, x29l, x29c, e29, h⟩ := h.ex
  obtain ⟨x30, e30, h⟩ := h.ex
  obtain ⟨x31, e31, h⟩ := h.ex
  refine cpt_mono (P := P) (lP (bB (sR (cT (sR (cE (sR (cE (sR (bB (sR (sL (sR (body)))))))))))))) (Q := thenQ (l4E fun x29a x29l x29c x30 x31 m => ∃ N1, N1 < N ∧ I N1 x29a x29l x29c x30 x31 m) (l4Q  R)) (fun e ρ m h => ?_) ρ m ?_
  · cases e with
    | normal =>
      have h : l4E (fun x29a x29l x29c x30 x31 m => ∃ N1, N1 < N ∧ I N1 x29a x29l x29c x30 x31 m) ρ m := h
      unfold l4E at h
      obtain ⟨x29a, x29l, x29c, e29, h⟩ := h.ex
      obtain ⟨x30, e30, h⟩ := h.ex
      obtain ⟨x31, e31, h⟩ := h.ex
      obtain ⟨N1, hlt, h⟩ := h
      exact ⟨N1, hlt, (by show l4E (I N1) ρ m; unfold l4E; rw [e29, e30, e31]; exact h)⟩
    | _ => exact h
  have hh := hs N x29a x29l x29c x30 x31 m h
  generalize (fun x29a x29l x29c x30 x31 m => ∃ N1, N1 < N ∧ I N1 x29a x29l x29c x30 x31 m : Option Addr → Nat → Nat → Int → Int → Mem → Prop) = K4 at hh ⊢
  rw [← upd_self e29, ← upd_self e30, ← upd_self e31]
  rw [← l4_er  K4 R]
  refine acpt_sound (P := P) (l4A  K4 R) _ _ _ True.intro ?_
  exact Eq.mp (l4_eq  K4 R x29a x29l x29c x30 x31 ρ m) hh
theorem k2_eq  (R : Ending → Mem → Prop) (r_1b : Nat) (r_1o : Nat) (x8 : Int) (x12 : Bool) (ρ : Env) (m : Mem) : k2  r_1b r_1o x8 x12 R m = acpt P od (panicR R) (k2A  R) (k2Q  R) (upd (upd (upd ρ 12 (.bool x12)) 8 (.int .i64 x8)) 1 (.pointer (some ⟨r_1b, r_1o, none⟩))) m := by kernel_rfl
theorem k2_er  (R : Ending → Mem → Prop) : (k2A  R).erase = sR (cE (sR (bB (sR (sL (sR (body))))))) := by kernel_rfl
theorem k2_ok  (R : Ending → Mem → Prop) (ρ : Env) (m : Mem) (h : (k2E fun r_1b r_1o x8 x12 m => k2  r_1b r_1o x8 x12 R m) ρ m) : cpt P od (panicR R) (sR (cE (sR (bB (sR (sL (sR (body)))))))) (k2Q  R) ρ m := by
  unfold k2E at h
  obtain ⟨r_1b, r_1o, e1, h⟩ := h.ex
  obtain ⟨x8, e8, h⟩ := h.ex
  obtain ⟨x12, e12, h⟩ := h.ex
  rw [← upd_self e1, ← upd_self e8, ← upd_self e12]
  rw [← k2_er  R]
  refine acpt_sound (P := P) (k2A  R) _ _ _ ⟨⟨True.intro, ⟨(fun ρ m h => l3_ok  R ρ m h), True.intro⟩⟩, ⟨⟨⟨(fun ρ m h => l4_ok  R ρ m h), True.intro⟩, True.intro⟩, True.intro⟩⟩ ?_
  exact Eq.mp (k2_eq  R r_1b r_1o x8 x12 ρ m) h
theorem k1_eq  (R : Ending → Mem → Prop) (r_1b : Nat) (r_1o : Nat) (x8 : Int) (x9 : Bool) (ρ : Env) (m : Mem) : k1  r_1b r_1o x8 x9 R m = acpt P od (panicR R) (k1A  R) (k1Q  R) (upd (upd (upd ρ 9 (.bool x9)) 8 (.int .i64 x8)) 1 (.pointer (some ⟨r_1b, r_1o, none⟩))) m := by kernel_rfl
theorem k1_er  (R : Ending → Mem → Prop) : (k1A  R).erase = sR (bB (sR (sL (sR (body))))) := by kernel_rfl
theorem k1_ok  (R : Ending → Mem → Prop) (ρ : Env) (m : Mem) (h : (k1E fun r_1b r_1o x8 x9 m => k1  r_1b r_1o x8 x9 R m) ρ m) : cpt P od (panicR R) (sR (bB (sR (sL (sR (body)))))) (k1Q  R) ρ m := by
  unfold k1E at h
  obtain ⟨r_1b, r_1o, e1, h⟩ := h.ex
  obtain ⟨x8, e8, h⟩ := h.ex
  obtain ⟨x9, e9, h⟩ := h.ex
  rw [← upd_self e1, ← upd_self e8, ← upd_self e9]
  rw [← k1_er  R]
  refine acpt_sound (P := P) (k1A  R) _ _ _ ⟨True.intro, ⟨(fun ρ m h => k2_ok  R ρ m h), True.intro⟩⟩ ?_
  exact Eq.mp (k1_eq  R r_1b r_1o x8 x9 ρ m) h
theorem e0_eq (r_0_0 : Int) (r_0_1 : Int) (r_0_2 : Int) (r_0_3 : Int) (r_0_4 : Int) (r_0_5a : Option Addr) (r_0_5l : Nat) (r_0_5c : Nat) (R : Ending → Mem → Prop) (m : Mem) : e0 r_0_0 r_0_1 r_0_2 r_0_3 r_0_4 r_0_5a r_0_5l r_0_5c R m = acpt P od (panicR R) (e0A R) (bodyQ P fn R) (argE (#[.agg #[.int .i64 r_0_0, .int .u64 r_0_1, .int .u64 r_0_2, .int .u64 r_0_3, .int .u64 r_0_4, .slice r_0_5a r_0_5l r_0_5c]] : Array Value).toList) m := by kernel_rfl
theorem ok (r_0_0 : Int) (r_0_1 : Int) (r_0_2 : Int) (r_0_3 : Int) (r_0_4 : Int) (r_0_5a : Option Addr) (r_0_5l : Nat) (r_0_5c : Nat) (R : Ending → Mem → Prop) (m : Mem) (h : e0 r_0_0 r_0_1 r_0_2 r_0_3 r_0_4 r_0_5a r_0_5l r_0_5c R m) : HC P id #[.agg #[.int .i64 r_0_0, .int .u64 r_0_1, .int .u64 r_0_2, .int .u64 r_0_3, .int .u64 r_0_4, .slice r_0_5a r_0_5l r_0_5c]] m R := by
  refine HC_of (fn := fn) (c := body) (od := od) (tb := tb) Go.Proofs.Tryd.func24 (by kernel_rfl) (by kernel_rfl) follows (by kernel_rfl) (of_decide_eq_true (by kernel_rfl)) ?_
  have he : (e0A R).erase = body := by kernel_rfl
  rw [← he]
  refine acpt_sound (P := P) (e0A R) _ _ _ ⟨⟨True.intro, ⟨⟨(fun ρ m h => k1_ok  R ρ m h), True.intro⟩, True.intro⟩⟩, True.intro⟩ ?_
  exact Eq.mp (e0_eq r_0_0 r_0_1 r_0_2 r_0_3 r_0_4 r_0_5a r_0_5l r_0_5c R m) h
end regex_Null
/-! ### eyot/regex.In -/
namespace regex_In
noncomputable def fn : Func := Go.Proofs.Tryd.f26
noncomputable def body : Code := fn.body.getD .skip
def od : Nat → Ord := fun _ => .done
def tb : Nat → Tab := fun _ => (0, [], [])
def e0 (r_0_0 : Int) (r_0_1 : Int) (r_0_2 : Int) (r_0_3 : Int) (r_0_4 : Int) (r_0_5a : Option Addr) (r_0_5l : Nat) (r_0_5c : Nat) (w_1a : Option Addr) (w_1l : Nat) (w_1c : Nat) (R : Ending → Mem → Prop) (m : Mem) : Prop :=
 NewC m #[.int .i64 r_0_0, .int .u64 r_0_1, .int .u64 r_0_2, .int .u64 r_0_3, .int .u64 r_0_4, .slice r_0_5a r_0_5l r_0_5c] T_api_Rx fun b_r_2 m1 =>
 LdV m1 b_r_2 0 fun v =>
 UnI v .i64 fun x6_0 =>
 LdV m1 b_r_2 1 fun v =>
 UnI v .u64 fun x6_1 =>
 LdV m1 b_r_2 2 fun v =>
 UnI v .u64 fun x6_2 =>
 LdV m1 b_r_2 3 fun v =>
 UnI v .u64 fun x6_3 =>
 LdV m1 b_r_2 4 fun v =>
 UnI v .u64 fun x6_4 =>
 LdV m1 b_r_2 5 fun v =>
 UnS v fun x6_5a x6_5l x6_5c =>
 HC P regex_May.id #[.agg #[.int .i64 x6_0, .int .u64 x6_1, .int .u64 x6_2, .int .u64 x6_3, .int .u64 x6_4, .slice x6_5a x6_5l x6_5c]] m1 (Cont (fun v m2 =>
   UnI v .i64 fun x7 =>
   Br (x7 != 0) (
    R (.returned (.bool false)) m2) (
    MkS P m2 T_sl_bool (.int .i64 (IntKind.i64.wrap (((w_1l : Nat) : Int) + 1))) (.int .i64 (IntKind.i64.wrap (((w_1l : Nat) : Int) + 1))) (fun w m3 =>
     UnS w fun x12a x12l x12c =>
     IxS x12a x12l 0 1 fun x14b x14o =>
     St1 m3 x14b x14o (.bool true) fun m4 =>
     LdV m4 b_r_2 0 fun v =>
     UnI v .i64 fun x15_0 =>
     LdV m4 b_r_2 1 fun v =>
     UnI v .u64 fun x15_1 =>
     LdV m4 b_r_2 2 fun v =>
     UnI v .u64 fun x15_2 =>
     LdV m4 b_r_2 3 fun v =>
     UnI v .u64 fun x15_3 =>
     LdV m4 b_r_2 4 fun v =>
     UnI v .u64 fun x15_4 =>
     LdV m4 b_r_2 5 fun v =>
     UnS v fun x15_5a x15_5l x15_5c =>
     HC P regex_from.id #[.agg #[.int .i64 x15_0, .int .u64 x15_1, .int .u64 x15_2, .int .u64 x15_3, .int .u64 x15_4, .slice x15_5a x15_5l x15_5c], .slice w_1a w_1l w_1c, .slice x12a x12l x12c] m4 (Cont (fun v m5 =>
       UnS v fun x18a x18l x18c =>
       IxS x18a x18l ((w_1l : Nat) : Int) 1 fun x21b x21o =>
       LdV m5 x21b x21o fun v =>
       UnB v fun x22 =>
       R (.returned (.bool x22)) m5) (panicR R))) (panicR R))) (panicR R))
noncomputable def e0A (R : Ending → Mem → Prop) : ACode := (.code (body))
theorem e0_eq (r_0_0 : Int) (r_0_1 : Int) (r_0_2 : Int) (r_0_3 : Int) (r_0_4 : Int) (r_0_5a : Option Addr) (r_0_5l : Nat) (r_0_5c : Nat) (w_1a : Option Addr) (w_1l : Nat) (w_1c : Nat) (R : Ending → Mem → Prop) (m : Mem) : e0 r_0_0 r_0_1 r_0_2 r_0_3 r_0_4 r_0_5a r_0_5l r_0_5c w_1a w_1l w_1c R m = acpt P od (panicR R) (e0A R) (bodyQ P fn R) (argE (#[.agg #[.int .i64 r_0_0, .int .u64 r_0_1, .int .u64 r_0_2, .int .u64 r_0_3, .int .u64 r_0_4, .slice r_0_5a r_0_5l r_0_5c], .slice w_1a w_1l w_1c] : Array Value).toList) m := by kernel_rfl
theorem ok (r_0_0 : Int) (r_0_1 : Int) (r_0_2 : Int) (r_0_3 : Int) (r_0_4 : Int) (r_0_5a : Option Addr) (r_0_5l : Nat) (r_0_5c : Nat) (w_1a : Option Addr) (w_1l : Nat) (w_1c : Nat) (R : Ending → Mem → Prop) (m : Mem) (h : e0 r_0_0 r_0_1 r_0_2 r_0_3 r_0_4 r_0_5a r_0_5l r_0_5c w_1a w_1l w_1c R m) : HC P id #[.agg #[.int .i64 r_0_0, .int .u64 r_0_1, .int .u64 r_0_2, .int .u64 r_0_3, .int .u64 r_0_4, .slice r_0_5a r_0_5l r_0_5c], .slice w_1a w_1l w_1c] m R := by
  refine HC_of (fn := fn) (c := body) (od := od) (tb := tb) Go.Proofs.Tryd.func26 (by kernel_rfl) (by kernel_rfl) follows (by kernel_rfl) (of_decide_eq_true (by kernel_rfl)) ?_
  have he : (e0A R).erase = body := by kernel_rfl
  rw [← he]
  refine acpt_sound (P := P) (e0A R) _ _ _ True.intro ?_
  exact Eq.mp (e0_eq r_0_0 r_0_1 r_0_2 r_0_3 r_0_4 r_0_5a r_0_5l r_0_5c w_1a w_1l w_1c R m) h
end regex_In
/-! ### eyot/eyotref8.Of -/
namespace eyotref8_Of
noncomputable def fn : Func := Go.Proofs.Tryd.f28
noncomputable def body : Code := fn.body.getD .skip
def od : Nat → Ord := fun | 5 => ordL [(0, 3), (1, 3), (2, 3), (3, 1), (4, 3), (5, 3), (6, 1), (7, 3), (8, 3), (9, 3), (10, 0), (11, 3), (12, 3), (13, 3), (14, 3), (15, 2)] .done | _ => .done
def tb : Nat → Tab := fun | 5 => (32768, [0, 0, 3, 7, 15, 31, 63, 0, 0, 384, 896, 1920, 3968, 8191, 16383, 32767], [(0, 1, 12), (0, 16, 13), (3, 6144, 14), (4, 8192, 15), (8, 16384, 16), (16, 32776, 17), (32, 65536, 18), (0, 1, 19), (0, 16, 20), (384, 786432, 21), (512, 1048576, 22), (1024, 2097152, 23), (2048, 4194304, 24), (4160, 8519680, 25), (16383, 32776, 26), (32767, 50331648, 0)]) | _ => (0, [], [])
def l1E (K : Option Addr → Nat → Nat → Nat → Nat → Nat → Nat → Int → Mem → Prop) : Env → Mem → Prop := fun ρ m => UnS (ρ 0) fun l_0a l_0l l_0c => UnPA (ρ 2) fun x2b x2o => UnPA (ρ 3) fun s_3b s_3o => UnI (ρ 4) .i64 fun i_4 => K l_0a l_0l l_0c x2b x2o s_3b s_3o i_4 m
def l1B  (K1 : Option Addr → Nat → Nat → Nat → Nat → Nat → Nat → Int → Mem → Prop) (l_0a : Option Addr) (l_0l : Nat) (l_0c : Nat) (x2b : Nat) (x2o : Nat) (s_3b : Nat) (s_3o : Nat) (i_4 : Int) (R : Ending → Mem → Prop) (m : Mem) : Prop :=
 Br (decide (i_4 < ((l_0l : Nat) : Int))) (
  Sub m fun r1 =>
  IxS l_0a l_0l i_4 1 fun x13b x13o =>
  LdV r1 x13b x13o fun v =>
  UnI v .u8 fun x14 =>
  0 ≤ (IntKind.u8.wrap (Int.tdiv x14 64) : Int) ∧ (IntKind.u8.wrap (Int.tdiv x14 64) : Int) < (4 : Nat) ∧ (
   LdV r1 s_3b (s_3o + (IntKind.u8.wrap (Int.tdiv x14 64) : Int).toNat * 1) fun v =>
   UnI v .u64 fun x17 =>
   IxS l_0a l_0l i_4 1 fun x20b x20o =>
   LdV m x20b x20o fun v =>
   UnI v .u8 fun x21 =>
   NnI (Int.tmod x21 64) (
    0 ≤ (IntKind.u8.wrap (Int.tdiv x14 64) : Int) ∧ (IntKind.u8.wrap (Int.tdiv x14 64) : Int) < (4 : Nat) ∧ (
     St1 m s_3b (s_3o + (IntKind.u8.wrap (Int.tdiv x14 64) : Int).toNat * 1) (.int .u64 (bitsV .or .u64 x17 (shlV .u64 1 (Int.tmod x21 64)))) fun m2 =>
     K1 l_0a l_0l l_0c x2b x2o s_3b s_3o (IntKind.i64.wrap (i_4 + 1)) m2)))) (
  LdV m s_3b s_3o fun v =>
  UnI v .u64 fun x26_0 =>
  LdV m s_3b (s_3o + 1) fun v =>
  UnI v .u64 fun x26_1 =>
  LdV m s_3b (s_3o + 2) fun v =>
  UnI v .u64 fun x26_2 =>
  LdV m s_3b (s_3o + 3) fun v =>
  UnI v .u64 fun x26_3 =>
  St1 m x2b x2o (.int .u64 x26_0) fun m1 =>
  St1 m1 x2b (x2o + 1) (.int .u64 x26_1) fun m2 =>
  St1 m2 x2b (x2o + 2) (.int .u64 x26_2) fun m3 =>
  St1 m3 x2b (x2o + 3) (.int .u64 x26_3) fun m4 =>
  LdV m4 x2b x2o fun v =>
  UnI v .u64 fun res0_0 =>
  LdV m4 x2b (x2o + 1) fun v =>
  UnI v .u64 fun res0_1 =>
  LdV m4 x2b (x2o + 2) fun v =>
  UnI v .u64 fun res0_2 =>
  LdV m4 x2b (x2o + 3) fun v =>
  UnI v .u64 fun res0_3 =>
  R (.returned (.agg #[.int .u64 res0_0, .int .u64 res0_1, .int .u64 res0_2, .int .u64 res0_3])) m4)
def l1  (l_0a : Option Addr) (l_0l : Nat) (l_0c : Nat) (x2b : Nat) (x2o : Nat) (s_3b : Nat) (s_3o : Nat) (i_4 : Int) (R : Ending → Mem → Prop) (m : Mem) : Prop :=
  ∃ (I : Nat → Option Addr → Nat → Nat → Nat → Nat → Nat → Nat → Int → Mem → Prop) (N : Nat), I N l_0a l_0l l_0c x2b x2o s_3b s_3o i_4 m ∧ ∀ N l_0a l_0l l_0c x2b x2o s_3b s_3o i_4 m, I N l_0a l_0l l_0c x2b x2o s_3b s_3o i_4 m → l1B  (fun l_0a l_0l l_0c x2b x2o s_3b s_3o i_4 m => ∃ N1, N1 < N ∧ I N1 l_0a l_0l l_0c x2b x2o s_3b s_3o i_4 m) l_0a l_0l l_0c x2b x2o s_3b s_3o i_4 R m
noncomputable def l1A  (K1 : Option Addr → Nat → Nat → Nat → Nat → Nat → Nat → Int → Mem → Prop) (R : Ending → Mem → Prop) : ACode := (.code (lP (bB (sR (sL (sR (sR (body))))))))
def e0 (l_0a : Option Addr) (l_0l : Nat) (l_0c : Nat) (R : Ending → Mem → Prop) (m : Mem) : Prop :=
 NewC m #[.int .u64 0, .int .u64 0, .int .u64 0, .int .u64 0] T_api_Set fun b2 m1 =>
 NewC m1 #[.int .u64 0, .int .u64 0, .int .u64 0, .int .u64 0] T_api_Set fun b_s_3 m2 =>
 l1  l_0a l_0l l_0c b2 0 b_s_3 0 0 R m2
noncomputable def e0A (R : Ending → Mem → Prop) : ACode := (.seq (.code (sL (body))) (.seq (.code (sL (sR (body)))) (.seq (.seq (.code (sL (sL (sR (sR (body)))))) (.block 0 (.cut (l1E fun l_0a l_0l l_0c x2b x2o s_3b s_3o i_4 m => l1  l_0a l_0l l_0c x2b x2o s_3b s_3o i_4 R m) (.loop (lP (bB (sR (sL (sR (sR (body))))))))))) (.code (sR (sR (sR (body))))))))
abbrev l1Q  (R : Ending → Mem → Prop) : Exit → Env → Mem → Prop := (blockQ 0 (thenQ (acpt P od (panicR R) (.code (sR (sR (sR (body))))) (bodyQ P fn R)) (bodyQ P fn R)))
theorem l1_eq  (K1 : Option Addr → Nat → Nat → Nat → Nat → Nat → Nat → Int → Mem → Prop) (R : Ending → Mem → Prop) (l_0a : Option Addr) (l_0l : Nat) (l_0c : Nat) (x2b : Nat) (x2o : Nat) (s_3b : Nat) (s_3o : Nat) (i_4 : Int) (ρ : Env) (m : Mem) : l1B  K1 l_0a l_0l l_0c x2b x2o s_3b s_3o i_4 R m = acpt P od (panicR R) (l1A  K1 R) (thenQ (l1E K1) (l1Q  R)) (upd (upd (upd (upd ρ 4 (.int .i64 i_4)) 3 (.pointer (some ⟨s_3b, s_3o, none⟩))) 2 (.pointer (some ⟨x2b, x2o, none⟩))) 0 (.slice l_0a l_0l l_0c)) m := by kernel_rfl
theorem l1_er  (K1 : Option Addr → Nat → Nat → Nat → Nat → Nat → Nat → Int → Mem → Prop) (R : Ending → Mem → Prop) : (l1A  K1 R).erase = lP (bB (sR (sL (sR (sR (body)))))) := by kernel_rfl
theorem l1_ok  (R : Ending → Mem → Prop) (ρ : Env) (m : Mem) (h : (l1E fun l_0a l_0l l_0c x2b x2o s_3b s_3o i_4 m => l1  l_0a l_0l l_0c x2b x2o s_3b s_3o i_4 R m) ρ m) : cpt P od (panicR R) (.loop (lP (bB (sR (sL (sR (sR (body)))))))) (l1Q  R) ρ m := by
  unfold l1E at h
  obtain ⟨l_0a, l_0l, l_0c, e0, h⟩ := h.ex
  obtain ⟨x2b, x2o, e2, h⟩ := h.ex
  obtain ⟨s_3b, s_3o, e3, h⟩ := h.ex
  obtain ⟨i_4, e4, h⟩ := h.ex
  obtain ⟨I, N, h0, hs⟩ := h
  refine ⟨fun N => l1E (I N), N, (by show l1E (I N) ρ m; unfold l1E; rw [e0, e2, e3, e4]; exact h0), ?_⟩
  clear h0 e0 e2 e3 e4
  intro N ρ m h
  unfold l1E at h
  obtain ⟨l_0a, l_0l, l_0c, e0, h⟩ := h.ex
  obtain ⟨x2b, x2o, e2, h⟩ := h.ex
  obtain ⟨s_3b, s_3o, e3, h⟩ := h.ex
  obtain ⟨i_4, e4, h⟩ := h.ex
  refine cpt_mono (P := P) (lP (bB (sR (sL (sR (sR (body))))))) (Q := thenQ (l1E fun l_0a l_0l l_0c x2b x2o s_3b s_3o i_4 m => ∃ N1, N1 < N ∧ I N1 l_0a l_0l l_0c x2b x2o s_3b s_3o i_4 m) (l1Q  R)) (fun e ρ m h => ?_) ρ m ?_
  · cases e with
    | normal =>
      have h : l1E (fun l_0a l_0l l_0c x2b x2o s_3b s_3o i_4 m => ∃ N1, N1 < N ∧ I N1 l_0a l_0l l_0c x2b x2o s_3b s_3o i_4 m) ρ m := h
      unfold l1E at h
      obtain ⟨l_0a, l_0l, l_0c, e0, h⟩ := h.ex
      obtain ⟨x2b, x2o, e2, h⟩ := h.ex
      obtain ⟨s_3b, s_3o, e3, h⟩ := h.ex
      obtain ⟨i_4, e4, h⟩ := h.ex
      obtain ⟨N1, hlt, h⟩ := h
      exact ⟨N1, hlt, (by show l1E (I N1) ρ m; unfold l1E; rw [e0, e2, e3, e4]; exact h)⟩
    | _ => exact h
  have hh := hs N l_0a l_0l l_0c x2b x2o s_3b s_3o i_4 m h
  generalize (fun l_0a l_0l l_0c x2b x2o s_3b s_3o i_4 m => ∃ N1, N1 < N ∧ I N1 l_0a l_0l l_0c x2b x2o s_3b s_3o i_4 m : Option Addr → Nat → Nat → Nat → Nat → Nat → Nat → Int → Mem → Prop) = K1 at hh ⊢
  rw [← upd_self e0, ← upd_self e2, ← upd_self e3, ← upd_self e4]
  rw [← l1_er  K1 R]
  refine acpt_sound (P := P) (l1A  K1 R) _ _ _ True.intro ?_
  exact Eq.mp (l1_eq  K1 R l_0a l_0l l_0c x2b x2o s_3b s_3o i_4 ρ m) hh
theorem e0_eq (l_0a : Option Addr) (l_0l : Nat) (l_0c : Nat) (R : Ending → Mem → Prop) (m : Mem) : e0 l_0a l_0l l_0c R m = acpt P od (panicR R) (e0A R) (bodyQ P fn R) (argE (#[.slice l_0a l_0l l_0c] : Array Value).toList) m := by kernel_rfl
theorem ok (l_0a : Option Addr) (l_0l : Nat) (l_0c : Nat) (R : Ending → Mem → Prop) (m : Mem) (h : e0 l_0a l_0l l_0c R m) : HC P id #[.slice l_0a l_0l l_0c] m R := by
  refine HC_of (fn := fn) (c := body) (od := od) (tb := tb) Go.Proofs.Tryd.func28 (by kernel_rfl) (by kernel_rfl) follows (by kernel_rfl) (of_decide_eq_true (by kernel_rfl)) ?_
  have he : (e0A R).erase = body := by kernel_rfl
  rw [← he]
  refine acpt_sound (P := P) (e0A R) _ _ _ ⟨⟨⟨True.intro, ⟨(fun ρ m h => l1_ok  R ρ m h), True.intro⟩⟩, True.intro⟩, True.intro⟩ ?_
  exact Eq.mp (e0_eq l_0a l_0l l_0c R m) h
end eyotref8_Of
/-! ### eyot/regex.Parse$1 -/
namespace regex_Parse_1
noncomputable def fn : Func := Go.Proofs.Tryd.f29
noncomputable def body : Code := fn.body.getD .skip
noncomputable def ops : Array Oper := rgOps (sL body)
def od : Nat → Ord := fun | 2 => ordL [(0, 3), (1, 3), (2, 1), (3, 0), (4, 2)] .done | _ => .done
def tb : Nat → Tab := fun | 2 => (16, [0, 0, 2, 1, 15], [(0, 0, 11), (0, 4, 12), (2, 2048, 13), (1, 1025, 0), (15, 4098, 0)]) | _ => (0, [], [])
def tnone (c0b : Nat) (c1b : Nat)  (K : Mem → Prop) (m : Mem) : Prop :=
 NewC m #[.int .i64 0] T_regex_refusal fun b_f_2 m1 =>
 St1 m1 b_f_2 0 (.int .i64 0) fun m2 =>
 K m2
theorem df_none (c0b : Nat) (c1b : Nat)  (K : Mem → Prop) (m : Mem) (h : tnone c0b c1b  K m) : DF P id #[.pointer (some ⟨c0b, 0, none⟩), .pointer (some ⟨c1b, 0, none⟩)] none m K := by
  refine DF_of (tb := tb) (od := od) (gn := fn) (id := 0) (d := 5) (ops := ops) (ol := ops.toList.tail) (rest := sR body) (tys := #[]) (ty := 20) (pos := "regex.go:92") (af := #[])
    Go.Proofs.Tryd.func29 (by kernel_rfl) follows (by kernel_rfl) (by kernel_rfl) (by kernel_rfl) (of_decide_eq_true (by kernel_rfl)) (by kernel_rfl) ?_
  have e : tnone c0b c1b  K m = hops P ops (fun ρ m => cpt P od (fun _ _ => False) (sR body) (doneQ K) ρ m) (fun _ _ => False) ops.toList.tail (upd (argE (#[.pointer (some ⟨c0b, 0, none⟩), .pointer (some ⟨c1b, 0, none⟩)] : Array Value).toList) 5 (recV none)) m := by kernel_rfl
  exact Eq.mp e h
def tsome (c0b : Nat) (c1b : Nat) (v0 : Int) (K : Mem → Prop) (m : Mem) : Prop :=
 NewC m #[.int .i64 0] T_regex_refusal fun b_f_2 m1 =>
 St1 m1 b_f_2 0 (.int .i64 v0) fun m2 =>
 Sub m2 fun r3 =>
 LdV r3 b_f_2 0 fun v =>
 UnI v .i64 fun x12 =>
 St1 m2 c0b 0 (.int .i64 0) fun m4 =>
 St1 m4 c0b 1 (.int .u64 0) fun m5 =>
 St1 m5 c0b 2 (.int .u64 0) fun m6 =>
 St1 m6 c0b 3 (.int .u64 0) fun m7 =>
 St1 m7 c0b 4 (.int .u64 0) fun m8 =>
 St1 m8 c0b 5 (.slice none 0 0) fun m9 =>
 Lk r3 m9 fun r10 =>
 St1 m9 c1b 0 (.int .i64 x12) fun m11 =>
 K m11
theorem df_some (c0b : Nat) (c1b : Nat) (v0 : Int) (K : Mem → Prop) (m : Mem) (h : tsome c0b c1b v0 K m) : DF P id #[.pointer (some ⟨c0b, 0, none⟩), .pointer (some ⟨c1b, 0, none⟩)] (some (.iface T_regex_refusal (.agg #[.int .i64 v0]))) m K := by
  refine DF_of (tb := tb) (od := od) (gn := fn) (id := 0) (d := 5) (ops := ops) (ol := ops.toList.tail) (rest := sR body) (tys := #[]) (ty := 20) (pos := "regex.go:92") (af := #[])
    Go.Proofs.Tryd.func29 (by kernel_rfl) follows (by kernel_rfl) (by kernel_rfl) (by kernel_rfl) (of_decide_eq_true (by kernel_rfl)) (by kernel_rfl) ?_
  have e : tsome c0b c1b v0 K m = hops P ops (fun ρ m => cpt P od (fun _ _ => False) (sR body) (doneQ K) ρ m) (fun _ _ => False) ops.toList.tail (upd (argE (#[.pointer (some ⟨c0b, 0, none⟩), .pointer (some ⟨c1b, 0, none⟩)] : Array Value).toList) 5 (recV (some (.iface T_regex_refusal (.agg #[.int .i64 v0]))))) m := by kernel_rfl
  exact Eq.mp e h
end regex_Parse_1
/-! ### (*eyot/regex.reader).alt -/
namespace regex_reader_alt
noncomputable def fn : Func := Go.Proofs.Tryd.f30
noncomputable def body : Code := fn.body.getD .skip
def od : Nat → Ord := fun _ => .done
def tb : Nat → Tab := fun _ => (0, [], [])
def l1E (K : Option Addr → Nat → Nat → Option Addr → Nat → Nat → Mem → Prop) : Env → Mem → Prop := fun ρ m => UnP (ρ 0) fun r_0 => UnPA (ρ 2) fun x2b x2o => UnS (ρ 3) fun l_3a l_3l l_3c => K r_0 x2b x2o l_3a l_3l l_3c m
def l1B  (K1 : Option Addr → Nat → Nat → Option Addr → Nat → Nat → Mem → Prop) (r_0 : Option Addr) (x2b : Nat) (x2o : Nat) (l_3a : Option Addr) (l_3l : Nat) (l_3c : Nat) (R : Ending → Mem → Prop) (m : Mem) : Prop :=
 HC P regex_reader_sees.id #[.pointer r_0, .int .u8 124] m (Cont (fun v m1 =>
   UnB v fun x8 =>
   Br x8 (
    NilC r_0 (fun x11b x11o =>
     LdV m1 x11b x11o fun v =>
     UnStr v fun x13 =>
     SlB x13 1 (x13.size : Int) fun x14 =>
     NilC r_0 (fun x15b x15o =>
      St1 m1 x15b x15o (.string x14) fun m2 =>
      HC P regex_reader_cat.id #[.pointer r_0] m2 (Cont (fun v m3 =>
        UnAgg v fun l =>
        UnCons l fun v l =>
        UnI v .i64 fun x19_0 =>
        UnCons l fun v l =>
        UnI v .u64 fun x19_1 =>
        UnCons l fun v l =>
        UnI v .u64 fun x19_2 =>
        UnCons l fun v l =>
        UnI v .u64 fun x19_3 =>
        UnCons l fun v l =>
        UnI v .u64 fun x19_4 =>
        UnCons l fun v l =>
        UnS v fun x19_5a x19_5l x19_5c =>
        UnNil l (
        NewC m3 #[.int .i64 x19_0, .int .u64 x19_1, .int .u64 x19_2, .int .u64 x19_3, .int .u64 x19_4, .slice x19_5a x19_5l x19_5c] T_api_Rx fun b20 m4 =>
        BiN P .append #[T_sl_api_Rx, T_sl_api_Rx] T_sl_api_Rx #[false, false] #[.slice l_3a l_3l l_3c, .slice (some ⟨b20, 0, none⟩) 1 1] m4 (fun w m5 =>
        UnS w fun x21a x21l x21c =>
        K1 r_0 x2b x2o x21a x21l x21c m5) (panicR R))) (panicR R))) (R (.panicked (nilPanic P)) m1)) (R (.panicked (nilPanic P)) m1)) (
    HC P regex_one.id #[.int .i64 3, .slice l_3a l_3l l_3c] m1 (Cont (fun v m2 =>
      UnAgg v fun l =>
      UnCons l fun v l =>
      UnI v .i64 fun x23_0 =>
      UnCons l fun v l =>
      UnI v .u64 fun x23_1 =>
      UnCons l fun v l =>
      UnI v .u64 fun x23_2 =>
      UnCons l fun v l =>
      UnI v .u64 fun x23_3 =>
      UnCons l fun v l =>
      UnI v .u64 fun x23_4 =>
      UnCons l fun v l =>
      UnS v fun x23_5a x23_5l x23_5c =>
      UnNil l (
       St1 m2 x2b x2o (.int .i64 x23_0) fun m3 =>
       St1 m3 x2b (x2o + 1) (.int .u64 x23_1) fun m4 =>
       St1 m4 x2b (x2o + 2) (.int .u64 x23_2) fun m5 =>
       St1 m5 x2b (x2o + 3) (.int .u64 x23_3) fun m6 =>
       St1 m6 x2b (x2o + 4) (.int .u64 x23_4) fun m7 =>
       St1 m7 x2b (x2o + 5) (.slice x23_5a x23_5l x23_5c) fun m8 =>
       LdV m8 x2b x2o fun v =>
       UnI v .i64 fun res0_0 =>
       LdV m8 x2b (x2o + 1) fun v =>
       UnI v .u64 fun res0_1 =>
       LdV m8 x2b (x2o + 2) fun v =>
       UnI v .u64 fun res0_2 =>
       LdV m8 x2b (x2o + 3) fun v =>
       UnI v .u64 fun res0_3 =>
       LdV m8 x2b (x2o + 4) fun v =>
       UnI v .u64 fun res0_4 =>
       LdV m8 x2b (x2o + 5) fun v =>
       UnS v fun res0_5a res0_5l res0_5c =>
       R (.returned (.agg #[.int .i64 res0_0, .int .u64 res0_1, .int .u64 res0_2, .int .u64 res0_3, .int .u64 res0_4, .slice res0_5a res0_5l res0_5c])) m8)) (panicR R)))) (panicR R))
def l1  (r_0 : Option Addr) (x2b : Nat) (x2o : Nat) (l_3a : Option Addr) (l_3l : Nat) (l_3c : Nat) (R : Ending → Mem → Prop) (m : Mem) : Prop :=
  ∃ (I : Nat → Option Addr → Nat → Nat → Option Addr → Nat → Nat → Mem → Prop) (N : Nat), I N r_0 x2b x2o l_3a l_3l l_3c m ∧ ∀ N r_0 x2b x2o l_3a l_3l l_3c m, I N r_0 x2b x2o l_3a l_3l l_3c m → l1B  (fun r_0 x2b x2o l_3a l_3l l_3c m => ∃ N1, N1 < N ∧ I N1 r_0 x2b x2o l_3a l_3l l_3c m) r_0 x2b x2o l_3a l_3l l_3c R m
noncomputable def l1A  (K1 : Option Addr → Nat → Nat → Option Addr → Nat → Nat → Mem → Prop) (R : Ending → Mem → Prop) : ACode := (.code (lP (bB (sL (sR (sR (body)))))))
def e0 (r_0 : Option Addr) (R : Ending → Mem → Prop) (m : Mem) : Prop :=
 NewC m #[.int .i64 0, .int .u64 0, .int .u64 0, .int .u64 0, .int .u64 0, .slice none 0 0] T_api_Rx fun b2 m1 =>
 HC P regex_reader_cat.id #[.pointer r_0] m1 (Cont (fun v m2 =>
   UnAgg v fun l =>
   UnCons l fun v l =>
   UnI v .i64 fun x5_0 =>
   UnCons l fun v l =>
   UnI v .u64 fun x5_1 =>
   UnCons l fun v l =>
   UnI v .u64 fun x5_2 =>
   UnCons l fun v l =>
   UnI v .u64 fun x5_3 =>
   UnCons l fun v l =>
   UnI v .u64 fun x5_4 =>
   UnCons l fun v l =>
   UnS v fun x5_5a x5_5l x5_5c =>
   UnNil l (
    NewC m2 #[.int .i64 x5_0, .int .u64 x5_1, .int .u64 x5_2, .int .u64 x5_3, .int .u64 x5_4, .slice x5_5a x5_5l x5_5c] T_api_Rx fun b6 m3 =>
    l1  r_0 b2 0 (some ⟨b6, 0, none⟩) 1 1 R m3)) (panicR R))
noncomputable def e0A (R : Ending → Mem → Prop) : ACode := (.seq (.code (sL (body))) (.seq (.code (sL (sR (body)))) (.seq (.block 0 (.cut (l1E fun r_0 x2b x2o l_3a l_3l l_3c m => l1  r_0 x2b x2o l_3a l_3l l_3c R m) (.loop (lP (bB (sL (sR (sR (body))))))))) (.code (sR (sR (sR (body))))))))
abbrev l1Q  (R : Ending → Mem → Prop) : Exit → Env → Mem → Prop := (blockQ 0 (thenQ (acpt P od (panicR R) (.code (sR (sR (sR (body))))) (bodyQ P fn R)) (bodyQ P fn R)))
theorem l1_eq  (K1 : Option Addr → Nat → Nat → Option Addr → Nat → Nat → Mem → Prop) (R : Ending → Mem → Prop) (r_0 : Option Addr) (x2b : Nat) (x2o : Nat) (l_3a : Option Addr) (l_3l : Nat) (l_3c : Nat) (ρ : Env) (m : Mem) : l1B  K1 r_0 x2b x2o l_3a l_3l l_3c R m = acpt P od (panicR R) (l1A  K1 R) (thenQ (l1E K1) (l1Q  R)) (upd (upd (upd ρ 3 (.slice l_3a l_3l l_3c)) 2 (.pointer (some ⟨x2b, x2o, none⟩))) 0 (.pointer r_0)) m := by kernel_rfl
theorem l1_er  (K1 : Option Addr → Nat → Nat → Option Addr → Nat → Nat → Mem → Prop) (R : Ending → Mem → Prop) : (l1A  K1 R).erase = lP (bB (sL (sR (sR (body))))) := by kernel_rfl
theorem l1_ok  (R : Ending → Mem → Prop) (ρ : Env) (m : Mem) (h : (l1E fun r_0 x2b x2o l_3a l_3l l_3c m => l1  r_0 x2b x2o l_3a l_3l l_3c R m) ρ m) : cpt P od (panicR R) (.loop (lP (bB (sL (sR (sR (body))))))) (l1Q  R) ρ m := by
  unfold l1E at h
  obtain ⟨r_0, e0, h⟩ := h.ex
  obtain ⟨x2b, x2o, e2, h⟩ := h.ex
  obtain ⟨l_3a, l_3l, l_3c, e3, h⟩ := h.ex
  obtain ⟨I, N, h0, hs⟩ := h
  refine ⟨fun N => l1E (I N), N, (by show l1E (I N) ρ m; unfold l1E; rw [e0, e2, e3]; exact h0), ?_⟩
  clear h0 e0 e2 e3
  intro N ρ m h
  unfold l1E at h
  obtain ⟨r_0, e0, h⟩ := h.ex
  obtain ⟨x2b, x2o, e2, h⟩ := h.ex
  obtain ⟨l_3a, l_3l, l_3c, e3, h⟩ := h.ex
  refine cpt_mono (P := P) (lP (bB (sL (sR (sR (body)))))) (Q := thenQ (l1E fun r_0 x2b x2o l_3a l_3l l_3c m => ∃ N1, N1 < N ∧ I N1 r_0 x2b x2o l_3a l_3l l_3c m) (l1Q  R)) (fun e ρ m h => ?_) ρ m ?_
  · cases e with
    | normal =>
      have h : l1E (fun r_0 x2b x2o l_3a l_3l l_3c m => ∃ N1, N1 < N ∧ I N1 r_0 x2b x2o l_3a l_3l l_3c m) ρ m := h
      unfold l1E at h
      obtain ⟨r_0, e0, h⟩ := h.ex
      obtain ⟨x2b, x2o, e2, h⟩ := h.ex
      obtain ⟨l_3a, l_3l, l_3c, e3, h⟩ := h.ex
      obtain ⟨N1, hlt, h⟩ := h
      exact ⟨N1, hlt, (by show l1E (I N1) ρ m; unfold l1E; rw [e0, e2, e3]; exact h)⟩
    | _ => exact h
  have hh := hs N r_0 x2b x2o l_3a l_3l l_3c m h
  generalize (fun r_0 x2b x2o l_3a l_3l l_3c m => ∃ N1, N1 < N ∧ I N1 r_0 x2b x2o l_3a l_3l l_3c m : Option Addr → Nat → Nat → Option Addr → Nat → Nat → Mem → Prop) = K1 at hh ⊢
  rw [← upd_self e0, ← upd_self e2, ← upd_self e3]
  rw [← l1_er  K1 R]
  refine acpt_sound (P := P) (l1A  K1 R) _ _ _ True.intro ?_
  exact Eq.mp (l1_eq  K1 R r_0 x2b x2o l_3a l_3l l_3c ρ m) hh
theorem e0_eq (r_0 : Option Addr) (R : Ending → Mem → Prop) (m : Mem) : e0 r_0 R m = acpt P od (panicR R) (e0A R) (bodyQ P fn R) (argE (#[.pointer r_0] : Array Value).toList) m := by kernel_rfl
theorem ok (r_0 : Option Addr) (R : Ending → Mem → Prop) (m : Mem) (h : e0 r_0 R m) : HC P id #[.pointer r_0] m R := by
  refine HC_of (fn := fn) (c := body) (od := od) (tb := tb) Go.Proofs.Tryd.func30 (by kernel_rfl) (by kernel_rfl) follows (by kernel_rfl) (of_decide_eq_true (by kernel_rfl)) ?_
  have he : (e0A R).erase = body := by kernel_rfl
  rw [← he]
  refine acpt_sound (P := P) (e0A R) _ _ _ ⟨⟨⟨True.intro, (fun ρ m h => l1_ok  R ρ m h)⟩, True.intro⟩, True.intro⟩ ?_
  exact Eq.mp (e0_eq r_0 R m) h
end regex_reader_alt
end
end Go.E
set_option linter.unusedVariables false
set_option maxRecDepth 100000
namespace Go.E
open Go.H
noncomputable section
/-! ### eyot/regex.formed -/
namespace regex_formed
noncomputable def fn : Func := Go.Proofs.Tryd.f33
noncomputable def body : Code := fn.body.getD .skip
def od : Nat → Ord := fun _ => .done
def tb : Nat → Tab := fun _ => (0, [], [])
def l3E (K : Nat → Nat → Option Addr → Nat → Nat → Int → Int → Mem → Prop) : Env → Mem → Prop := fun ρ m => UnPA (ρ 1) fun x1b x1o => UnS (ρ 52) fun x52a x52l x52c => UnI (ρ 53) .i64 fun x53 => UnI (ρ 54) .i64 fun x54 => K x1b x1o x52a x52l x52c x53 x54 m
def l3B  (K3 : Nat → Nat → Option Addr → Nat → Nat → Int → Int → Mem → Prop) (x1b : Nat) (x1o : Nat) (x52a : Option Addr) (x52l : Nat) (x52c : Nat) (x53 : Int) (x54 : Int) (R : Ending → Mem → Prop) (m : Mem) : Prop :=
 Br (decide (x54 < x53)) (
  IxS x52a x52l x54 6 fun x56b x56o =>
  LdV m x56b x56o fun v =>
  UnI v .i64 fun x57_0 =>
  LdV m x56b (x56o + 1) fun v =>
  UnI v .u64 fun x57_1 =>
  LdV m x56b (x56o + 2) fun v =>
  UnI v .u64 fun x57_2 =>
  LdV m x56b (x56o + 3) fun v =>
  UnI v .u64 fun x57_3 =>
  LdV m x56b (x56o + 4) fun v =>
  UnI v .u64 fun x57_4 =>
  LdV m x56b (x56o + 5) fun v =>
  UnS v fun x57_5a x57_5l x57_5c =>
  NewC m #[.int .i64 0, .int .u64 0, .int .u64 0, .int .u64 0, .int .u64 0, .slice none 0 0] T_api_Rx fun b4 m1 =>
  St1 m1 b4 0 (.int .i64 x57_0) fun m2 =>
  St1 m2 b4 1 (.int .u64 x57_1) fun m3 =>
  St1 m3 b4 2 (.int .u64 x57_2) fun m4 =>
  St1 m4 b4 3 (.int .u64 x57_3) fun m5 =>
  St1 m5 b4 4 (.int .u64 x57_4) fun m6 =>
  St1 m6 b4 5 (.slice x57_5a x57_5l x57_5c) fun m7 =>
  LdV m7 b4 0 fun v =>
  UnI v .i64 fun x59 =>
  LdV m7 x1b x1o fun v =>
  UnI v .i64 fun x61 =>
  Br (x59 == x61) (
   R (.returned (.bool false)) m7) (
   LdV m7 b4 0 fun v =>
   UnI v .i64 fun x64_0 =>
   LdV m7 b4 1 fun v =>
   UnI v .u64 fun x64_1 =>
   LdV m7 b4 2 fun v =>
   UnI v .u64 fun x64_2 =>
   LdV m7 b4 3 fun v =>
   UnI v .u64 fun x64_3 =>
   LdV m7 b4 4 fun v =>
   UnI v .u64 fun x64_4 =>
   LdV m7 b4 5 fun v =>
   UnS v fun x64_5a x64_5l x64_5c =>
   HC P regex_formed.id #[.agg #[.int .i64 x64_0, .int .u64 x64_1, .int .u64 x64_2, .int .u64 x64_3, .int .u64 x64_4, .slice x64_5a x64_5l x64_5c]] m7 (Cont (fun v m8 =>
     UnB v fun x65 =>
     Br (!x65) (
      R (.returned (.bool false)) m8) (
      K3 x1b x1o x52a x52l x52c x53 (IntKind.i64.wrap (x54 + 1)) m8)) (panicR R)))) (
  R (.returned (.bool true)) m)
def l3  (x1b : Nat) (x1o : Nat) (x52a : Option Addr) (x52l : Nat) (x52c : Nat) (x53 : Int) (x54 : Int) (R : Ending → Mem → Prop) (m : Mem) : Prop :=
  ∃ (I : Nat → Nat → Nat → Option Addr → Nat → Nat → Int → Int → Mem → Prop) (N : Nat), I N x1b x1o x52a x52l x52c x53 x54 m ∧ ∀ N x1b x1o x52a x52l x52c x53 x54 m, I N x1b x1o x52a x52l x52c x53 x54 m → l3B  (fun x1b x1o x52a x52l x52c x53 x54 m => ∃ N1, N1 < N ∧ I N1 x1b x1o x52a x52l x52c x53 x54 m) x1b x1o x52a x52l x52c x53 x54 R m
noncomputable def l3A  (K3 : Nat → Nat → Option Addr → Nat → Nat → Int → Int → Mem → Prop) (R : Ending → Mem → Prop) : ACode := (.code (lP (bB (sR (sL (sR (sR (body))))))))
def k2E (K : Nat → Nat → Mem → Prop) : Env → Mem → Prop := fun ρ m => UnPA (ρ 1) fun x1b x1o => K x1b x1o m
def k2  (x1b : Nat) (x1o : Nat) (R : Ending → Mem → Prop) (m : Mem) : Prop :=
 LdV m x1b (x1o + 5) fun v =>
 UnS v fun x52a x52l x52c =>
 l3  x1b x1o x52a x52l x52c ((x52l : Nat) : Int) 0 R m
noncomputable def k2A  (R : Ending → Mem → Prop) : ACode := (.seq (.seq (.code (sL (sL (sR (sR (body)))))) (.block 1 (.cut (l3E fun x1b x1o x52a x52l x52c x53 x54 m => l3  x1b x1o x52a x52l x52c x53 x54 R m) (.loop (lP (bB (sR (sL (sR (sR (body))))))))))) (.code (sR (sR (sR (body))))))
def k1E (K : Nat → Nat → Bool → Mem → Prop) : Env → Mem → Prop := fun ρ m => UnPA (ρ 1) fun x1b x1o => UnB (ρ 24) fun x24 => K x1b x1o x24 m
def k1  (x1b : Nat) (x1o : Nat) (x24 : Bool) (R : Ending → Mem → Prop) (m : Mem) : Prop :=
 Br x24 (
  LdV m x1b (x1o + 5) fun v =>
  UnS v fun x32a x32l x32c =>
  Br (decide (((x32l : Nat) : Int) < 2)) (
   R (.returned (.bool false)) m) (
   k2  x1b x1o R m)) (
  LdV m x1b x1o fun v =>
  UnI v .i64 fun x37 =>
  HC P regex_sign.id #[.int .i64 x37] m (Cont (fun v m1 =>
    UnB v fun x38 =>
    Br x38 (
     LdV m1 x1b (x1o + 5) fun v =>
     UnS v fun x40a x40l x40c =>
     Br (((x40l : Nat) : Int) != 1) (
      R (.returned (.bool false)) m1) (
      LdV m1 x1b (x1o + 5) fun v =>
      UnS v fun x45a x45l x45c =>
      IxS x45a x45l 0 6 fun x46b x46o =>
      LdV m1 x46b x46o fun v =>
      UnI v .i64 fun x48 =>
      HC P regex_sign.id #[.int .i64 x48] m1 (Cont (fun v m2 =>
        UnB v fun x49 =>
        Br x49 (
        R (.returned (.bool false)) m2) (
        k2  x1b x1o R m2)) (panicR R)))) (
     R (.returned (.bool false)) m1)) (panicR R)))
noncomputable def k1A  (R : Ending → Mem → Prop) : ACode := (.code (sR (cE (sR (cE (sR (bB (sL (sR (body))))))))))
def e0 (a0_0 : Int) (a0_1 : Int) (a0_2 : Int) (a0_3 : Int) (a0_4 : Int) (a0_5a : Option Addr) (a0_5l : Nat) (a0_5c : Nat) (R : Ending → Mem → Prop) (m : Mem) : Prop :=
 NewC m #[.int .i64 a0_0, .int .u64 a0_1, .int .u64 a0_2, .int .u64 a0_3, .int .u64 a0_4, .slice a0_5a a0_5l a0_5c] T_api_Rx fun b1 m1 =>
 LdV m1 b1 0 fun v =>
 UnI v .i64 fun x7 =>
 Br (x7 == 1) (
  LdV m1 b1 5 fun v =>
  UnS v fun x10a x10l x10c =>
  Br (((x10l : Nat) : Int) == 0) (
   LdV m1 b1 1 fun v =>
   UnI v .u64 fun x15_0 =>
   LdV m1 b1 2 fun v =>
   UnI v .u64 fun x15_1 =>
   LdV m1 b1 3 fun v =>
   UnI v .u64 fun x15_2 =>
   LdV m1 b1 4 fun v =>
   UnI v .u64 fun x15_3 =>
   R (.returned (.bool (!(eqL [.int .u64 x15_0, .int .u64 x15_1, .int .u64 x15_2, .int .u64 x15_3] [.int .u64 0, .int .u64 0, .int .u64 0, .int .u64 0])))) m1) (
   R (.returned (.bool false)) m1)) (
  LdV m1 b1 1 fun v =>
  UnI v .u64 fun x21_0 =>
  LdV m1 b1 2 fun v =>
  UnI v .u64 fun x21_1 =>
  LdV m1 b1 3 fun v =>
  UnI v .u64 fun x21_2 =>
  LdV m1 b1 4 fun v =>
  UnI v .u64 fun x21_3 =>
  Br (!(eqL [.int .u64 x21_0, .int .u64 x21_1, .int .u64 x21_2, .int .u64 x21_3] [.int .u64 0, .int .u64 0, .int .u64 0, .int .u64 0])) (
   R (.returned (.bool false)) m1) (
   LdV m1 b1 0 fun v =>
   UnI v .i64 fun x26 =>
   Br (x26 == 2) (
    k1  b1 0 true R m1) (
    LdV m1 b1 0 fun v =>
    UnI v .i64 fun x29 =>
    k1  b1 0 (x29 == 3) R m1)))
noncomputable def e0A (R : Ending → Mem → Prop) : ACode := (.seq (.code (sL (body))) (.seq (.block 0 (.seq (.code (sL (bB (sL (sR (body)))))) (.cond (.tmp 5) (.code (cT (sR (bB (sL (sR (body))))))) (.seq (.code (sL (cE (sR (bB (sL (sR (body)))))))) (.cond (.tmp 19) (.code (cT (sR (cE (sR (bB (sL (sR (body))))))))) (.seq (.code (sL (cE (sR (cE (sR (bB (sL (sR (body)))))))))) (.cut (k1E fun x1b x1o x24 m => k1  x1b x1o x24 R m) (sR (cE (sR (cE (sR (bB (sL (sR (body)))))))))))))))) (.cut (k2E fun x1b x1o m => k2  x1b x1o R m) (sR (sR (body))))))
abbrev k2Q  (R : Ending → Mem → Prop) : Exit → Env → Mem → Prop := (bodyQ P fn R)
abbrev l3Q  (R : Ending → Mem → Prop) : Exit → Env → Mem → Prop := (blockQ 1 (thenQ (acpt P od (panicR R) (.code (sR (sR (sR (body))))) (k2Q  R)) (k2Q  R)))
abbrev k1Q  (R : Ending → Mem → Prop) : Exit → Env → Mem → Prop := (blockQ 0 (thenQ (acpt P od (panicR R) (.cut (k2E fun x1b x1o m => k2  x1b x1o R m) (sR (sR (body)))) (bodyQ P fn R)) (bodyQ P fn R)))
theorem l3_eq  (K3 : Nat → Nat → Option Addr → Nat → Nat → Int → Int → Mem → Prop) (R : Ending → Mem → Prop) (x1b : Nat) (x1o : Nat) (x52a : Option Addr) (x52l : Nat) (x52c : Nat) (x53 : Int) (x54 : Int) (ρ : Env) (m : Mem) : l3B  K3 x1b x1o x52a x52l x52c x53 x54 R m = acpt P od (panicR R) (l3A  K3 R) (thenQ (l3E K3) (l3Q  R)) (upd (upd (upd (upd ρ 54 (.int .i64 x54)) 53 (.int .i64 x53)) 52 (.slice x52a x52l x52c)) 1 (.pointer (some ⟨x1b, x1o, none⟩))) m := by kernel_rfl
theorem l3_er  (K3 : Nat → Nat → Option Addr → Nat → Nat → Int → Int → Mem → Prop) (R : Ending → Mem → Prop) : (l3A  K3 R).erase = lP (bB (sR (sL (sR (sR (body)))))) := by kernel_rfl
theorem l3_ok  (R : Ending → Mem → Prop) (ρ : Env) (m : Mem) (h : (l3E fun x1b x1o x52a x52l x52c x53 x54 m => l3  x1b x1o x52a x52l x52c x53 x54 R m) ρ m) : cpt P od (panicR R) (.loop (lP (bB (sR (sL (sR (sR (body)))))))) (l3Q  R) ρ m := by
  unfold l3E at h
  obtain ⟨x1b, x1o, e1, h⟩ := h.ex
  obtain ⟨x52a, x52l, x52c, e52, h⟩ := h.ex
  obtain ⟨x53, e53, h⟩ := h.ex
  obtain ⟨x54, e54, h⟩ := h.ex
  obtain ⟨I, N, h0, hs⟩ := h
  refine ⟨fun N => l3E (I N), N, (by show l3E (I N) ρ m; unfold l3E; rw [e1, e52, e53, e54]; exact h0), ?_⟩
  clear h0 e1 e52 e53 e54
  intro N ρ m h
  unfold l3E at h
  obtain ⟨x1b, x1o, e1, h⟩ := h.ex
  obtain ⟨x52a, x52l, x52c, e52, h⟩ := h.ex
  obtain ⟨x53, e53, h⟩ := h.ex
  obtain ⟨x54, e54, h⟩ := h.ex
  refine cpt_mono (P := P) (lP (bB (sR (sL (sR (sR (body))))))) (Q := thenQ (l3E fun x1b x1o x52a x52l x52c x53 x54 m => ∃ N1, N1 < N ∧ I N1 x1b x1o x52a x52l x52c x53 x54 m) (l3Q  R)) (fun e ρ m h => ?_) ρ m ?_
  · cases e with
    | normal =>
      have h : l3E (fun x1b x1o x52a x52l x52c x53 x54 m => ∃ N1, N1 < N ∧ I N1 x1b x1o x52a x52l x52c x53 x54 m) ρ m := h
      unfold l3E at h
      obtain ⟨x1b, x1o, e1, h⟩ := h.ex
      obtain ⟨x52a, x52l, x52c, e52, h⟩ := h.ex
      obtain ⟨x53, e53, h⟩ := h.ex
      obtain ⟨x54, e54, h⟩ := h.ex
      obtain ⟨N1, hlt, h⟩ := h
      exact ⟨N1, hlt, (by show l3E (I N1) ρ m; unfold l3E; rw [e1, e52, e53, e54]; exact h)⟩
    | _ => exact h
  have hh := hs N x1b x1o x52a x52l x52c x53 x54 m h
  generalize (fun x1b x1o x52a x52l x52c x53 x54 m => ∃ N1, N1 < N ∧ I N1 x1b x1o x52a x52l x52c x53 x54 m : Nat → Nat → Option Addr → Nat → Nat → Int → Int → Mem → Prop) = K3 at hh ⊢
  rw [← upd_self e1, ← upd_self e52, ← upd_self e53, ← upd_self e54]
  rw [← l3_er  K3 R]
  refine acpt_sound (P := P) (l3A  K3 R) _ _ _ True.intro ?_
  exact Eq.mp (l3_eq  K3 R x1b x1o x52a x52l x52c x53 x54 ρ m) hh
theorem k2_eq  (R : Ending → Mem → Prop) (x1b : Nat) (x1o : Nat) (ρ : Env) (m : Mem) : k2  x1b x1o R m = acpt P od (panicR R) (k2A  R) (k2Q  R) (upd ρ 1 (.pointer (some ⟨x1b, x1o, none⟩))) m := by kernel_rfl
theorem k2_er  (R : Ending → Mem → Prop) : (k2A  R).erase = sR (sR (body)) := by kernel_rfl
theorem k2_ok  (R : Ending → Mem → Prop) (ρ : Env) (m : Mem) (h : (k2E fun x1b x1o m => k2  x1b x1o R m) ρ m) : cpt P od (panicR R) (sR (sR (body))) (k2Q  R) ρ m := by
  unfold k2E at h
  obtain ⟨x1b, x1o, e1, h⟩ := h.ex
  rw [← upd_self e1]
  rw [← k2_er  R]
  refine acpt_sound (P := P) (k2A  R) _ _ _ ⟨True.intro, ⟨(fun ρ m h => l3_ok  R ρ m h), True.intro⟩⟩ ?_
  exact Eq.mp (k2_eq  R x1b x1o ρ m) h
theorem k1_eq  (R : Ending → Mem → Prop) (x1b : Nat) (x1o : Nat) (x24 : Bool) (ρ : Env) (m : Mem) : k1  x1b x1o x24 R m = acpt P od (panicR R) (k1A  R) (k1Q  R) (upd (upd ρ 24 (.bool x24)) 1 (.pointer (some ⟨x1b, x1o, none⟩))) m := by kernel_rfl
theorem k1_er  (R : Ending → Mem → Prop) : (k1A  R).erase = sR (cE (sR (cE (sR (bB (sL (sR (body)))))))) := by kernel_rfl
theorem k1_ok  (R : Ending → Mem → Prop) (ρ : Env) (m : Mem) (h : (k1E fun x1b x1o x24 m => k1  x1b x1o x24 R m) ρ m) : cpt P od (panicR R) (sR (cE (sR (cE (sR (bB (sL (sR (body))))))))) (k1Q  R) ρ m := by
  unfold k1E at h
  obtain ⟨x1b, x1o, e1, h⟩ := h.ex
  obtain ⟨x24, e24, h⟩ := h.ex
  rw [← upd_self e1, ← upd_self e24]
  rw [← k1_er  R]
  refine acpt_sound (P := P) (k1A  R) _ _ _ True.intro ?_
  exact Eq.mp (k1_eq  R x1b x1o x24 ρ m) h
theorem e0_eq (a0_0 : Int) (a0_1 : Int) (a0_2 : Int) (a0_3 : Int) (a0_4 : Int) (a0_5a : Option Addr) (a0_5l : Nat) (a0_5c : Nat) (R : Ending → Mem → Prop) (m : Mem) : e0 a0_0 a0_1 a0_2 a0_3 a0_4 a0_5a a0_5l a0_5c R m = acpt P od (panicR R) (e0A R) (bodyQ P fn R) (argE (#[.agg #[.int .i64 a0_0, .int .u64 a0_1, .int .u64 a0_2, .int .u64 a0_3, .int .u64 a0_4, .slice a0_5a a0_5l a0_5c]] : Array Value).toList) m := by kernel_rfl
theorem ok (a0_0 : Int) (a0_1 : Int) (a0_2 : Int) (a0_3 : Int) (a0_4 : Int) (a0_5a : Option Addr) (a0_5l : Nat) (a0_5c : Nat) (R : Ending → Mem → Prop) (m : Mem) (h : e0 a0_0 a0_1 a0_2 a0_3 a0_4 a0_5a a0_5l a0_5c R m) : HC P id #[.agg #[.int .i64 a0_0, .int .u64 a0_1, .int .u64 a0_2, .int .u64 a0_3, .int .u64 a0_4, .slice a0_5a a0_5l a0_5c]] m R := by
  refine HC_of (fn := fn) (c := body) (od := od) (tb := tb) Go.Proofs.Tryd.func33 (by kernel_rfl) (by kernel_rfl) follows (by kernel_rfl) (of_decide_eq_true (by kernel_rfl)) ?_
  have he : (e0A R).erase = body := by kernel_rfl
  rw [← he]
  refine acpt_sound (P := P) (e0A R) _ _ _ ⟨⟨(fun ρ m h => k2_ok  R ρ m h), ⟨⟨True.intro, ⟨⟨True.intro, ⟨(fun ρ m h => k1_ok  R ρ m h), True.intro⟩⟩, True.intro⟩⟩, True.intro⟩⟩, True.intro⟩ ?_
  exact Eq.mp (e0_eq a0_0 a0_1 a0_2 a0_3 a0_4 a0_5a a0_5l a0_5c R m) h
end regex_formed
/-! ### eyot/regex.size -/
namespace regex_size
noncomputable def fn : Func := Go.Proofs.Tryd.f34
noncomputable def body : Code := fn.body.getD .skip
def od : Nat → Ord := fun _ => .done
def tb : Nat → Tab := fun _ => (0, [], [])
def k2E (K : Int → Int → Mem → Prop) : Env → Mem → Prop := fun ρ m => UnI (ρ 2) .i64 fun nodes_2 => UnI (ρ 3) .i64 fun deep_3 => K nodes_2 deep_3 m
def k2  (nodes_2 : Int) (deep_3 : Int) (R : Ending → Mem → Prop) (m : Mem) : Prop :=
 R (.returned (.tuple #[.int .i64 (IntKind.i64.wrap (nodes_2 + 1)), .int .i64 (IntKind.i64.wrap (deep_3 + 1))])) m
noncomputable def k2A  (R : Ending → Mem → Prop) : ACode := (.code (sR (sR (body))))
def l1E (K : Int → Int → Option Addr → Nat → Nat → Int → Int → Mem → Prop) : Env → Mem → Prop := fun ρ m => UnI (ρ 2) .i64 fun nodes_2 => UnI (ρ 3) .i64 fun deep_3 => UnS (ρ 9) fun x9a x9l x9c => UnI (ρ 10) .i64 fun x10 => UnI (ρ 11) .i64 fun x11 => K nodes_2 deep_3 x9a x9l x9c x10 x11 m
def l1B  (K1 : Int → Int → Option Addr → Nat → Nat → Int → Int → Mem → Prop) (nodes_2 : Int) (deep_3 : Int) (x9a : Option Addr) (x9l : Nat) (x9c : Nat) (x10 : Int) (x11 : Int) (R : Ending → Mem → Prop) (m : Mem) : Prop :=
 Br (decide (x11 < x10)) (
  IxS x9a x9l x11 6 fun x13b x13o =>
  LdV m x13b x13o fun v =>
  UnI v .i64 fun x14_0 =>
  LdV m x13b (x13o + 1) fun v =>
  UnI v .u64 fun x14_1 =>
  LdV m x13b (x13o + 2) fun v =>
  UnI v .u64 fun x14_2 =>
  LdV m x13b (x13o + 3) fun v =>
  UnI v .u64 fun x14_3 =>
  LdV m x13b (x13o + 4) fun v =>
  UnI v .u64 fun x14_4 =>
  LdV m x13b (x13o + 5) fun v =>
  UnS v fun x14_5a x14_5l x14_5c =>
  NewC m #[.int .i64 0, .int .u64 0, .int .u64 0, .int .u64 0, .int .u64 0, .slice none 0 0] T_api_Rx fun b_x_5 m1 =>
  St1 m1 b_x_5 0 (.int .i64 x14_0) fun m2 =>
  St1 m2 b_x_5 1 (.int .u64 x14_1) fun m3 =>
  St1 m3 b_x_5 2 (.int .u64 x14_2) fun m4 =>
  St1 m4 b_x_5 3 (.int .u64 x14_3) fun m5 =>
  St1 m5 b_x_5 4 (.int .u64 x14_4) fun m6 =>
  St1 m6 b_x_5 5 (.slice x14_5a x14_5l x14_5c) fun m7 =>
  LdV m7 b_x_5 0 fun v =>
  UnI v .i64 fun x16_0 =>
  LdV m7 b_x_5 1 fun v =>
  UnI v .u64 fun x16_1 =>
  LdV m7 b_x_5 2 fun v =>
  UnI v .u64 fun x16_2 =>
  LdV m7 b_x_5 3 fun v =>
  UnI v .u64 fun x16_3 =>
  LdV m7 b_x_5 4 fun v =>
  UnI v .u64 fun x16_4 =>
  LdV m7 b_x_5 5 fun v =>
  UnS v fun x16_5a x16_5l x16_5c =>
  HC P regex_size.id #[.agg #[.int .i64 x16_0, .int .u64 x16_1, .int .u64 x16_2, .int .u64 x16_3, .int .u64 x16_4, .slice x16_5a x16_5l x16_5c]] m7 (Cont (fun v m8 =>
    UnTup v fun us0 =>
    UnCons us0 fun w us1 =>
    UnI w .i64 fun x17_0 =>
    UnCons us1 fun w us2 =>
    UnI w .i64 fun x17_1 =>
    UnNil us2 (
     K1 (IntKind.i64.wrap (nodes_2 + x17_0)) (if x17_1 > deep_3 then x17_1 else deep_3) x9a x9l x9c x10 (IntKind.i64.wrap (x11 + 1)) m8)) (panicR R))) (
  k2  nodes_2 deep_3 R m)
def l1  (nodes_2 : Int) (deep_3 : Int) (x9a : Option Addr) (x9l : Nat) (x9c : Nat) (x10 : Int) (x11 : Int) (R : Ending → Mem → Prop) (m : Mem) : Prop :=
  ∃ (I : Nat → Int → Int → Option Addr → Nat → Nat → Int → Int → Mem → Prop) (N : Nat), I N nodes_2 deep_3 x9a x9l x9c x10 x11 m ∧ ∀ N nodes_2 deep_3 x9a x9l x9c x10 x11 m, I N nodes_2 deep_3 x9a x9l x9c x10 x11 m → l1B  (fun nodes_2 deep_3 x9a x9l x9c x10 x11 m => ∃ N1, N1 < N ∧ I N1 nodes_2 deep_3 x9a x9l x9c x10 x11 m) nodes_2 deep_3 x9a x9l x9c x10 x11 R m
noncomputable def l1A  (K1 : Int → Int → Option Addr → Nat → Nat → Int → Int → Mem → Prop) (R : Ending → Mem → Prop) : ACode := (.code (lP (bB (sR (sL (sR (body)))))))
def e0 (r_0_0 : Int) (r_0_1 : Int) (r_0_2 : Int) (r_0_3 : Int) (r_0_4 : Int) (r_0_5a : Option Addr) (r_0_5l : Nat) (r_0_5c : Nat) (R : Ending → Mem → Prop) (m : Mem) : Prop :=
 NewC m #[.int .i64 r_0_0, .int .u64 r_0_1, .int .u64 r_0_2, .int .u64 r_0_3, .int .u64 r_0_4, .slice r_0_5a r_0_5l r_0_5c] T_api_Rx fun b_r_1 m1 =>
 LdV m1 b_r_1 5 fun v =>
 UnS v fun x9a x9l x9c =>
 l1  0 0 x9a x9l x9c ((x9l : Nat) : Int) 0 R m1
noncomputable def e0A (R : Ending → Mem → Prop) : ACode := (.seq (.code (sL (body))) (.seq (.seq (.code (sL (sL (sR (body))))) (.block 0 (.cut (l1E fun nodes_2 deep_3 x9a x9l x9c x10 x11 m => l1  nodes_2 deep_3 x9a x9l x9c x10 x11 R m) (.loop (lP (bB (sR (sL (sR (body)))))))))) (.cut (k2E fun nodes_2 deep_3 m => k2  nodes_2 deep_3 R m) (sR (sR (body))))))
abbrev k2Q  (R : Ending → Mem → Prop) : Exit → Env → Mem → Prop := (bodyQ P fn R)
abbrev l1Q  (R : Ending → Mem → Prop) : Exit → Env → Mem → Prop := (blockQ 0 (thenQ (acpt P od (panicR R) (.cut (k2E fun nodes_2 deep_3 m => k2  nodes_2 deep_3 R m) (sR (sR (body)))) (bodyQ P fn R)) (bodyQ P fn R)))
theorem k2_eq  (R : Ending → Mem → Prop) (nodes_2 : Int) (deep_3 : Int) (ρ : Env) (m : Mem) : k2  nodes_2 deep_3 R m = acpt P od (panicR R) (k2A  R) (k2Q  R) (upd (upd ρ 3 (.int .i64 deep_3)) 2 (.int .i64 nodes_2)) m := by kernel_rfl
theorem k2_er  (R : Ending → Mem → Prop) : (k2A  R).erase = sR (sR (body)) := by kernel_rfl
theorem k2_ok  (R : Ending → Mem → Prop) (ρ : Env) (m : Mem) (h : (k2E fun nodes_2 deep_3 m => k2  nodes_2 deep_3 R m) ρ m) : cpt P od (panicR R) (sR (sR (body))) (k2Q  R) ρ m := by
  unfold k2E at h
  obtain ⟨nodes_2, e2, h⟩ := h.ex
  obtain ⟨deep_3, e3, h⟩ := h.ex
  rw [← upd_self e2, ← upd_self e3]
  rw [← k2_er  R]
  refine acpt_sound (P := P) (k2A  R) _ _ _ True.intro ?_
  exact Eq.mp (k2_eq  R nodes_2 deep_3 ρ m) h
theorem l1_eq  (K1 : Int → Int → Option Addr → Nat → Nat → Int → Int → Mem → Prop) (R : Ending → Mem → Prop) (nodes_2 : Int) (deep_3 : Int) (x9a : Option Addr) (x9l : Nat) (x9c : Nat) (x10 : Int) (x11 : Int) (ρ : Env) (m : Mem) : l1B  K1 nodes_2 deep_3 x9a x9l x9c x10 x11 R m = acpt P od (panicR R) (l1A  K1 R) (thenQ (l1E K1) (l1Q  R)) (upd (upd (upd (upd (upd ρ 11 (.int .i64 x11)) 10 (.int .i64 x10)) 9 (.slice x9a x9l x9c)) 3 (.int .i64 deep_3)) 2 (.int .i64 nodes_2)) m := by kernel_rfl
theorem l1_er  (K1 : Int → Int → Option Addr → Nat → Nat → Int → Int → Mem → Prop) (R : Ending → Mem → Prop) : (l1A  K1 R).erase = lP (bB (sR (sL (sR (body))))) := by kernel_rfl
theorem l1_ok  (R : Ending → Mem → Prop) (ρ : Env) (m : Mem) (h : (l1E fun nodes_2 deep_3 x9a x9l x9c x10 x11 m => l1  nodes_2 deep_3 x9a x9l x9c x10 x11 R m) ρ m) : cpt P od (panicR R) (.loop (lP (bB (sR (sL (sR (body))))))) (l1Q  R) ρ m := by
  unfold l1E at h
  obtain ⟨nodes_2, e2, h⟩ := h.ex
  obtain ⟨deep_3, e3, h⟩ := h.ex
  obtain ⟨x9a, x9l, x9c, e9, h⟩ := h.ex
  obtain ⟨x10, e10, h⟩ := h.ex
  obtain ⟨x11, e11, h⟩ := h.ex
  obtain ⟨I, N, h0, hs⟩ := h
  refine ⟨fun N => l1E (I N), N, (by show l1E (I N) ρ m; unfold l1E; rw [e2, e3, e9, e10, e11]; exact h0), ?_⟩
  clear h0 e2 e3 e9 e10 e11
  intro N ρ m h
  unfold l1E at h
  obtain ⟨nodes_2, e2, h⟩ := h.ex
  obtain ⟨deep_3, e3, h⟩ := h.ex
  obtain ⟨x9a, x9l, x9c, e9, h⟩ := h.ex
  obtain ⟨x10, e10, h⟩ := h.ex
  obtain ⟨x11, e11, h⟩ := h.ex
  refine cpt_mono (P := P) (lP (bB (sR (sL (sR (body)))))) (Q := thenQ (l1E fun nodes_2 deep_3 x9a x9l x9c x10 x11 m => ∃ N1, N1 < N ∧ I N1 nodes_2 deep_3 x9a x9l x9c x10 x11 m) (l1Q  R)) (fun e ρ m h => ?_) ρ m ?_
  · cases e with
    | normal =>
      have h : l1E (fun nodes_2 deep_3 x9a x9l x9c x10 x11 m => ∃ N1, N1 < N ∧ I N1 nodes_2 deep_3 x9a x9l x9c x10 x11 m) ρ m := h
      unfold l1E at h
      obtain ⟨nodes_2, e2, h⟩ := h.ex
      obtain ⟨deep_3, e3, h⟩ := h.ex
      obtain ⟨x9a, x9l, x9c, e9, h⟩ := h.ex
      obtain ⟨x10, e10, h⟩ := h.ex
      obtain ⟨x11, e11, h⟩ := h.ex
      obtain ⟨N1, hlt, h⟩ := h
      exact ⟨N1, hlt, (by show l1E (I N1) ρ m; unfold l1E; rw [e2, e3, e9, e10, e11]; exact h)⟩
    | _ => exact h
  have hh := hs N nodes_2 deep_3 x9a x9l x9c x10 x11 m h
  generalize (fun nodes_2 deep_3 x9a x9l x9c x10 x11 m => ∃ N1, N1 < N ∧ I N1 nodes_2 deep_3 x9a x9l x9c x10 x11 m : Int → Int → Option Addr → Nat → Nat → Int → Int → Mem → Prop) = K1 at hh ⊢
  rw [← upd_self e2, ← upd_self e3, ← upd_self e9, ← upd_self e10, ← upd_self e11]
  rw [← l1_er  K1 R]
  refine acpt_sound (P := P) (l1A  K1 R) _ _ _ True.intro ?_
  exact Eq.mp (l1_eq  K1 R nodes_2 deep_3 x9a x9l x9c x10 x11 ρ m) hh
theorem e0_eq (r_0_0 : Int) (r_0_1 : Int) (r_0_2 : Int) (r_0_3 : Int) (r_0_4 : Int) (r_0_5a : Option Addr) (r_0_5l : Nat) (r_0_5c : Nat) (R : Ending → Mem → Prop) (m : Mem) : e0 r_0_0 r_0_1 r_0_2 r_0_3 r_0_4 r_0_5a r_0_5l r_0_5c R m = acpt P od (panicR R) (e0A R) (bodyQ P fn R) (argE (#[.agg #[.int .i64 r_0_0, .int .u64 r_0_1, .int .u64 r_0_2, .int .u64 r_0_3, .int .u64 r_0_4, .slice r_0_5a r_0_5l r_0_5c]] : Array Value).toList) m := by kernel_rfl
theorem ok (r_0_0 : Int) (r_0_1 : Int) (r_0_2 : Int) (r_0_3 : Int) (r_0_4 : Int) (r_0_5a : Option Addr) (r_0_5l : Nat) (r_0_5c : Nat) (R : Ending → Mem → Prop) (m : Mem) (h : e0 r_0_0 r_0_1 r_0_2 r_0_3 r_0_4 r_0_5a r_0_5l r_0_5c R m) : HC P id #[.agg #[.int .i64 r_0_0, .int .u64 r_0_1, .int .u64 r_0_2, .int .u64 r_0_3, .int .u64 r_0_4, .slice r_0_5a r_0_5l r_0_5c]] m R := by
  refine HC_of (fn := fn) (c := body) (od := od) (tb := tb) Go.Proofs.Tryd.func34 (by kernel_rfl) (by kernel_rfl) follows (by kernel_rfl) (of_decide_eq_true (by kernel_rfl)) ?_
  have he : (e0A R).erase = body := by kernel_rfl
  rw [← he]
  refine acpt_sound (P := P) (e0A R) _ _ _ ⟨⟨(fun ρ m h => k2_ok  R ρ m h), ⟨(fun ρ m h => l1_ok  R ρ m h), True.intro⟩⟩, True.intro⟩ ?_
  exact Eq.mp (e0_eq r_0_0 r_0_1 r_0_2 r_0_3 r_0_4 r_0_5a r_0_5l r_0_5c R m) h
end regex_size
/-! ### eyot/eyotref8.form -/
namespace eyotref8_form
noncomputable def fn : Func := Go.Proofs.Tryd.f35
noncomputable def body : Code := fn.body.getD .skip
def od : Nat → Ord := fun | 17 => ordL [(0, 3), (1, 1), (2, 3), (3, 3), (4, 0), (5, 0), (6, 3), (7, 3), (8, 3), (9, 1), (10, 3), (11, 3), (12, 3), (13, 1), (14, 3), (15, 0), (16, 3), (17, 3)] .done | _ => .done
def tb : Nat → Tab := fun | 17 => (0, [0, 1, 0, 7, 15, 31, 63, 127, 255, 511, 255, 2047, 4095, 8191, 255, 16639, 65535, 131071], [(0, 2, 49), (1, 281474976710656, 50), (0, 8, 51), (6, 1688849860263936, 52), (8, 2251799813685248, 53), (16, 4503599627370496, 54), (32, 9007199254740992, 55), (96, 18014398509481984, 56), (128, 36028797018963970, 57), (384, 108086391056891904, 58), (128, 36028797018963976, 59), (1664, 468374361246531584, 60), (2176, 612489549322387456, 61), (4224, 1188950301625810944, 62), (128, 36028797018963970, 63), (16512, 4647714815446351872, 64), (41088, 11565243843087433728, 65), (65664, 18482772870728515584, 66)]) | _ => (0, [], [])
def k4E (K : Nat → Nat → Mem → Prop) : Env → Mem → Prop := fun ρ m => UnPA (ρ 1) fun x1b x1o => K x1b x1o m
def k4  (x1b : Nat) (x1o : Nat) (R : Ending → Mem → Prop) (m : Mem) : Prop :=
 LdV m x1b (x1o + 1) fun v =>
 UnI v .u64 fun x67_0 =>
 LdV m x1b ((x1o + 1) + 1) fun v =>
 UnI v .u64 fun x67_1 =>
 LdV m x1b ((x1o + 1) + 2) fun v =>
 UnI v .u64 fun x67_2 =>
 LdV m x1b ((x1o + 1) + 3) fun v =>
 UnI v .u64 fun x67_3 =>
 HC P eyotref8_Empty.id #[.agg #[.int .u64 x67_0, .int .u64 x67_1, .int .u64 x67_2, .int .u64 x67_3]] m (Cont (fun v m1 =>
   UnB v fun x68 =>
   R (.returned (.bool x68)) m1) (panicR R))
noncomputable def k4A  (R : Ending → Mem → Prop) : ACode := (.code (sR (sR (sR (body)))))
def l3E (K : Nat → Nat → Int → Mem → Prop) : Env → Mem → Prop := fun ρ m => UnPA (ρ 1) fun x1b x1o => UnI (ρ 3) .i64 fun x3 => K x1b x1o x3 m
def l3B  (K3 : Nat → Nat → Int → Mem → Prop) (x1b : Nat) (x1o : Nat) (x3 : Int) (R : Ending → Mem → Prop) (m : Mem) : Prop :=
 LdV m x1b (x1o + 5) fun v =>
 UnS v fun x43a x43l x43c =>
 Br (decide (x3 < ((x43l : Nat) : Int))) (
  Sub m fun r1 =>
  LdV r1 x1b (x1o + 5) fun v =>
  UnS v fun x49a x49l x49c =>
  IxS x49a x49l x3 6 fun x51b x51o =>
  LdV m x51b x51o fun v =>
  UnI v .i64 fun x52_0 =>
  LdV m x51b (x51o + 1) fun v =>
  UnI v .u64 fun x52_1 =>
  LdV m x51b (x51o + 2) fun v =>
  UnI v .u64 fun x52_2 =>
  LdV m x51b (x51o + 3) fun v =>
  UnI v .u64 fun x52_3 =>
  LdV m x51b (x51o + 4) fun v =>
  UnI v .u64 fun x52_4 =>
  LdV m x51b (x51o + 5) fun v =>
  UnS v fun x52_5a x52_5l x52_5c =>
  HC P eyotref8_form.id #[.agg #[.int .i64 x52_0, .int .u64 x52_1, .int .u64 x52_2, .int .u64 x52_3, .int .u64 x52_4, .slice x52_5a x52_5l x52_5c]] m (Cont (fun v m2 =>
    UnB v fun x53 =>
    Lk r1 m2 fun r3 =>
    Br (!x53) (
     R (.returned (.bool false)) m2) (
     LdV r3 x1b (x1o + 5) fun v =>
     UnS v fun x57a x57l x57c =>
     IxS x57a x57l x3 6 fun x59b x59o =>
     LdV r3 x59b x59o fun v =>
     UnI v .i64 fun x61 =>
     LdV m2 x1b x1o fun v =>
     UnI v .i64 fun x63 =>
     Br (x61 == x63) (
      R (.returned (.bool false)) m2) (
      K3 x1b x1o (IntKind.i64.wrap (x3 + 1)) m2))) (panicR R))) (
  k4  x1b x1o R m)
def l3  (x1b : Nat) (x1o : Nat) (x3 : Int) (R : Ending → Mem → Prop) (m : Mem) : Prop :=
  ∃ (I : Nat → Nat → Nat → Int → Mem → Prop) (N : Nat), I N x1b x1o x3 m ∧ ∀ N x1b x1o x3 m, I N x1b x1o x3 m → l3B  (fun x1b x1o x3 m => ∃ N1, N1 < N ∧ I N1 x1b x1o x3 m) x1b x1o x3 R m
noncomputable def l3A  (K3 : Nat → Nat → Int → Mem → Prop) (R : Ending → Mem → Prop) : ACode := (.code (lP (bB (sR (sL (sR (sR (body))))))))
def k2E (K : Nat → Nat → Mem → Prop) : Env → Mem → Prop := fun ρ m => UnPA (ρ 1) fun x1b x1o => K x1b x1o m
def k2  (x1b : Nat) (x1o : Nat) (R : Ending → Mem → Prop) (m : Mem) : Prop :=
 l3  x1b x1o 0 R m
noncomputable def k2A  (R : Ending → Mem → Prop) : ACode := (.seq (.seq (.code (sL (sL (sR (sR (body)))))) (.block 1 (.cut (l3E fun x1b x1o x3 m => l3  x1b x1o x3 R m) (.loop (lP (bB (sR (sL (sR (sR (body))))))))))) (.cut (k4E fun x1b x1o m => k4  x1b x1o R m) (sR (sR (sR (body))))))
def k5E (K : Nat → Nat → Bool → Mem → Prop) : Env → Mem → Prop := fun ρ m => UnPA (ρ 1) fun x1b x1o => UnB (ρ 25) fun x25 => K x1b x1o x25 m
def k5  (x1b : Nat) (x1o : Nat) (x25 : Bool) (R : Ending → Mem → Prop) (m : Mem) : Prop :=
 Br x25 (
  LdV m x1b (x1o + 5) fun v =>
  UnS v fun x30a x30l x30c =>
  Br (((x30l : Nat) : Int) != 1) (
   R (.returned (.bool false)) m) (
   LdV m x1b (x1o + 5) fun v =>
   UnS v fun x35a x35l x35c =>
   IxS x35a x35l 0 6 fun x36b x36o =>
   LdV m x36b x36o fun v =>
   UnI v .i64 fun x38 =>
   Br (decide (x38 ≥ 4)) (
    R (.returned (.bool false)) m) (
    k2  x1b x1o R m))) (
  R (.returned (.bool false)) m)
noncomputable def k5A  (R : Ending → Mem → Prop) : ACode := (.code (sR (cE (sR (cE (sR (bB (sR (sL (sR (body)))))))))))
def k1E (K : Nat → Nat → Int → Bool → Mem → Prop) : Env → Mem → Prop := fun ρ m => UnPA (ρ 1) fun x1b x1o => UnI (ρ 5) .i64 fun x5 => UnB (ρ 18) fun x18 => K x1b x1o x5 x18 m
def k1  (x1b : Nat) (x1o : Nat) (x5 : Int) (x18 : Bool) (R : Ending → Mem → Prop) (m : Mem) : Prop :=
 Br x18 (
  LdV m x1b (x1o + 5) fun v =>
  UnS v fun x22a x22l x22c =>
  Br (decide (((x22l : Nat) : Int) < 2)) (
   R (.returned (.bool false)) m) (
   k2  x1b x1o R m)) (
  Br (x5 == 4) (
   k5  x1b x1o true R m) (
   Br (x5 == 5) (
    k5  x1b x1o true R m) (
    k5  x1b x1o (x5 == 6) R m)))
noncomputable def k1A  (R : Ending → Mem → Prop) : ACode := (.cond (.tmp 18) (.code (cT (sR (cE (sR (bB (sR (sL (sR (body)))))))))) (.seq (.code (sL (cE (sR (cE (sR (bB (sR (sL (sR (body))))))))))) (.cut (k5E fun x1b x1o x25 m => k5  x1b x1o x25 R m) (sR (cE (sR (cE (sR (bB (sR (sL (sR (body)))))))))))))
def e0 (a0_0 : Int) (a0_1 : Int) (a0_2 : Int) (a0_3 : Int) (a0_4 : Int) (a0_5a : Option Addr) (a0_5l : Nat) (a0_5c : Nat) (R : Ending → Mem → Prop) (m : Mem) : Prop :=
 NewC m #[.int .i64 a0_0, .int .u64 a0_1, .int .u64 a0_2, .int .u64 a0_3, .int .u64 a0_4, .slice a0_5a a0_5l a0_5c] T_api_Rx fun b1 m1 =>
 LdV m1 b1 0 fun v =>
 UnI v .i64 fun x5 =>
 Br (x5 == 1) (
  LdV m1 b1 5 fun v =>
  UnS v fun x9a x9l x9c =>
  Br (((x9l : Nat) : Int) == 0) (
   LdV m1 b1 1 fun v =>
   UnI v .u64 fun x14_0 =>
   LdV m1 b1 2 fun v =>
   UnI v .u64 fun x14_1 =>
   LdV m1 b1 3 fun v =>
   UnI v .u64 fun x14_2 =>
   LdV m1 b1 4 fun v =>
   UnI v .u64 fun x14_3 =>
   HC P eyotref8_Empty.id #[.agg #[.int .u64 x14_0, .int .u64 x14_1, .int .u64 x14_2, .int .u64 x14_3]] m1 (Cont (fun v m2 =>
     UnB v fun x15 =>
     R (.returned (.bool (!x15))) m2) (panicR R))) (
   R (.returned (.bool false)) m1)) (
  Br (x5 == 2) (
   k1  b1 0 x5 true R m1) (
   k1  b1 0 x5 (x5 == 3) R m1))
noncomputable def e0A (R : Ending → Mem → Prop) : ACode := (.seq (.code (sL (body))) (.seq (.seq (.code (sL (sL (sR (body))))) (.block 0 (.seq (.code (sL (bB (sR (sL (sR (body))))))) (.cond (.tmp 6) (.code (cT (sR (bB (sR (sL (sR (body)))))))) (.seq (.code (sL (cE (sR (bB (sR (sL (sR (body))))))))) (.cut (k1E fun x1b x1o x5 x18 m => k1  x1b x1o x5 x18 R m) (sR (cE (sR (bB (sR (sL (sR (body)))))))))))))) (.cut (k2E fun x1b x1o m => k2  x1b x1o R m) (sR (sR (body))))))
abbrev k2Q  (R : Ending → Mem → Prop) : Exit → Env → Mem → Prop := (bodyQ P fn R)
abbrev k4Q  (R : Ending → Mem → Prop) : Exit → Env → Mem → Prop := (k2Q  R)
abbrev l3Q  (R : Ending → Mem → Prop) : Exit → Env → Mem → Prop := (blockQ 1 (thenQ (acpt P od (panicR R) (.cut (k4E fun x1b x1o m => k4  x1b x1o R m) (sR (sR (sR (body))))) (k2Q  R)) (k2Q  R)))
abbrev k1Q  (R : Ending → Mem → Prop) : Exit → Env → Mem → Prop := (blockQ 0 (thenQ (acpt P od (panicR R) (.cut (k2E fun x1b x1o m => k2  x1b x1o R m) (sR (sR (body)))) (bodyQ P fn R)) (bodyQ P fn R)))
abbrev k5Q  (R : Ending → Mem → Prop) : Exit → Env → Mem → Prop := (k1Q  R)
theorem k4_eq  (R : Ending → Mem → Prop) (x1b : Nat) (x1o : Nat) (ρ : Env) (m : Mem) : k4  x1b x1o R m = acpt P od (panicR R) (k4A  R) (k4Q  R) (upd ρ 1 (.pointer (some ⟨x1b, x1o, none⟩))) m := by kernel_rfl
theorem k4_er  (R : Ending → Mem → Prop) : (k4A  R).erase = sR (sR (sR (body))) := by kernel_rfl
theorem k4_ok  (R : Ending → Mem → Prop) (ρ : Env) (m : Mem) (h : (k4E fun x1b x1o m => k4  x1b x1o R m) ρ m) : cpt P od (panicR R) (sR (sR (sR (body)))) (k4Q  R) ρ m := by
  unfold k4E at h
  obtain ⟨x1b, x1o, e1, h⟩ := h.ex
  rw [← upd_self e1]
  rw [← k4_er  R]
  refine acpt_sound (P := P) (k4A  R) _ _ _ True.intro ?_
  exact Eq.mp (k4_eq  R x1b x1o ρ m) h
theorem l3_eq  (K3 : Nat → Nat → Int → Mem → Prop) (R : Ending → Mem → Prop) (x1b : Nat) (x1o : Nat) (x3 : Int) (ρ : Env) (m : Mem) : l3B  K3 x1b x1o x3 R m = acpt P od (panicR R) (l3A  K3 R) (thenQ (l3E K3) (l3Q  R)) (upd (upd ρ 3 (.int .i64 x3)) 1 (.pointer (some ⟨x1b, x1o, none⟩))) m := by kernel_rfl
theorem l3_er  (K3 : Nat → Nat → Int → Mem → Prop) (R : Ending → Mem → Prop) : (l3A  K3 R).erase = lP (bB (sR (sL (sR (sR (body)))))) := by kernel_rfl
theorem l3_ok  (R : Ending → Mem → Prop) (ρ : Env) (m : Mem) (h : (l3E fun x1b x1o x3 m => l3  x1b x1o x3 R m) ρ m) : cpt P od (panicR R) (.loop (lP (bB (sR (sL (sR (sR (body)))))))) (l3Q  R) ρ m := by
  unfold l3E at h
  obtain ⟨x1b, x1o, e1, h⟩ := h.ex
  obtain ⟨x3, e3, h⟩ := h.ex
  obtain ⟨I, N, h0, hs⟩ := h
  refine ⟨fun N => l3E (I N), N, (by show l3E (I N) ρ m; unfold l3E; rw [e1, e3]; exact h0), ?_⟩
  clear h0 e1 e3
  intro N ρ m h
  unfold l3E at h
  obtain ⟨x1b, x1o, e1, h⟩ := h.ex
  obtain ⟨x3, e3, h⟩ := h.ex
  refine cpt_mono (P := P) (lP (bB (sR (sL (sR (sR (body))))))) (Q := thenQ (l3E fun x1b x1o x3 m => ∃ N1, N1 < N ∧ I N1 x1b x1o x3 m) (l3Q  R)) (fun e ρ m h => ?_) ρ m ?_
  · cases e with
    | normal =>
      have h : l3E (fun x1b x1o x3 m => ∃ N1, N1 < N ∧ I N1 x1b x1o x3 m) ρ m := h
      unfold l3E at h
      obtain ⟨x1b, x1o, e1, h⟩ := h.ex
      obtain ⟨x3, e3, h⟩ := h.ex
      obtain ⟨N1, hlt, h⟩ := h
      exact ⟨N1, hlt, (by show l3E (I N1) ρ m; unfold l3E; rw [e1, e3]; exact h)⟩
    | _ => exact h
  have hh := hs N x1b x1o x3 m h
  generalize (fun x1b x1o x3 m => ∃ N1, N1 < N ∧ I N1 x1b x1o x3 m : Nat → Nat → Int → Mem → Prop) = K3 at hh ⊢
  rw [← upd_self e1, ← upd_self e3]
  rw [← l3_er  K3 R]
  refine acpt_sound (P := P) (l3A  K3 R) _ _ _ True.intro ?_
  exact Eq.mp (l3_eq  K3 R x1b x1o x3 ρ m) hh
theorem k2_eq  (R : Ending → Mem → Prop) (x1b : Nat) (x1o : Nat) (ρ : Env) (m : Mem) : k2  x1b x1o R m = acpt P od (panicR R) (k2A  R) (k2Q  R) (upd ρ 1 (.pointer (some ⟨x1b, x1o, none⟩))) m := by kernel_rfl
theorem k2_er  (R : Ending → Mem → Prop) : (k2A  R).erase = sR (sR (body)) := by kernel_rfl
theorem k2_ok  (R : Ending → Mem → Prop) (ρ : Env) (m : Mem) (h : (k2E fun x1b x1o m => k2  x1b x1o R m) ρ m) : cpt P od (panicR R) (sR (sR (body))) (k2Q  R) ρ m := by
  unfold k2E at h
  obtain ⟨x1b, x1o, e1, h⟩ := h.ex
  rw [← upd_self e1]
  rw [← k2_er  R]
  refine acpt_sound (P := P) (k2A  R) _ _ _ ⟨(fun ρ m h => k4_ok  R ρ m h), ⟨(fun ρ m h => l3_ok  R ρ m h), True.intro⟩⟩ ?_
  exact Eq.mp (k2_eq  R x1b x1o ρ m) h
theorem k5_eq  (R : Ending → Mem → Prop) (x1b : Nat) (x1o : Nat) (x25 : Bool) (ρ : Env) (m : Mem) : k5  x1b x1o x25 R m = acpt P od (panicR R) (k5A  R) (k5Q  R) (upd (upd ρ 25 (.bool x25)) 1 (.pointer (some ⟨x1b, x1o, none⟩))) m := by kernel_rfl
theorem k5_er  (R : Ending → Mem → Prop) : (k5A  R).erase = sR (cE (sR (cE (sR (bB (sR (sL (sR (body))))))))) := by kernel_rfl
theorem k5_ok  (R : Ending → Mem → Prop) (ρ : Env) (m : Mem) (h : (k5E fun x1b x1o x25 m => k5  x1b x1o x25 R m) ρ m) : cpt P od (panicR R) (sR (cE (sR (cE (sR (bB (sR (sL (sR (body)))))))))) (k5Q  R) ρ m := by
  unfold k5E at h
  obtain ⟨x1b, x1o, e1, h⟩ := h.ex
  obtain ⟨x25, e25, h⟩ := h.ex
  rw [← upd_self e1, ← upd_self e25]
  rw [← k5_er  R]
  refine acpt_sound (P := P) (k5A  R) _ _ _ True.intro ?_
  exact Eq.mp (k5_eq  R x1b x1o x25 ρ m) h
theorem k1_eq  (R : Ending → Mem → Prop) (x1b : Nat) (x1o : Nat) (x5 : Int) (x18 : Bool) (ρ : Env) (m : Mem) : k1  x1b x1o x5 x18 R m = acpt P od (panicR R) (k1A  R) (k1Q  R) (upd (upd (upd ρ 18 (.bool x18)) 5 (.int .i64 x5)) 1 (.pointer (some ⟨x1b, x1o, none⟩))) m := by kernel_rfl
theorem k1_er  (R : Ending → Mem → Prop) : (k1A  R).erase = sR (cE (sR (bB (sR (sL (sR (body))))))) := by kernel_rfl
theorem k1_ok  (R : Ending → Mem → Prop) (ρ : Env) (m : Mem) (h : (k1E fun x1b x1o x5 x18 m => k1  x1b x1o x5 x18 R m) ρ m) : cpt P od (panicR R) (sR (cE (sR (bB (sR (sL (sR (body)))))))) (k1Q  R) ρ m := by
  unfold k1E at h
  obtain ⟨x1b, x1o, e1, h⟩ := h.ex
  obtain ⟨x5, e5, h⟩ := h.ex
  obtain ⟨x18, e18, h⟩ := h.ex
  rw [← upd_self e1, ← upd_self e5, ← upd_self e18]
  rw [← k1_er  R]
  refine acpt_sound (P := P) (k1A  R) _ _ _ ⟨True.intro, ⟨(fun ρ m h => k5_ok  R ρ m h), True.intro⟩⟩ ?_
  exact Eq.mp (k1_eq  R x1b x1o x5 x18 ρ m) h
theorem e0_eq (a0_0 : Int) (a0_1 : Int) (a0_2 : Int) (a0_3 : Int) (a0_4 : Int) (a0_5a : Option Addr) (a0_5l : Nat) (a0_5c : Nat) (R : Ending → Mem → Prop) (m : Mem) : e0 a0_0 a0_1 a0_2 a0_3 a0_4 a0_5a a0_5l a0_5c R m = acpt P od (panicR R) (e0A R) (bodyQ P fn R) (argE (#[.agg #[.int .i64 a0_0, .int .u64 a0_1, .int .u64 a0_2, .int .u64 a0_3, .int .u64 a0_4, .slice a0_5a a0_5l a0_5c]] : Array Value).toList) m := by kernel_rfl
theorem ok (a0_0 : Int) (a0_1 : Int) (a0_2 : Int) (a0_3 : Int) (a0_4 : Int) (a0_5a : Option Addr) (a0_5l : Nat) (a0_5c : Nat) (R : Ending → Mem → Prop) (m : Mem) (h : e0 a0_0 a0_1 a0_2 a0_3 a0_4 a0_5a a0_5l a0_5c R m) : HC P id #[.agg #[.int .i64 a0_0, .int .u64 a0_1, .int .u64 a0_2, .int .u64 a0_3, .int .u64 a0_4, .slice a0_5a a0_5l a0_5c]] m R := by
  refine HC_of (fn := fn) (c := body) (od := od) (tb := tb) Go.Proofs.Tryd.func35 (by kernel_rfl) (by kernel_rfl) follows (by kernel_rfl) (of_decide_eq_true (by kernel_rfl)) ?_
  have he : (e0A R).erase = body := by kernel_rfl
  rw [← he]
  refine acpt_sound (P := P) (e0A R) _ _ _ ⟨⟨(fun ρ m h => k2_ok  R ρ m h), ⟨⟨⟨True.intro, ⟨(fun ρ m h => k1_ok  R ρ m h), True.intro⟩⟩, True.intro⟩, True.intro⟩⟩, True.intro⟩ ?_
  exact Eq.mp (e0_eq a0_0 a0_1 a0_2 a0_3 a0_4 a0_5a a0_5l a0_5c R m) h
end eyotref8_form
/-! ### eyot/eyotref8.nodes -/
namespace eyotref8_nodes
noncomputable def fn : Func := Go.Proofs.Tryd.f36
noncomputable def body : Code := fn.body.getD .skip
def od : Nat → Ord := fun _ => .done
def tb : Nat → Tab := fun _ => (0, [], [])
def l1E (K : Nat → Nat → Int → Int → Mem → Prop) : Env → Mem → Prop := fun ρ m => UnPA (ρ 1) fun r_1b r_1o => UnI (ρ 3) .i64 fun n_3 => UnI (ρ 4) .i64 fun i_4 => K r_1b r_1o n_3 i_4 m
def l1B  (K1 : Nat → Nat → Int → Int → Mem → Prop) (r_1b : Nat) (r_1o : Nat) (n_3 : Int) (i_4 : Int) (R : Ending → Mem → Prop) (m : Mem) : Prop :=
 LdV m r_1b (r_1o + 5) fun v =>
 UnS v fun x7a x7l x7c =>
 Br (decide (i_4 < ((x7l : Nat) : Int))) (
  LdV m r_1b (r_1o + 5) fun v =>
  UnS v fun x14a x14l x14c =>
  IxS x14a x14l i_4 6 fun x16b x16o =>
  LdV m x16b x16o fun v =>
  UnI v .i64 fun x17_0 =>
  LdV m x16b (x16o + 1) fun v =>
  UnI v .u64 fun x17_1 =>
  LdV m x16b (x16o + 2) fun v =>
  UnI v .u64 fun x17_2 =>
  LdV m x16b (x16o + 3) fun v =>
  UnI v .u64 fun x17_3 =>
  LdV m x16b (x16o + 4) fun v =>
  UnI v .u64 fun x17_4 =>
  LdV m x16b (x16o + 5) fun v =>
  UnS v fun x17_5a x17_5l x17_5c =>
  HC P eyotref8_nodes.id #[.agg #[.int .i64 x17_0, .int .u64 x17_1, .int .u64 x17_2, .int .u64 x17_3, .int .u64 x17_4, .slice x17_5a x17_5l x17_5c]] m (Cont (fun v m1 =>
    UnI v .i64 fun x18 =>
    K1 r_1b r_1o (IntKind.i64.wrap (n_3 + x18)) (IntKind.i64.wrap (i_4 + 1)) m1) (panicR R))) (
  R (.returned (.int .i64 n_3)) m)
def l1  (r_1b : Nat) (r_1o : Nat) (n_3 : Int) (i_4 : Int) (R : Ending → Mem → Prop) (m : Mem) : Prop :=
  ∃ (I : Nat → Nat → Nat → Int → Int → Mem → Prop) (N : Nat), I N r_1b r_1o n_3 i_4 m ∧ ∀ N r_1b r_1o n_3 i_4 m, I N r_1b r_1o n_3 i_4 m → l1B  (fun r_1b r_1o n_3 i_4 m => ∃ N1, N1 < N ∧ I N1 r_1b r_1o n_3 i_4 m) r_1b r_1o n_3 i_4 R m
noncomputable def l1A  (K1 : Nat → Nat → Int → Int → Mem → Prop) (R : Ending → Mem → Prop) : ACode := (.code (lP (bB (sR (sL (sR (sR (body))))))))
def e0 (r_0_0 : Int) (r_0_1 : Int) (r_0_2 : Int) (r_0_3 : Int) (r_0_4 : Int) (r_0_5a : Option Addr) (r_0_5l : Nat) (r_0_5c : Nat) (R : Ending → Mem → Prop) (m : Mem) : Prop :=
 NewC m #[.int .i64 r_0_0, .int .u64 r_0_1, .int .u64 r_0_2, .int .u64 r_0_3, .int .u64 r_0_4, .slice r_0_5a r_0_5l r_0_5c] T_api_Rx fun b_r_1 m1 =>
 l1  b_r_1 0 1 0 R m1
noncomputable def e0A (R : Ending → Mem → Prop) : ACode := (.seq (.code (sL (body))) (.seq (.code (sL (sR (body)))) (.seq (.seq (.code (sL (sL (sR (sR (body)))))) (.block 0 (.cut (l1E fun r_1b r_1o n_3 i_4 m => l1  r_1b r_1o n_3 i_4 R m) (.loop (lP (bB (sR (sL (sR (sR (body))))))))))) (.code (sR (sR (sR (body))))))))
abbrev l1Q  (R : Ending → Mem → Prop) : Exit → Env → Mem → Prop := (blockQ 0 (thenQ (acpt P od (panicR R) (.code (sR (sR (sR (body))))) (bodyQ P fn R)) (bodyQ P fn R)))
theorem l1_eq  (K1 : Nat → Nat → Int → Int → Mem → Prop) (R : Ending → Mem → Prop) (r_1b : Nat) (r_1o : Nat) (n_3 : Int) (i_4 : Int) (ρ : Env) (m : Mem) : l1B  K1 r_1b r_1o n_3 i_4 R m = acpt P od (panicR R) (l1A  K1 R) (thenQ (l1E K1) (l1Q  R)) (upd (upd (upd ρ 4 (.int .i64 i_4)) 3 (.int .i64 n_3)) 1 (.pointer (some ⟨r_1b, r_1o, none⟩))) m := by kernel_rfl
theorem l1_er  (K1 : Nat → Nat → Int → Int → Mem → Prop) (R : Ending → Mem → Prop) : (l1A  K1 R).erase = lP (bB (sR (sL (sR (sR (body)))))) := by kernel_rfl
theorem l1_ok  (R : Ending → Mem → Prop) (ρ : Env) (m : Mem) (h : (l1E fun r_1b r_1o n_3 i_4 m => l1  r_1b r_1o n_3 i_4 R m) ρ m) : cpt P od (panicR R) (.loop (lP (bB (sR (sL (sR (sR (body)))))))) (l1Q  R) ρ m := by
  unfold l1E at h
  obtain ⟨r_1b, r_1o, e1, h⟩ := h.ex
  obtain ⟨n_3, e3, h⟩ := h.ex
  obtain ⟨i_4, e4, h⟩ := h.ex
  obtain ⟨I, N, h0, hs⟩ := h
  refine ⟨fun N => l1E (I N), N, (by show l1E (I N) ρ m; unfold l1E; rw [e1, e3, e4]; exact h0), ?_⟩
  clear h0 e1 e3 e4
  intro N ρ m h
  unfold l1E at h
  obtain ⟨r_1b, r_1o, e1, h⟩ := h.ex
  obtain ⟨n_3, e3, h⟩ := h.ex
  obtain ⟨i_4, e4, h⟩ := h.ex
  refine cpt_mono (P := P) (lP (bB (sR (sL (sR (sR (body))))))) (Q := thenQ (l1E fun r_1b r_1o n_3 i_4 m => ∃ N1, N1 < N ∧ I N1 r_1b r_1o n_3 i_4 m) (l1Q  R)) (fun e ρ m h => ?_) ρ m ?_
  · cases e with
    | normal =>
      have h : l1E (fun r_1b r_1o n_3 i_4 m => ∃ N1, N1 < N ∧ I N1 r_1b r_1o n_3 i_4 m) ρ m := h
      unfold l1E at h
      obtain ⟨r_1b, r_1o, e1, h⟩ := h.ex
      obtain ⟨n_3, e3, h⟩ := h.ex
      obtain ⟨i_4, e4, h⟩ := h.ex
      obtain ⟨N1, hlt, h⟩ := h
      exact ⟨N1, hlt, (by show l1E (I N1) ρ m; unfold l1E; rw [e1, e3, e4]; exact h)⟩
    | _ => exact h
  have hh := hs N r_1b r_1o n_3 i_4 m h
  generalize (fun r_1b r_1o n_3 i_4 m => ∃ N1, N1 < N ∧ I N1 r_1b r_1o n_3 i_4 m : Nat → Nat → Int → Int → Mem → Prop) = K1 at hh ⊢
  rw [← upd_self e1, ← upd_self e3, ← upd_self e4]
  rw [← l1_er  K1 R]
  refine acpt_sound (P := P) (l1A  K1 R) _ _ _ True.intro ?_
  exact Eq.mp (l1_eq  K1 R r_1b r_1o n_3 i_4 ρ m) hh
theorem e0_eq (r_0_0 : Int) (r_0_1 : Int) (r_0_2 : Int) (r_0_3 : Int) (r_0_4 : Int) (r_0_5a : Option Addr) (r_0_5l : Nat) (r_0_5c : Nat) (R : Ending → Mem → Prop) (m : Mem) : e0 r_0_0 r_0_1 r_0_2 r_0_3 r_0_4 r_0_5a r_0_5l r_0_5c R m = acpt P od (panicR R) (e0A R) (bodyQ P fn R) (argE (#[.agg #[.int .i64 r_0_0, .int .u64 r_0_1, .int .u64 r_0_2, .int .u64 r_0_3, .int .u64 r_0_4, .slice r_0_5a r_0_5l r_0_5c]] : Array Value).toList) m := by kernel_rfl
theorem ok (r_0_0 : Int) (r_0_1 : Int) (r_0_2 : Int) (r_0_3 : Int) (r_0_4 : Int) (r_0_5a : Option Addr) (r_0_5l : Nat) (r_0_5c : Nat) (R : Ending → Mem → Prop) (m : Mem) (h : e0 r_0_0 r_0_1 r_0_2 r_0_3 r_0_4 r_0_5a r_0_5l r_0_5c R m) : HC P id #[.agg #[.int .i64 r_0_0, .int .u64 r_0_1, .int .u64 r_0_2, .int .u64 r_0_3, .int .u64 r_0_4, .slice r_0_5a r_0_5l r_0_5c]] m R := by
  refine HC_of (fn := fn) (c := body) (od := od) (tb := tb) Go.Proofs.Tryd.func36 (by kernel_rfl) (by kernel_rfl) follows (by kernel_rfl) (of_decide_eq_true (by kernel_rfl)) ?_
  have he : (e0A R).erase = body := by kernel_rfl
  rw [← he]
  refine acpt_sound (P := P) (e0A R) _ _ _ ⟨⟨⟨True.intro, ⟨(fun ρ m h => l1_ok  R ρ m h), True.intro⟩⟩, True.intro⟩, True.intro⟩ ?_
  exact Eq.mp (e0_eq r_0_0 r_0_1 r_0_2 r_0_3 r_0_4 r_0_5a r_0_5l r_0_5c R m) h
end eyotref8_nodes
/-! ### eyot/eyotref8.depth -/
namespace eyotref8_depth
noncomputable def fn : Func := Go.Proofs.Tryd.f37
noncomputable def body : Code := fn.body.getD .skip
def od : Nat → Ord := fun _ => .done
def tb : Nat → Tab := fun _ => (0, [], [])
def l1E (K : Nat → Nat → Int → Int → Mem → Prop) : Env → Mem → Prop := fun ρ m => UnPA (ρ 1) fun r_1b r_1o => UnI (ρ 3) .i64 fun n_3 => UnI (ρ 4) .i64 fun i_4 => K r_1b r_1o n_3 i_4 m
def l1B  (K1 : Nat → Nat → Int → Int → Mem → Prop) (r_1b : Nat) (r_1o : Nat) (n_3 : Int) (i_4 : Int) (R : Ending → Mem → Prop) (m : Mem) : Prop :=
 LdV m r_1b (r_1o + 5) fun v =>
 UnS v fun x7a x7l x7c =>
 Br (decide (i_4 < ((x7l : Nat) : Int))) (
  LdV m r_1b (r_1o + 5) fun v =>
  UnS v fun x14a x14l x14c =>
  IxS x14a x14l i_4 6 fun x16b x16o =>
  LdV m x16b x16o fun v =>
  UnI v .i64 fun x17_0 =>
  LdV m x16b (x16o + 1) fun v =>
  UnI v .u64 fun x17_1 =>
  LdV m x16b (x16o + 2) fun v =>
  UnI v .u64 fun x17_2 =>
  LdV m x16b (x16o + 3) fun v =>
  UnI v .u64 fun x17_3 =>
  LdV m x16b (x16o + 4) fun v =>
  UnI v .u64 fun x17_4 =>
  LdV m x16b (x16o + 5) fun v =>
  UnS v fun x17_5a x17_5l x17_5c =>
  HC P eyotref8_depth.id #[.agg #[.int .i64 x17_0, .int .u64 x17_1, .int .u64 x17_2, .int .u64 x17_3, .int .u64 x17_4, .slice x17_5a x17_5l x17_5c]] m (Cont (fun v m1 =>
    UnI v .i64 fun x18 =>
    K1 r_1b r_1o (if x18 > n_3 then x18 else n_3) (IntKind.i64.wrap (i_4 + 1)) m1) (panicR R))) (
  R (.returned (.int .i64 (IntKind.i64.wrap (n_3 + 1)))) m)
def l1  (r_1b : Nat) (r_1o : Nat) (n_3 : Int) (i_4 : Int) (R : Ending → Mem → Prop) (m : Mem) : Prop :=
  ∃ (I : Nat → Nat → Nat → Int → Int → Mem → Prop) (N : Nat), I N r_1b r_1o n_3 i_4 m ∧ ∀ N r_1b r_1o n_3 i_4 m, I N r_1b r_1o n_3 i_4 m → l1B  (fun r_1b r_1o n_3 i_4 m => ∃ N1, N1 < N ∧ I N1 r_1b r_1o n_3 i_4 m) r_1b r_1o n_3 i_4 R m
noncomputable def l1A  (K1 : Nat → Nat → Int → Int → Mem → Prop) (R : Ending → Mem → Prop) : ACode := (.code (lP (bB (sR (sL (sR (sR (body))))))))
def e0 (r_0_0 : Int) (r_0_1 : Int) (r_0_2 : Int) (r_0_3 : Int) (r_0_4 : Int) (r_0_5a : Option Addr) (r_0_5l : Nat) (r_0_5c : Nat) (R : Ending → Mem → Prop) (m : Mem) : Prop :=
 NewC m #[.int .i64 r_0_0, .int .u64 r_0_1, .int .u64 r_0_2, .int .u64 r_0_3, .int .u64 r_0_4, .slice r_0_5a r_0_5l r_0_5c] T_api_Rx fun b_r_1 m1 =>
 l1  b_r_1 0 0 0 R m1
noncomputable def e0A (R : Ending → Mem → Prop) : ACode := (.seq (.code (sL (body))) (.seq (.code (sL (sR (body)))) (.seq (.seq (.code (sL (sL (sR (sR (body)))))) (.block 0 (.cut (l1E fun r_1b r_1o n_3 i_4 m => l1  r_1b r_1o n_3 i_4 R m) (.loop (lP (bB (sR (sL (sR (sR (body))))))))))) (.code (sR (sR (sR (body))))))))
abbrev l1Q  (R : Ending → Mem → Prop) : Exit → Env → Mem → Prop := (blockQ 0 (thenQ (acpt P od (panicR R) (.code (sR (sR (sR (body))))) (bodyQ P fn R)) (bodyQ P fn R)))
theorem l1_eq  (K1 : Nat → Nat → Int → Int → Mem → Prop) (R : Ending → Mem → Prop) (r_1b : Nat) (r_1o : Nat) (n_3 : Int) (i_4 : Int) (ρ : Env) (m : Mem) : l1B  K1 r_1b r_1o n_3 i_4 R m = acpt P od (panicR R) (l1A  K1 R) (thenQ (l1E K1) (l1Q  R)) (upd (upd (upd ρ 4 (.int .i64 i_4)) 3 (.int .i64 n_3)) 1 (.pointer (some ⟨r_1b, r_1o, none⟩))) m := by kernel_rfl
theorem l1_er  (K1 : Nat → Nat → Int → Int → Mem → Prop) (R : Ending → Mem → Prop) : (l1A  K1 R).erase = lP (bB (sR (sL (sR (sR (body)))))) := by kernel_rfl
theorem l1_ok  (R : Ending → Mem → Prop) (ρ : Env) (m : Mem) (h : (l1E fun r_1b r_1o n_3 i_4 m => l1  r_1b r_1o n_3 i_4 R m) ρ m) : cpt P od (panicR R) (.loop (lP (bB (sR (sL (sR (sR (body)))))))) (l1Q  R) ρ m := by
  unfold l1E at h
  obtain ⟨r_1b, r_1o, e1, h⟩ := h.ex
  obtain ⟨n_3, e3, h⟩ := h.ex
  obtain ⟨i_4, e4, h⟩ := h.ex
  obtain ⟨I, N, h0, hs⟩ := h
  refine ⟨fun N => l1E (I N), N, (by show l1E (I N) ρ m; unfold l1E; rw [e1, e3, e4]; exact h0), ?_⟩
  clear h0 e1 e3 e4
  intro N ρ m h
  unfold l1E at h
  obtain ⟨r_1b, r_1o, e1, h⟩ := h.ex
  obtain ⟨n_3, e3, h⟩ := h.ex
  obtain ⟨i_4, e4, h⟩ := h.ex
  refine cpt_mono (P := P) (lP (bB (sR (sL (sR (sR (body))))))) (Q := thenQ (l1E fun r_1b r_1o n_3 i_4 m => ∃ N1, N1 < N ∧ I N1 r_1b r_1o n_3 i_4 m) (l1Q  R)) (fun e ρ m h => ?_) ρ m ?_
  · cases e with
    | normal =>
      have h : l1E (fun r_1b r_1o n_3 i_4 m => ∃ N1, N1 < N ∧ I N1 r_1b r_1o n_3 i_4 m) ρ m := h
      unfold l1E at h
      obtain ⟨r_1b, r_1o, e1, h⟩ := h.ex
      obtain ⟨n_3, e3, h⟩ := h.ex
      obtain ⟨i_4, e4, h⟩ := h.ex
      obtain ⟨N1, hlt, h⟩ := h
      exact ⟨N1, hlt, (by show l1E (I N1) ρ m; unfold l1E; rw [e1, e3, e4]; exact h)⟩
    | _ => exact h
  have hh := hs N r_1b r_1o n_3 i_4 m h
  generalize (fun r_1b r_1o n_3 i_4 m => ∃ N1, N1 < N ∧ I N1 r_1b r_1o n_3 i_4 m : Nat → Nat → Int → Int → Mem → Prop) = K1 at hh ⊢
  rw [← upd_self e1, ← upd_self e3, ← upd_self e4]
  rw [← l1_er  K1 R]
  refine acpt_sound (P := P) (l1A  K1 R) _ _ _ True.intro ?_
  exact Eq.mp (l1_eq  K1 R r_1b r_1o n_3 i_4 ρ m) hh
theorem e0_eq (r_0_0 : Int) (r_0_1 : Int) (r_0_2 : Int) (r_0_3 : Int) (r_0_4 : Int) (r_0_5a : Option Addr) (r_0_5l : Nat) (r_0_5c : Nat) (R : Ending → Mem → Prop) (m : Mem) : e0 r_0_0 r_0_1 r_0_2 r_0_3 r_0_4 r_0_5a r_0_5l r_0_5c R m = acpt P od (panicR R) (e0A R) (bodyQ P fn R) (argE (#[.agg #[.int .i64 r_0_0, .int .u64 r_0_1, .int .u64 r_0_2, .int .u64 r_0_3, .int .u64 r_0_4, .slice r_0_5a r_0_5l r_0_5c]] : Array Value).toList) m := by kernel_rfl
theorem ok (r_0_0 : Int) (r_0_1 : Int) (r_0_2 : Int) (r_0_3 : Int) (r_0_4 : Int) (r_0_5a : Option Addr) (r_0_5l : Nat) (r_0_5c : Nat) (R : Ending → Mem → Prop) (m : Mem) (h : e0 r_0_0 r_0_1 r_0_2 r_0_3 r_0_4 r_0_5a r_0_5l r_0_5c R m) : HC P id #[.agg #[.int .i64 r_0_0, .int .u64 r_0_1, .int .u64 r_0_2, .int .u64 r_0_3, .int .u64 r_0_4, .slice r_0_5a r_0_5l r_0_5c]] m R := by
  refine HC_of (fn := fn) (c := body) (od := od) (tb := tb) Go.Proofs.Tryd.func37 (by kernel_rfl) (by kernel_rfl) follows (by kernel_rfl) (of_decide_eq_true (by kernel_rfl)) ?_
  have he : (e0A R).erase = body := by kernel_rfl
  rw [← he]
  refine acpt_sound (P := P) (e0A R) _ _ _ ⟨⟨⟨True.intro, ⟨(fun ρ m h => l1_ok  R ρ m h), True.intro⟩⟩, True.intro⟩, True.intro⟩ ?_
  exact Eq.mp (e0_eq r_0_0 r_0_1 r_0_2 r_0_3 r_0_4 r_0_5a r_0_5l r_0_5c R m) h
end eyotref8_depth
/-! ### (*eyot/eyotplay.Picks).Num -/
namespace eyotplay_Picks_Num
noncomputable def fn : Func := Go.Proofs.Tryd.f38
noncomputable def body : Code := fn.body.getD .skip
def od : Nat → Ord := fun | 1 => ordL [(0, 3), (1, 3), (2, 3), (3, 1), (4, 3), (5, 3), (6, 3), (7, 0), (8, 3), (9, 3)] .done | 4 => ordL [(0, 3), (1, 3), (2, 3), (3, 1), (4, 3), (5, 3), (6, 3), (7, 1), (8, 3), (9, 3), (10, 1), (11, 3), (12, 3), (13, 3), (14, 3)] .done | _ => .done
def tb : Nat → Tab := fun | 1 => (0, [0, 1, 3, 7, 0, 16, 48, 112, 240, 511], [(0, 1, 6), (1, 32, 7), (2, 64, 8), (4, 128, 9), (0, 1, 10), (16, 512, 11), (32, 1024, 12), (64, 2048, 13), (128, 4096, 14), (264, 8448, 15)]) | 4 => (0, [0, 1, 3, 7, 0, 16, 48, 112, 240, 511, 1023, 2047, 0, 8191, 16383], [(0, 1, 23), (1, 4194304, 24), (2, 8388608, 25), (4, 16777216, 26), (0, 1, 27), (16, 67108864, 28), (32, 134217728, 29), (64, 268435456, 30), (128, 536870912, 31), (264, 1107296256, 32), (512, 2147483648, 33), (1024, 4294967296, 34), (0, 2, 35), (6144, 25769803776, 36), (16383, 34359738368, 5)]) | _ => (0, [], [])
def e0 (p_0 : Option Addr) (m_1 : Int) (R : Ending → Mem → Prop) (m : Mem) : Prop :=
 Sub m fun r1 =>
 NilC p_0 (fun x6b x6o =>
  LdV r1 x6b (x6o + 1) fun v =>
  UnI v .i64 fun x8 =>
  NilC p_0 (fun x10b x10o =>
   LdV m x10b x10o fun v =>
   UnS v fun x12a x12l x12c =>
   Br (decide (x8 ≥ ((x12l : Nat) : Int))) (
    R (.returned (.int .i64 0)) m) (
    NilC p_0 (fun x16b x16o =>
     LdV m x16b (x16o + 1) fun v =>
     UnI v .i64 fun x18 =>
     NilC p_0 (fun x20b x20o =>
      St1 m x20b (x20o + 1) (.int .i64 (IntKind.i64.wrap (x18 + 1))) fun m2 =>
      Sub m2 fun r3 =>
      NilC p_0 (fun x23b x23o =>
       LdV r3 x23b x23o fun v =>
       UnS v fun x25a x25l x25c =>
       NilC p_0 (fun x27b x27o =>
        LdV r3 x27b (x27o + 1) fun v =>
        UnI v .i64 fun x29 =>
        IxS x25a x25l (IntKind.i64.wrap (x29 - 1)) 1 fun x31b x31o =>
        LdV r3 x31b x31o fun v =>
        UnI v .u8 fun x32 =>
        NzI m_1 (
        R (.returned (.int .i64 (Int.tmod (IntKind.i64.wrap x32) m_1))) m2)) (False)) (False)) (R (.panicked (nilPanic P)) m)) (R (.panicked (nilPanic P)) m))) (False)) (False)
noncomputable def e0A (R : Ending → Mem → Prop) : ACode := (.code (body))
theorem e0_eq (p_0 : Option Addr) (m_1 : Int) (R : Ending → Mem → Prop) (m : Mem) : e0 p_0 m_1 R m = acpt P od (panicR R) (e0A R) (bodyQ P fn R) (argE (#[.pointer p_0, .int .i64 m_1] : Array Value).toList) m := by kernel_rfl
theorem ok (p_0 : Option Addr) (m_1 : Int) (R : Ending → Mem → Prop) (m : Mem) (h : e0 p_0 m_1 R m) : HC P id #[.pointer p_0, .int .i64 m_1] m R := by
  refine HC_of (fn := fn) (c := body) (od := od) (tb := tb) Go.Proofs.Tryd.func38 (by kernel_rfl) (by kernel_rfl) follows (by kernel_rfl) (of_decide_eq_true (by kernel_rfl)) ?_
  have he : (e0A R).erase = body := by kernel_rfl
  rw [← he]
  refine acpt_sound (P := P) (e0A R) _ _ _ True.intro ?_
  exact Eq.mp (e0_eq p_0 m_1 R m) h
end eyotplay_Picks_Num
/-! ### (*eyot/eyotplay.Picks).Set -/
namespace eyotplay_Picks_Set
noncomputable def fn : Func := Go.Proofs.Tryd.f39
noncomputable def body : Code := fn.body.getD .skip
def od : Nat → Ord := fun _ => .done
def tb : Nat → Tab := fun _ => (0, [], [])
def e0 (p_0 : Option Addr) (R : Ending → Mem → Prop) (m : Mem) : Prop :=
 NewC m #[.int .u64 0, .int .u64 0, .int .u64 0, .int .u64 0] T_api_Set fun b2 m1 =>
 HC P eyotplay_Picks_Num.id #[.pointer p_0, .int .i64 7] m1 (Cont (fun v m2 =>
   UnI v .i64 fun x4 =>
   Br (x4 == 0) (
    NewC m2 #[.int .u8 97, .int .u8 98] T_uint8 fun b7 m3 =>
    HC P eyotref8_Of.id #[.slice (some ⟨b7, 0, none⟩) 2 2] m3 (Cont (fun v m4 =>
      UnAgg v fun l =>
      UnCons l fun v l =>
      UnI v .u64 fun x8_0 =>
      UnCons l fun v l =>
      UnI v .u64 fun x8_1 =>
      UnCons l fun v l =>
      UnI v .u64 fun x8_2 =>
      UnCons l fun v l =>
      UnI v .u64 fun x8_3 =>
      UnNil l (
       St1 m4 b2 0 (.int .u64 x8_0) fun m5 =>
       St1 m5 b2 1 (.int .u64 x8_1) fun m6 =>
       St1 m6 b2 2 (.int .u64 x8_2) fun m7 =>
       St1 m7 b2 3 (.int .u64 x8_3) fun m8 =>
       LdV m8 b2 0 fun v =>
       UnI v .u64 fun res0_0 =>
       LdV m8 b2 1 fun v =>
       UnI v .u64 fun res0_1 =>
       LdV m8 b2 2 fun v =>
       UnI v .u64 fun res0_2 =>
       LdV m8 b2 3 fun v =>
       UnI v .u64 fun res0_3 =>
       R (.returned (.agg #[.int .u64 res0_0, .int .u64 res0_1, .int .u64 res0_2, .int .u64 res0_3])) m8)) (panicR R))) (
    Br (x4 == 1) (
     NewC m2 #[.int .u8 98, .int .u8 99, .int .u8 100] T_uint8 fun b11 m3 =>
     HC P eyotref8_Of.id #[.slice (some ⟨b11, 0, none⟩) 3 3] m3 (Cont (fun v m4 =>
       UnAgg v fun l =>
       UnCons l fun v l =>
       UnI v .u64 fun x12_0 =>
       UnCons l fun v l =>
       UnI v .u64 fun x12_1 =>
       UnCons l fun v l =>
       UnI v .u64 fun x12_2 =>
       UnCons l fun v l =>
       UnI v .u64 fun x12_3 =>
       UnNil l (
        St1 m4 b2 0 (.int .u64 x12_0) fun m5 =>
        St1 m5 b2 1 (.int .u64 x12_1) fun m6 =>
        St1 m6 b2 2 (.int .u64 x12_2) fun m7 =>
        St1 m7 b2 3 (.int .u64 x12_3) fun m8 =>
        LdV m8 b2 0 fun v =>
        UnI v .u64 fun res0_0 =>
        LdV m8 b2 1 fun v =>
        UnI v .u64 fun res0_1 =>
        LdV m8 b2 2 fun v =>
        UnI v .u64 fun res0_2 =>
        LdV m8 b2 3 fun v =>
        UnI v .u64 fun res0_3 =>
        R (.returned (.agg #[.int .u64 res0_0, .int .u64 res0_1, .int .u64 res0_2, .int .u64 res0_3])) m8)) (panicR R))) (
     Br (x4 == 2) (
      NewC m2 #[.int .u8 97, .int .u8 10] T_uint8 fun b15 m3 =>
      HC P eyotref8_Of.id #[.slice (some ⟨b15, 0, none⟩) 2 2] m3 (Cont (fun v m4 =>
        UnAgg v fun l =>
        UnCons l fun v l =>
        UnI v .u64 fun x16_0 =>
        UnCons l fun v l =>
        UnI v .u64 fun x16_1 =>
        UnCons l fun v l =>
        UnI v .u64 fun x16_2 =>
        UnCons l fun v l =>
        UnI v .u64 fun x16_3 =>
        UnNil l (
        HC P eyotref8_Not.id #[.agg #[.int .u64 x16_0, .int .u64 x16_1, .int .u64 x16_2, .int .u64 x16_3]] m4 (Cont (fun v m5 =>
        UnAgg v fun l =>
        UnCons l fun v l =>
        UnI v .u64 fun x17_0 =>
        UnCons l fun v l =>
        UnI v .u64 fun x17_1 =>
        UnCons l fun v l =>
        UnI v .u64 fun x17_2 =>
        UnCons l fun v l =>
        UnI v .u64 fun x17_3 =>
        UnNil l (
        St1 m5 b2 0 (.int .u64 x17_0) fun m6 =>
        St1 m6 b2 1 (.int .u64 x17_1) fun m7 =>
        St1 m7 b2 2 (.int .u64 x17_2) fun m8 =>
        St1 m8 b2 3 (.int .u64 x17_3) fun m9 =>
        LdV m9 b2 0 fun v =>
        UnI v .u64 fun res0_0 =>
        LdV m9 b2 1 fun v =>
        UnI v .u64 fun res0_1 =>
        LdV m9 b2 2 fun v =>
        UnI v .u64 fun res0_2 =>
        LdV m9 b2 3 fun v =>
        UnI v .u64 fun res0_3 =>
        R (.returned (.agg #[.int .u64 res0_0, .int .u64 res0_1, .int .u64 res0_2, .int .u64 res0_3])) m9)) (panicR R)))) (panicR R))) (
      Br (x4 == 3) (
       NewC m2 #[.int .u8 48, .int .u8 49, .int .u8 50] T_uint8 fun b20 m3 =>
       HC P eyotref8_Of.id #[.slice (some ⟨b20, 0, none⟩) 3 3] m3 (Cont (fun v m4 =>
        UnAgg v fun l =>
        UnCons l fun v l =>
        UnI v .u64 fun x21_0 =>
        UnCons l fun v l =>
        UnI v .u64 fun x21_1 =>
        UnCons l fun v l =>
        UnI v .u64 fun x21_2 =>
        UnCons l fun v l =>
        UnI v .u64 fun x21_3 =>
        UnNil l (
        St1 m4 b2 0 (.int .u64 x21_0) fun m5 =>
        St1 m5 b2 1 (.int .u64 x21_1) fun m6 =>
        St1 m6 b2 2 (.int .u64 x21_2) fun m7 =>
        St1 m7 b2 3 (.int .u64 x21_3) fun m8 =>
        LdV m8 b2 0 fun v =>
        UnI v .u64 fun res0_0 =>
        LdV m8 b2 1 fun v =>
        UnI v .u64 fun res0_1 =>
        LdV m8 b2 2 fun v =>
        UnI v .u64 fun res0_2 =>
        LdV m8 b2 3 fun v =>
        UnI v .u64 fun res0_3 =>
        R (.returned (.agg #[.int .u64 res0_0, .int .u64 res0_1, .int .u64 res0_2, .int .u64 res0_3])) m8)) (panicR R))) (
       HC P eyotplay_Picks_Num.id #[.pointer p_0, .int .i64 6] m2 (Cont (fun v m3 =>
        UnI v .i64 fun x23 =>
        IxB (ByteArray.mk #[97, 98, 49, 10, 32, 45]) x23 fun x24 =>
        NewC m3 #[.int .u8 x24] T_uint8 fun b25 m4 =>
        HC P eyotref8_Of.id #[.slice (some ⟨b25, 0, none⟩) 1 1] m4 (Cont (fun v m5 =>
        UnAgg v fun l =>
        UnCons l fun v l =>
        UnI v .u64 fun x26_0 =>
        UnCons l fun v l =>
        UnI v .u64 fun x26_1 =>
        UnCons l fun v l =>
        UnI v .u64 fun x26_2 =>
        UnCons l fun v l =>
        UnI v .u64 fun x26_3 =>
        UnNil l (
        St1 m5 b2 0 (.int .u64 x26_0) fun m6 =>
        St1 m6 b2 1 (.int .u64 x26_1) fun m7 =>
        St1 m7 b2 2 (.int .u64 x26_2) fun m8 =>
        St1 m8 b2 3 (.int .u64 x26_3) fun m9 =>
        LdV m9 b2 0 fun v =>
        UnI v .u64 fun res0_0 =>
        LdV m9 b2 1 fun v =>
        UnI v .u64 fun res0_1 =>
        LdV m9 b2 2 fun v =>
        UnI v .u64 fun res0_2 =>
        LdV m9 b2 3 fun v =>
        UnI v .u64 fun res0_3 =>
        R (.returned (.agg #[.int .u64 res0_0, .int .u64 res0_1, .int .u64 res0_2, .int .u64 res0_3])) m9)) (panicR R))) (panicR R))))))) (panicR R))
noncomputable def e0A (R : Ending → Mem → Prop) : ACode := (.code (body))
theorem e0_eq (p_0 : Option Addr) (R : Ending → Mem → Prop) (m : Mem) : e0 p_0 R m = acpt P od (panicR R) (e0A R) (bodyQ P fn R) (argE (#[.pointer p_0] : Array Value).toList) m := by kernel_rfl
theorem ok (p_0 : Option Addr) (R : Ending → Mem → Prop) (m : Mem) (h : e0 p_0 R m) : HC P id #[.pointer p_0] m R := by
  refine HC_of (fn := fn) (c := body) (od := od) (tb := tb) Go.Proofs.Tryd.func39 (by kernel_rfl) (by kernel_rfl) follows (by kernel_rfl) (of_decide_eq_true (by kernel_rfl)) ?_
  have he : (e0A R).erase = body := by kernel_rfl
  rw [← he]
  refine acpt_sound (P := P) (e0A R) _ _ _ True.intro ?_
  exact Eq.mp (e0_eq p_0 R m) h
end eyotplay_Picks_Set
end
end Go.E
set_option linter.unusedVariables false
set_option maxRecDepth 100000
namespace Go.E
open Go.H
noncomputable section
/-! ### eyot/class.Show -/
namespace class_Show
noncomputable def fn : Func := Go.Proofs.Tryd.f40
noncomputable def body : Code := fn.body.getD .skip
def od : Nat → Ord := fun | 4 => ordL [(0, 1), (1, 3), (2, 0), (3, 3), (4, 3)] .done | 6 => ordL [(0, 3), (1, 3), (2, 3), (3, 3), (4, 3), (5, 3), (6, 3), (7, 1), (8, 3), (9, 3), (10, 3), (11, 0), (12, 3), (13, 3), (14, 3)] .done | _ => .done
def tb : Nat → Tab := fun | 4 => (0, [0, 0, 2, 7, 15], [(0, 2, 15), (0, 0, 16), (2, 32768, 17), (5, 81920, 18), (12, 131072, 14)]) | 6 => (0, [0, 1, 3, 7, 15, 31, 63, 127, 15, 271, 783, 1807, 4095, 8191, 16383], [(0, 8, 20), (1, 524288, 21), (2, 1048576, 22), (4, 2097152, 23), (8, 4194312, 24), (24, 12582912, 25), (40, 20971520, 26), (72, 37748736, 27), (8, 4194312, 28), (264, 138412032, 29), (520, 272629760, 30), (1032, 541065216, 31), (2184, 1145044992, 32), (4104, 2151677952, 33), (8200, 4294967296, 19)]) | _ => (0, [], [])
def l3E (K : ByteArray → Option Addr → Nat → Nat → Int → Int → Mem → Prop) : Env → Mem → Prop := fun ρ m => UnStr (ρ 4) fun out_4 => UnS (ρ 38) fun x38a x38l x38c => UnI (ρ 39) .i64 fun x39 => UnI (ρ 40) .i64 fun x40 => K out_4 x38a x38l x38c x39 x40 m
def l3B  (K3 : ByteArray → Option Addr → Nat → Nat → Int → Int → Mem → Prop) (out_4 : ByteArray) (x38a : Option Addr) (x38l : Nat) (x38c : Nat) (x39 : Int) (x40 : Int) (R : Ending → Mem → Prop) (m : Mem) : Prop :=
 Br (decide (x40 < x39)) (
  IxS x38a x38l x40 2 fun x42b x42o =>
  LdV m x42b x42o fun v =>
  UnI v .u8 fun x43_0 =>
  LdV m x42b (x42o + 1) fun v =>
  UnI v .u8 fun x43_1 =>
  NewC m #[.int .u8 0, .int .u8 0] T_arr2_uint8 fun b_r_6 m1 =>
  St1 m1 b_r_6 0 (.int .u8 x43_0) fun m2 =>
  St1 m2 b_r_6 1 (.int .u8 x43_1) fun m3 =>
  LdV m3 b_r_6 0 fun v =>
  UnI v .u8 fun x45_0 =>
  LdV m3 b_r_6 1 fun v =>
  UnI v .u8 fun x45_1 =>
  HC P class_shown.id #[.agg #[.int .u8 x45_0, .int .u8 x45_1]] m3 (Cont (fun v m4 =>
    UnStr v fun x46 =>
    CatB out_4 x46 (
     K3 (out_4 ++ x46) x38a x38l x38c x39 (IntKind.i64.wrap (x40 + 1)) m4)) (panicR R))) (
  CatB out_4 (ByteArray.mk #[93]) (
   R (.returned (.string (out_4 ++ (ByteArray.mk #[93])))) m))
def l3  (out_4 : ByteArray) (x38a : Option Addr) (x38l : Nat) (x38c : Nat) (x39 : Int) (x40 : Int) (R : Ending → Mem → Prop) (m : Mem) : Prop :=
  ∃ (I : Nat → ByteArray → Option Addr → Nat → Nat → Int → Int → Mem → Prop) (N : Nat), I N out_4 x38a x38l x38c x39 x40 m ∧ ∀ N out_4 x38a x38l x38c x39 x40 m, I N out_4 x38a x38l x38c x39 x40 m → l3B  (fun out_4 x38a x38l x38c x39 x40 m => ∃ N1, N1 < N ∧ I N1 out_4 x38a x38l x38c x39 x40 m) out_4 x38a x38l x38c x39 x40 R m
noncomputable def l3A  (K3 : ByteArray → Option Addr → Nat → Nat → Int → Int → Mem → Prop) (R : Ending → Mem → Prop) : ACode := (.code (lP (bB (sR (sL (sR (sR (sR (sR (body))))))))))
def k2E (K : Option Addr → Nat → Nat → Mem → Prop) : Env → Mem → Prop := fun ρ m => UnS (ρ 3) fun l_3a l_3l l_3c => K l_3a l_3l l_3c m
def k2  (l_3a : Option Addr) (l_3l : Nat) (l_3c : Nat) (R : Ending → Mem → Prop) (m : Mem) : Prop :=
 l3  (ByteArray.mk #[91]) l_3a l_3l l_3c ((l_3l : Nat) : Int) 0 R m
noncomputable def k2A  (R : Ending → Mem → Prop) : ACode := (.seq (.code (sL (sR (sR (sR (body)))))) (.seq (.seq (.code (sL (sL (sR (sR (sR (sR (body)))))))) (.block 1 (.cut (l3E fun out_4 x38a x38l x38c x39 x40 m => l3  out_4 x38a x38l x38c x39 x40 R m) (.loop (lP (bB (sR (sL (sR (sR (sR (sR (body))))))))))))) (.code (sR (sR (sR (sR (sR (body)))))))))
def k1E (K : Option Addr → Nat → Nat → Bool → Mem → Prop) : Env → Mem → Prop := fun ρ m => UnS (ρ 3) fun l_3a l_3l l_3c => UnB (ρ 18) fun x18 => K l_3a l_3l l_3c x18 m
def k1  (l_3a : Option Addr) (l_3l : Nat) (l_3c : Nat) (x18 : Bool) (R : Ending → Mem → Prop) (m : Mem) : Prop :=
 Br x18 (
  IxS l_3a l_3l 0 2 fun x34b x34o =>
  0 ≤ (0 : Int) ∧ (0 : Int) < (2 : Nat) ∧ (
   LdV m x34b (x34o + (0 : Int).toNat * 1) fun v =>
   UnI v .u8 fun x36 =>
   HC P class_sign.id #[.int .u8 x36] m (Cont (fun v m1 =>
     UnStr v fun x37 =>
     R (.returned (.string x37)) m1) (panicR R)))) (
  k2  l_3a l_3l l_3c R m)
noncomputable def k1A  (R : Ending → Mem → Prop) : ACode := (.code (sR (cE (sR (cE (sR (bB (sL (sR (sR (body)))))))))))
def e0 (s_0_0 : Int) (s_0_1 : Int) (s_0_2 : Int) (s_0_3 : Int) (R : Ending → Mem → Prop) (m : Mem) : Prop :=
 NewC m #[.int .u64 s_0_0, .int .u64 s_0_1, .int .u64 s_0_2, .int .u64 s_0_3] T_api_Set fun b_s_1 m1 =>
 LdV m1 b_s_1 0 fun v =>
 UnI v .u64 fun x7_0 =>
 LdV m1 b_s_1 1 fun v =>
 UnI v .u64 fun x7_1 =>
 LdV m1 b_s_1 2 fun v =>
 UnI v .u64 fun x7_2 =>
 LdV m1 b_s_1 3 fun v =>
 UnI v .u64 fun x7_3 =>
 HC P class_runs.id #[.agg #[.int .u64 x7_0, .int .u64 x7_1, .int .u64 x7_2, .int .u64 x7_3]] m1 (Cont (fun v m2 =>
   UnS v fun x8a x8l x8c =>
   Br (((x8l : Nat) : Int) == 0) (
    R (.returned (.string (ByteArray.mk #[]))) m2) (
    Sub m2 fun r3 =>
    LdV r3 b_s_1 0 fun v =>
    UnI v .u64 fun x14_0 =>
    LdV r3 b_s_1 1 fun v =>
    UnI v .u64 fun x14_1 =>
    LdV r3 b_s_1 2 fun v =>
    UnI v .u64 fun x14_2 =>
    LdV r3 b_s_1 3 fun v =>
    UnI v .u64 fun x14_3 =>
    HC P class_Not.id #[.agg #[.int .u64 0, .int .u64 0, .int .u64 0, .int .u64 0]] m2 (Cont (fun v m4 =>
      UnAgg v fun l =>
      UnCons l fun v l =>
      UnI v .u64 fun x16_0 =>
      UnCons l fun v l =>
      UnI v .u64 fun x16_1 =>
      UnCons l fun v l =>
      UnI v .u64 fun x16_2 =>
      UnCons l fun v l =>
      UnI v .u64 fun x16_3 =>
      UnNil l (
       Lk r3 m4 fun r5 =>
       Br (eqL [.int .u64 x14_0, .int .u64 x14_1, .int .u64 x14_2, .int .u64 x14_3] [.int .u64 x16_0, .int .u64 x16_1, .int .u64 x16_2, .int .u64 x16_3]) (
        R (.returned (.string (ByteArray.mk #[46]))) m4) (
        Sub m4 fun r6 =>
        Br (((x8l : Nat) : Int) == 1) (
        IxS x8a x8l 0 2 fun x24b x24o =>
        0 ≤ (0 : Int) ∧ (0 : Int) < (2 : Nat) ∧ (
        LdV r6 x24b (x24o + (0 : Int).toNat * 1) fun v =>
        UnI v .u8 fun x26 =>
        IxS x8a x8l 0 2 fun x28b x28o =>
        0 ≤ (1 : Int) ∧ (1 : Int) < (2 : Nat) ∧ (
        LdV m4 x28b (x28o + (1 : Int).toNat * 1) fun v =>
        UnI v .u8 fun x30 =>
        k1  x8a x8l x8c (x26 == x30) R m4))) (
        k1  x8a x8l x8c false R m4)))) (panicR R)))) (panicR R))
noncomputable def e0A (R : Ending → Mem → Prop) : ACode := (.seq (.code (sL (body))) (.seq (.code (sL (sR (body)))) (.seq (.block 0 (.seq (.code (sL (bB (sL (sR (sR (body))))))) (.cond (.tmp 9) (.code (cT (sR (bB (sL (sR (sR (body)))))))) (.seq (.code (sL (cE (sR (bB (sL (sR (sR (body))))))))) (.cond (.tmp 13) (.code (cT (sR (cE (sR (bB (sL (sR (sR (body)))))))))) (.seq (.code (sL (cE (sR (cE (sR (bB (sL (sR (sR (body))))))))))) (.cut (k1E fun l_3a l_3l l_3c x18 m => k1  l_3a l_3l l_3c x18 R m) (sR (cE (sR (cE (sR (bB (sL (sR (sR (body))))))))))))))))) (.cut (k2E fun l_3a l_3l l_3c m => k2  l_3a l_3l l_3c R m) (sR (sR (sR (body))))))))
abbrev k2Q  (R : Ending → Mem → Prop) : Exit → Env → Mem → Prop := (bodyQ P fn R)
abbrev l3Q  (R : Ending → Mem → Prop) : Exit → Env → Mem → Prop := (blockQ 1 (thenQ (acpt P od (panicR R) (.code (sR (sR (sR (sR (sR (body))))))) (k2Q  R)) (k2Q  R)))
abbrev k1Q  (R : Ending → Mem → Prop) : Exit → Env → Mem → Prop := (blockQ 0 (thenQ (acpt P od (panicR R) (.cut (k2E fun l_3a l_3l l_3c m => k2  l_3a l_3l l_3c R m) (sR (sR (sR (body))))) (bodyQ P fn R)) (bodyQ P fn R)))
theorem l3_eq  (K3 : ByteArray → Option Addr → Nat → Nat → Int → Int → Mem → Prop) (R : Ending → Mem → Prop) (out_4 : ByteArray) (x38a : Option Addr) (x38l : Nat) (x38c : Nat) (x39 : Int) (x40 : Int) (ρ : Env) (m : Mem) : l3B  K3 out_4 x38a x38l x38c x39 x40 R m = acpt P od (panicR R) (l3A  K3 R) (thenQ (l3E K3) (l3Q  R)) (upd (upd (upd (upd ρ 40 (.int .i64 x40)) 39 (.int .i64 x39)) 38 (.slice x38a x38l x38c)) 4 (.string out_4)) m := by kernel_rfl
theorem l3_er  (K3 : ByteArray → Option Addr → Nat → Nat → Int → Int → Mem → Prop) (R : Ending → Mem → Prop) : (l3A  K3 R).erase = lP (bB (sR (sL (sR (sR (sR (sR (body)))))))) := by kernel_rfl
theorem l3_ok  (R : Ending → Mem → Prop) (ρ : Env) (m : Mem) (h : (l3E fun out_4 x38a x38l x38c x39 x40 m => l3  out_4 x38a x38l x38c x39 x40 R m) ρ m) : cpt P od (panicR R) (.loop (lP (bB (sR (sL (sR (sR (sR (sR (body)))))))))) (l3Q  R) ρ m := by
  unfold l3E at h
  obtain ⟨out_4, e4, h⟩ := h.ex
  obtain ⟨x38a, x38l, x38c, e38, h⟩ := h.ex
  obtain ⟨x39, e39, h⟩ := h.ex
  obtain ⟨x40, e40, h⟩ := h.ex
  obtain ⟨I, N, h0, hs⟩ := h
  refine ⟨fun N => l3E (I N), N, (by show l3E (I N) ρ m; unfold l3E; rw [e4, e38, e39, e40]; exact h0), ?_⟩
  clear h0 e4 e38 e39 e40
  intro N ρ m h
  unfold l3E at h
  obtain ⟨out_4, e4, h⟩ := h.ex
  obtain ⟨x38a, x38l, x38c, e38, h⟩ := h.ex
  obtain ⟨x39, e39, h⟩ := h.ex
  obtain ⟨x40, e40, h⟩ := h.ex
  refine cpt_mono (P := P) (lP (bB (sR (sL (sR (sR (sR (sR (body))))))))) (Q := thenQ (l3E fun out_4 x38a x38l x38c x39 x40 m => ∃ N1, N1 < N ∧ I N1 out_4 x38a x38l x38c x39 x40 m) (l3Q  R)) (fun e ρ m h => ?_) ρ m ?_
  · cases e with
    | normal =>
      have h : l3E (fun out_4 x38a x38l x38c x39 x40 m => ∃ N1, N1 < N ∧ I N1 out_4 x38a x38l x38c x39 x40 m) ρ m := h
      unfold l3E at h
      obtain ⟨out_4, e4, h⟩ := h.ex
      obtain ⟨x38a, x38l, x38c, e38, h⟩ := h.ex
      obtain ⟨x39, e39, h⟩ := h.ex
      obtain ⟨x40, e40, h⟩ := h.ex
      obtain ⟨N1, hlt, h⟩ := h
      exact ⟨N1, hlt, (by show l3E (I N1) ρ m; unfold l3E; rw [e4, e38, e39, e40]; exact h)⟩
    | _ => exact h
  have hh := hs N out_4 x38a x38l x38c x39 x40 m h
  generalize (fun out_4 x38a x38l x38c x39 x40 m => ∃ N1, N1 < N ∧ I N1 out_4 x38a x38l x38c x39 x40 m : ByteArray → Option Addr → Nat → Nat → Int → Int → Mem → Prop) = K3 at hh ⊢
  rw [← upd_self e4, ← upd_self e38, ← upd_self e39, ← upd_self e40]
  rw [← l3_er  K3 R]
  refine acpt_sound (P := P) (l3A  K3 R) _ _ _ True.intro ?_
  exact Eq.mp (l3_eq  K3 R out_4 x38a x38l x38c x39 x40 ρ m) hh
theorem k2_eq  (R : Ending → Mem → Prop) (l_3a : Option Addr) (l_3l : Nat) (l_3c : Nat) (ρ : Env) (m : Mem) : k2  l_3a l_3l l_3c R m = acpt P od (panicR R) (k2A  R) (k2Q  R) (upd ρ 3 (.slice l_3a l_3l l_3c)) m := by kernel_rfl
theorem k2_er  (R : Ending → Mem → Prop) : (k2A  R).erase = sR (sR (sR (body))) := by kernel_rfl
theorem k2_ok  (R : Ending → Mem → Prop) (ρ : Env) (m : Mem) (h : (k2E fun l_3a l_3l l_3c m => k2  l_3a l_3l l_3c R m) ρ m) : cpt P od (panicR R) (sR (sR (sR (body)))) (k2Q  R) ρ m := by
  unfold k2E at h
  obtain ⟨l_3a, l_3l, l_3c, e3, h⟩ := h.ex
  rw [← upd_self e3]
  rw [← k2_er  R]
  refine acpt_sound (P := P) (k2A  R) _ _ _ ⟨⟨True.intro, ⟨(fun ρ m h => l3_ok  R ρ m h), True.intro⟩⟩, True.intro⟩ ?_
  exact Eq.mp (k2_eq  R l_3a l_3l l_3c ρ m) h
theorem k1_eq  (R : Ending → Mem → Prop) (l_3a : Option Addr) (l_3l : Nat) (l_3c : Nat) (x18 : Bool) (ρ : Env) (m : Mem) : k1  l_3a l_3l l_3c x18 R m = acpt P od (panicR R) (k1A  R) (k1Q  R) (upd (upd ρ 18 (.bool x18)) 3 (.slice l_3a l_3l l_3c)) m := by kernel_rfl
theorem k1_er  (R : Ending → Mem → Prop) : (k1A  R).erase = sR (cE (sR (cE (sR (bB (sL (sR (sR (body))))))))) := by kernel_rfl
theorem k1_ok  (R : Ending → Mem → Prop) (ρ : Env) (m : Mem) (h : (k1E fun l_3a l_3l l_3c x18 m => k1  l_3a l_3l l_3c x18 R m) ρ m) : cpt P od (panicR R) (sR (cE (sR (cE (sR (bB (sL (sR (sR (body)))))))))) (k1Q  R) ρ m := by
  unfold k1E at h
  obtain ⟨l_3a, l_3l, l_3c, e3, h⟩ := h.ex
  obtain ⟨x18, e18, h⟩ := h.ex
  rw [← upd_self e3, ← upd_self e18]
  rw [← k1_er  R]
  refine acpt_sound (P := P) (k1A  R) _ _ _ True.intro ?_
  exact Eq.mp (k1_eq  R l_3a l_3l l_3c x18 ρ m) h
theorem e0_eq (s_0_0 : Int) (s_0_1 : Int) (s_0_2 : Int) (s_0_3 : Int) (R : Ending → Mem → Prop) (m : Mem) : e0 s_0_0 s_0_1 s_0_2 s_0_3 R m = acpt P od (panicR R) (e0A R) (bodyQ P fn R) (argE (#[.agg #[.int .u64 s_0_0, .int .u64 s_0_1, .int .u64 s_0_2, .int .u64 s_0_3]] : Array Value).toList) m := by kernel_rfl
theorem ok (s_0_0 : Int) (s_0_1 : Int) (s_0_2 : Int) (s_0_3 : Int) (R : Ending → Mem → Prop) (m : Mem) (h : e0 s_0_0 s_0_1 s_0_2 s_0_3 R m) : HC P id #[.agg #[.int .u64 s_0_0, .int .u64 s_0_1, .int .u64 s_0_2, .int .u64 s_0_3]] m R := by
  refine HC_of (fn := fn) (c := body) (od := od) (tb := tb) Go.Proofs.Tryd.func40 (by kernel_rfl) (by kernel_rfl) follows (by kernel_rfl) (of_decide_eq_true (by kernel_rfl)) ?_
  have he : (e0A R).erase = body := by kernel_rfl
  rw [← he]
  refine acpt_sound (P := P) (e0A R) _ _ _ ⟨⟨⟨(fun ρ m h => k2_ok  R ρ m h), ⟨⟨True.intro, ⟨⟨True.intro, ⟨(fun ρ m h => k1_ok  R ρ m h), True.intro⟩⟩, True.intro⟩⟩, True.intro⟩⟩, True.intro⟩, True.intro⟩ ?_
  exact Eq.mp (e0_eq s_0_0 s_0_1 s_0_2 s_0_3 R m) h
end class_Show
/-! ### eyot/regex.rank -/
namespace regex_rank
noncomputable def fn : Func := Go.Proofs.Tryd.f41
noncomputable def body : Code := fn.body.getD .skip
def od : Nat → Ord := fun _ => .done
def tb : Nat → Tab := fun _ => (0, [], [])
def e0 (kind_0 : Int) (R : Ending → Mem → Prop) (m : Mem) : Prop :=
 Br (kind_0 == 3) (
  R (.returned (.int .i64 0)) m) (
  Br (kind_0 == 2) (
   R (.returned (.int .i64 1)) m) (
   Br (kind_0 == 1) (
    R (.returned (.int .i64 3)) m) (
    R (.returned (.int .i64 2)) m)))
noncomputable def e0A (R : Ending → Mem → Prop) : ACode := (.code (body))
theorem e0_eq (kind_0 : Int) (R : Ending → Mem → Prop) (m : Mem) : e0 kind_0 R m = acpt P od (panicR R) (e0A R) (bodyQ P fn R) (argE (#[.int .i64 kind_0] : Array Value).toList) m := by kernel_rfl
theorem ok (kind_0 : Int) (R : Ending → Mem → Prop) (m : Mem) (h : e0 kind_0 R m) : HC P id #[.int .i64 kind_0] m R := by
  refine HC_of (fn := fn) (c := body) (od := od) (tb := tb) Go.Proofs.Tryd.func41 (by kernel_rfl) (by kernel_rfl) follows (by kernel_rfl) (of_decide_eq_true (by kernel_rfl)) ?_
  have he : (e0A R).erase = body := by kernel_rfl
  rw [← he]
  refine acpt_sound (P := P) (e0A R) _ _ _ True.intro ?_
  exact Eq.mp (e0_eq kind_0 R m) h
end regex_rank
/-! ### eyot/regex.within -/
namespace regex_within
noncomputable def fn : Func := Go.Proofs.Tryd.f42
noncomputable def body : Code := fn.body.getD .skip
def od : Nat → Ord := fun _ => .done
def tb : Nat → Tab := fun _ => (0, [], [])
def e0 (r_0_0 : Int) (r_0_1 : Int) (r_0_2 : Int) (r_0_3 : Int) (r_0_4 : Int) (r_0_5a : Option Addr) (r_0_5l : Nat) (r_0_5c : Nat) (least_1 : Int) (R : Ending → Mem → Prop) (m : Mem) : Prop :=
 NewC m #[.int .i64 r_0_0, .int .u64 r_0_1, .int .u64 r_0_2, .int .u64 r_0_3, .int .u64 r_0_4, .slice r_0_5a r_0_5l r_0_5c] T_api_Rx fun b_r_2 m1 =>
 LdV m1 b_r_2 0 fun v =>
 UnI v .i64 fun x6 =>
 HC P regex_rank.id #[.int .i64 x6] m1 (Cont (fun v m2 =>
   UnI v .i64 fun x7 =>
   Br (decide (x7 < least_1)) (
    LdV m2 b_r_2 0 fun v =>
    UnI v .i64 fun x10_0 =>
    LdV m2 b_r_2 1 fun v =>
    UnI v .u64 fun x10_1 =>
    LdV m2 b_r_2 2 fun v =>
    UnI v .u64 fun x10_2 =>
    LdV m2 b_r_2 3 fun v =>
    UnI v .u64 fun x10_3 =>
    LdV m2 b_r_2 4 fun v =>
    UnI v .u64 fun x10_4 =>
    LdV m2 b_r_2 5 fun v =>
    UnS v fun x10_5a x10_5l x10_5c =>
    HC P regex_Show.id #[.agg #[.int .i64 x10_0, .int .u64 x10_1, .int .u64 x10_2, .int .u64 x10_3, .int .u64 x10_4, .slice x10_5a x10_5l x10_5c]] m2 (Cont (fun v m3 =>
      UnStr v fun x11 =>
      CatB (ByteArray.mk #[40]) x11 (
       CatB ((ByteArray.mk #[40]) ++ x11) (ByteArray.mk #[41]) (
        R (.returned (.string (((ByteArray.mk #[40]) ++ x11) ++ (ByteArray.mk #[41])))) m3))) (panicR R))) (
    LdV m2 b_r_2 0 fun v =>
    UnI v .i64 fun x14_0 =>
    LdV m2 b_r_2 1 fun v =>
    UnI v .u64 fun x14_1 =>
    LdV m2 b_r_2 2 fun v =>
    UnI v .u64 fun x14_2 =>
    LdV m2 b_r_2 3 fun v =>
    UnI v .u64 fun x14_3 =>
    LdV m2 b_r_2 4 fun v =>
    UnI v .u64 fun x14_4 =>
    LdV m2 b_r_2 5 fun v =>
    UnS v fun x14_5a x14_5l x14_5c =>
    HC P regex_Show.id #[.agg #[.int .i64 x14_0, .int .u64 x14_1, .int .u64 x14_2, .int .u64 x14_3, .int .u64 x14_4, .slice x14_5a x14_5l x14_5c]] m2 (Cont (fun v m3 =>
      UnStr v fun x15 =>
      R (.returned (.string x15)) m3) (panicR R)))) (panicR R))
noncomputable def e0A (R : Ending → Mem → Prop) : ACode := (.code (body))
theorem e0_eq (r_0_0 : Int) (r_0_1 : Int) (r_0_2 : Int) (r_0_3 : Int) (r_0_4 : Int) (r_0_5a : Option Addr) (r_0_5l : Nat) (r_0_5c : Nat) (least_1 : Int) (R : Ending → Mem → Prop) (m : Mem) : e0 r_0_0 r_0_1 r_0_2 r_0_3 r_0_4 r_0_5a r_0_5l r_0_5c least_1 R m = acpt P od (panicR R) (e0A R) (bodyQ P fn R) (argE (#[.agg #[.int .i64 r_0_0, .int .u64 r_0_1, .int .u64 r_0_2, .int .u64 r_0_3, .int .u64 r_0_4, .slice r_0_5a r_0_5l r_0_5c], .int .i64 least_1] : Array Value).toList) m := by kernel_rfl
theorem ok (r_0_0 : Int) (r_0_1 : Int) (r_0_2 : Int) (r_0_3 : Int) (r_0_4 : Int) (r_0_5a : Option Addr) (r_0_5l : Nat) (r_0_5c : Nat) (least_1 : Int) (R : Ending → Mem → Prop) (m : Mem) (h : e0 r_0_0 r_0_1 r_0_2 r_0_3 r_0_4 r_0_5a r_0_5l r_0_5c least_1 R m) : HC P id #[.agg #[.int .i64 r_0_0, .int .u64 r_0_1, .int .u64 r_0_2, .int .u64 r_0_3, .int .u64 r_0_4, .slice r_0_5a r_0_5l r_0_5c], .int .i64 least_1] m R := by
  refine HC_of (fn := fn) (c := body) (od := od) (tb := tb) Go.Proofs.Tryd.func42 (by kernel_rfl) (by kernel_rfl) follows (by kernel_rfl) (of_decide_eq_true (by kernel_rfl)) ?_
  have he : (e0A R).erase = body := by kernel_rfl
  rw [← he]
  refine acpt_sound (P := P) (e0A R) _ _ _ True.intro ?_
  exact Eq.mp (e0_eq r_0_0 r_0_1 r_0_2 r_0_3 r_0_4 r_0_5a r_0_5l r_0_5c least_1 R m) h
end regex_within
/-! ### strings.Join -/
namespace strings_Join
noncomputable def fn : Func := Go.Proofs.Tryd.f43
noncomputable def body : Code := fn.body.getD .skip
def od : Nat → Ord := fun _ => .done
def tb : Nat → Tab := fun _ => (0, [], [])
def l4E (K : ByteArray → Nat → Nat → Option Addr → Nat → Nat → Int → Int → Mem → Prop) : Env → Mem → Prop := fun ρ m => UnStr (ρ 1) fun x1 => UnPA (ρ 8) fun x8b x8o => UnS (ρ 63) fun x63a x63l x63c => UnI (ρ 64) .i64 fun x64 => UnI (ρ 65) .i64 fun x65 => K x1 x8b x8o x63a x63l x63c x64 x65 m
def l4B  (K4 : ByteArray → Nat → Nat → Option Addr → Nat → Nat → Int → Int → Mem → Prop) (x1 : ByteArray) (x8b : Nat) (x8o : Nat) (x63a : Option Addr) (x63l : Nat) (x63c : Nat) (x64 : Int) (x65 : Int) (R : Ending → Mem → Prop) (m : Mem) : Prop :=
 Br (decide (x65 < x64)) (
  IxS x63a x63l x65 1 fun x67b x67o =>
  LdV m x67b x67o fun v =>
  UnStr v fun x68 =>
  HC P strings_Builder_WriteString.id #[.pointer (some ⟨x8b, x8o, none⟩), .string x1] m (Cont (fun v m1 =>
    UnTup v fun us0 =>
    UnCons us0 fun w us1 =>
    UnI w .i64 fun x70_0 =>
    UnCons us1 fun w us2 =>
    UnNil us2 (
     HC P strings_Builder_WriteString.id #[.pointer (some ⟨x8b, x8o, none⟩), .string x68] m1 (Cont (fun v m2 =>
       UnTup v fun us0 =>
       UnCons us0 fun w us1 =>
       UnI w .i64 fun x72_0 =>
       UnCons us1 fun w us2 =>
       UnNil us2 (
        K4 x1 x8b x8o x63a x63l x63c x64 (IntKind.i64.wrap (x65 + 1)) m2)) (panicR R)))) (panicR R))) (
  HC P strings_Builder_String.id #[.pointer (some ⟨x8b, x8o, none⟩)] m (Cont (fun v m1 =>
    UnStr v fun x74 =>
    R (.returned (.string x74)) m1) (panicR R)))
def l4  (x1 : ByteArray) (x8b : Nat) (x8o : Nat) (x63a : Option Addr) (x63l : Nat) (x63c : Nat) (x64 : Int) (x65 : Int) (R : Ending → Mem → Prop) (m : Mem) : Prop :=
  ∃ (I : Nat → ByteArray → Nat → Nat → Option Addr → Nat → Nat → Int → Int → Mem → Prop) (N : Nat), I N x1 x8b x8o x63a x63l x63c x64 x65 m ∧ ∀ N x1 x8b x8o x63a x63l x63c x64 x65 m, I N x1 x8b x8o x63a x63l x63c x64 x65 m → l4B  (fun x1 x8b x8o x63a x63l x63c x64 x65 m => ∃ N1, N1 < N ∧ I N1 x1 x8b x8o x63a x63l x63c x64 x65 m) x1 x8b x8o x63a x63l x63c x64 x65 R m
noncomputable def l4A  (K4 : ByteArray → Nat → Nat → Option Addr → Nat → Nat → Int → Int → Mem → Prop) (R : Ending → Mem → Prop) : ACode := (.code (lP (bB (sR (sL (sR (sR (sR (sR (sR (sR (sR (sR (body))))))))))))))
def k3E (K : Option Addr → Nat → Nat → ByteArray → Int → Mem → Prop) : Env → Mem → Prop := fun ρ m => UnS (ρ 0) fun x0a x0l x0c => UnStr (ρ 1) fun x1 => UnI (ρ 5) .i64 fun x5 => K x0a x0l x0c x1 x5 m
def k3  (x0a : Option Addr) (x0l : Nat) (x0c : Nat) (x1 : ByteArray) (x5 : Int) (R : Ending → Mem → Prop) (m : Mem) : Prop :=
 NewC m #[.pointer none, .slice none 0 0] T_strings_Builder fun b8 m1 =>
 HC P strings_Builder_Grow.id #[.pointer (some ⟨b8, 0, none⟩), .int .i64 x5] m1 (Cont (fun v m2 =>
   UnTup v fun us0 =>
   UnNil us0 (
    IxS x0a x0l 0 1 fun x59b x59o =>
    LdV m2 x59b x59o fun v =>
    UnStr v fun x60 =>
    HC P strings_Builder_WriteString.id #[.pointer (some ⟨b8, 0, none⟩), .string x60] m2 (Cont (fun v m3 =>
      UnTup v fun us0 =>
      UnCons us0 fun w us1 =>
      UnI w .i64 fun x61_0 =>
      UnCons us1 fun w us2 =>
      UnNil us2 (
       SlS x0a x0c 1 x0l 1 fun x63a x63l x63c =>
       l4  x1 b8 0 x63a x63l x63c ((x63l : Nat) : Int) 0 R m3)) (panicR R)))) (panicR R))
noncomputable def k3A  (R : Ending → Mem → Prop) : ACode := (.seq (.code (sL (sR (sR (sR (sR (sR (body)))))))) (.seq (.code (sL (sR (sR (sR (sR (sR (sR (body))))))))) (.seq (.code (sL (sR (sR (sR (sR (sR (sR (sR (body)))))))))) (.seq (.seq (.code (sL (sL (sR (sR (sR (sR (sR (sR (sR (sR (body)))))))))))) (.block 3 (.cut (l4E fun x1 x8b x8o x63a x63l x63c x64 x65 m => l4  x1 x8b x8o x63a x63l x63c x64 x65 R m) (.loop (lP (bB (sR (sL (sR (sR (sR (sR (sR (sR (sR (sR (body))))))))))))))))) (.code (sR (sR (sR (sR (sR (sR (sR (sR (sR (body)))))))))))))))
def l2E (K : Option Addr → Nat → Nat → ByteArray → Int → Option Addr → Nat → Nat → Int → Int → Mem → Prop) : Env → Mem → Prop := fun ρ m => UnS (ρ 0) fun x0a x0l x0c => UnStr (ρ 1) fun x1 => UnI (ρ 5) .i64 fun x5 => UnS (ρ 39) fun x39a x39l x39c => UnI (ρ 40) .i64 fun x40 => UnI (ρ 41) .i64 fun x41 => K x0a x0l x0c x1 x5 x39a x39l x39c x40 x41 m
def l2B  (K2 : Option Addr → Nat → Nat → ByteArray → Int → Option Addr → Nat → Nat → Int → Int → Mem → Prop) (x0a : Option Addr) (x0l : Nat) (x0c : Nat) (x1 : ByteArray) (x5 : Int) (x39a : Option Addr) (x39l : Nat) (x39c : Nat) (x40 : Int) (x41 : Int) (R : Ending → Mem → Prop) (m : Mem) : Prop :=
 Br (decide (x41 < x40)) (
  IxS x39a x39l x41 1 fun x43b x43o =>
  LdV m x43b x43o fun v =>
  UnStr v fun x44 =>
  Br (decide ((x44.size : Int) > (IntKind.i64.wrap (9223372036854775807 - x5)))) (
   R (.panicked [{ v := .iface T_string (.string (ByteArray.mk #[115, 116, 114, 105, 110, 103, 115, 58, 32, 74, 111, 105, 110, 32, 111, 117, 116, 112, 117, 116, 32, 108, 101, 110, 103, 116, 104, 32, 111, 118, 101, 114, 102, 108, 111, 119])), recovered := false }]) m) (
   K2 x0a x0l x0c x1 (IntKind.i64.wrap (x5 + (x44.size : Int))) x39a x39l x39c x40 (IntKind.i64.wrap (x41 + 1)) m)) (
  k3  x0a x0l x0c x1 x5 R m)
def l2  (x0a : Option Addr) (x0l : Nat) (x0c : Nat) (x1 : ByteArray) (x5 : Int) (x39a : Option Addr) (x39l : Nat) (x39c : Nat) (x40 : Int) (x41 : Int) (R : Ending → Mem → Prop) (m : Mem) : Prop :=
  ∃ (I : Nat → Option Addr → Nat → Nat → ByteArray → Int → Option Addr → Nat → Nat → Int → Int → Mem → Prop) (N : Nat), I N x0a x0l x0c x1 x5 x39a x39l x39c x40 x41 m ∧ ∀ N x0a x0l x0c x1 x5 x39a x39l x39c x40 x41 m, I N x0a x0l x0c x1 x5 x39a x39l x39c x40 x41 m → l2B  (fun x0a x0l x0c x1 x5 x39a x39l x39c x40 x41 m => ∃ N1, N1 < N ∧ I N1 x0a x0l x0c x1 x5 x39a x39l x39c x40 x41 m) x0a x0l x0c x1 x5 x39a x39l x39c x40 x41 R m
noncomputable def l2A  (K2 : Option Addr → Nat → Nat → ByteArray → Int → Option Addr → Nat → Nat → Int → Int → Mem → Prop) (R : Ending → Mem → Prop) : ACode := (.code (lP (bB (sR (sL (sR (sR (sR (sR (body))))))))))
def k1E (K : Option Addr → Nat → Nat → ByteArray → Int → Mem → Prop) : Env → Mem → Prop := fun ρ m => UnS (ρ 0) fun x0a x0l x0c => UnStr (ρ 1) fun x1 => UnI (ρ 5) .i64 fun x5 => K x0a x0l x0c x1 x5 m
def k1  (x0a : Option Addr) (x0l : Nat) (x0c : Nat) (x1 : ByteArray) (x5 : Int) (R : Ending → Mem → Prop) (m : Mem) : Prop :=
 l2  x0a x0l x0c x1 x5 x0a x0l x0c ((x0l : Nat) : Int) 0 R m
noncomputable def k1A  (R : Ending → Mem → Prop) : ACode := (.seq (.seq (.code (sL (sL (sR (sR (sR (sR (body)))))))) (.block 1 (.cut (l2E fun x0a x0l x0c x1 x5 x39a x39l x39c x40 x41 m => l2  x0a x0l x0c x1 x5 x39a x39l x39c x40 x41 R m) (.loop (lP (bB (sR (sL (sR (sR (sR (sR (body))))))))))))) (.cut (k3E fun x0a x0l x0c x1 x5 m => k3  x0a x0l x0c x1 x5 R m) (sR (sR (sR (sR (sR (body))))))))
def e0 (a0a : Option Addr) (a0l : Nat) (a0c : Nat) (a1 : ByteArray) (R : Ending → Mem → Prop) (m : Mem) : Prop :=
 Br (((a0l : Nat) : Int) == 0) (
  R (.returned (.string (ByteArray.mk #[]))) m) (
  Br (((a0l : Nat) : Int) == 1) (
   IxS a0a a0l 0 1 fun x18b x18o =>
   LdV m x18b x18o fun v =>
   UnStr v fun x19 =>
   R (.returned (.string x19)) m) (
   Br (decide ((a1.size : Int) > 0)) (
    NzI (IntKind.i64.wrap (((a0l : Nat) : Int) - 1)) (
     Br (decide ((a1.size : Int) ≥ (IntKind.i64.wrap (Int.tdiv 9223372036854775807 (IntKind.i64.wrap (((a0l : Nat) : Int) - 1)))))) (
      R (.panicked [{ v := .iface T_string (.string (ByteArray.mk #[115, 116, 114, 105, 110, 103, 115, 58, 32, 74, 111, 105, 110, 32, 111, 117, 116, 112, 117, 116, 32, 108, 101, 110, 103, 116, 104, 32, 111, 118, 101, 114, 102, 108, 111, 119])), recovered := false }]) m) (
      k1  a0a a0l a0c a1 (IntKind.i64.wrap (0 + (IntKind.i64.wrap ((a1.size : Int) * (IntKind.i64.wrap (((a0l : Nat) : Int) - 1)))))) R m))) (
    k1  a0a a0l a0c a1 0 R m)))
noncomputable def e0A (R : Ending → Mem → Prop) : ACode := (.seq (.code (sL (body))) (.seq (.code (sL (sR (body)))) (.seq (.code (sL (sR (sR (body))))) (.seq (.code (sL (sR (sR (sR (body)))))) (.cut (k1E fun x0a x0l x0c x1 x5 m => k1  x0a x0l x0c x1 x5 R m) (sR (sR (sR (sR (body))))))))))
abbrev k1Q  (R : Ending → Mem → Prop) : Exit → Env → Mem → Prop := (bodyQ P fn R)
abbrev k3Q  (R : Ending → Mem → Prop) : Exit → Env → Mem → Prop := (k1Q  R)
abbrev l2Q  (R : Ending → Mem → Prop) : Exit → Env → Mem → Prop := (blockQ 1 (thenQ (acpt P od (panicR R) (.cut (k3E fun x0a x0l x0c x1 x5 m => k3  x0a x0l x0c x1 x5 R m) (sR (sR (sR (sR (sR (body))))))) (k1Q  R)) (k1Q  R)))
abbrev l4Q  (R : Ending → Mem → Prop) : Exit → Env → Mem → Prop := (blockQ 3 (thenQ (acpt P od (panicR R) (.code (sR (sR (sR (sR (sR (sR (sR (sR (sR (body))))))))))) (k3Q  R)) (k3Q  R)))
theorem l4_eq  (K4 : ByteArray → Nat → Nat → Option Addr → Nat → Nat → Int → Int → Mem → Prop) (R : Ending → Mem → Prop) (x1 : ByteArray) (x8b : Nat) (x8o : Nat) (x63a : Option Addr) (x63l : Nat) (x63c : Nat) (x64 : Int) (x65 : Int) (ρ : Env) (m : Mem) : l4B  K4 x1 x8b x8o x63a x63l x63c x64 x65 R m = acpt P od (panicR R) (l4A  K4 R) (thenQ (l4E K4) (l4Q  R)) (upd (upd (upd (upd (upd ρ 65 (.int .i64 x65)) 64 (.int .i64 x64)) 63 (.slice x63a x63l x63c)) 8 (.pointer (some ⟨x8b, x8o, none⟩))) 1 (.string x1)) m := by kernel_rfl
theorem l4_er  (K4 : ByteArray → Nat → Nat → Option Addr → Nat → Nat → Int → Int → Mem → Prop) (R : Ending → Mem → Prop) : (l4A  K4 R).erase = lP (bB (sR (sL (sR (sR (sR (sR (sR (sR (sR (sR (body)))))))))))) := by kernel_rfl
theorem l4_ok  (R : Ending → Mem → Prop) (ρ : Env) (m : Mem) (h : (l4E fun x1 x8b x8o x63a x63l x63c x64 x65 m => l4  x1 x8b x8o x63a x63l x63c x64 x65 R m) ρ m) : cpt P od (panicR R) (.loop (lP (bB (sR (sL (sR (sR (sR (sR (sR (sR (sR (sR (body)))))))))))))) (l4Q  R) ρ m := by
  unfold l4E at h
  obtain ⟨x1, e1, h⟩ := h.ex
  obtain ⟨x8b, x8o, e8, h⟩ := h.ex
  obtain ⟨x63a, x63l, x63c, e63, h⟩ := h.ex
  obtain ⟨x64, e64, h⟩ := h.ex
  obtain ⟨x65, e65, h⟩ := h.ex
  obtain ⟨I, N, h0, hs⟩ := h
  refine ⟨fun N => l4E (I N), N, (by show l4E (I N) ρ m; unfold l4E; rw [e1, e8, e63, e64, e65]; exact h0), ?_⟩
  clear h0 e1 e8 e63 e64 e65
  intro N ρ m h
  unfold l4E at h
  obtain ⟨x1, e1, h⟩ := h.ex
  obtain ⟨x8b, x8o, e8, h⟩ := h.ex
  obtain ⟨x63a, x63l, x63c, e63, h⟩ := h.ex
  obtain ⟨x64, e64, h⟩ := h.ex
  obtain ⟨x65, e65, h⟩ := h.ex
  refine cpt_mono (P := P) (lP (bB (sR (sL (sR (sR (sR (sR (sR (sR (sR (sR (body))))))))))))) (Q := thenQ (l4E fun x1 x8b x8o x63a x63l x63c x64 x65 m => ∃ N1, N1 < N ∧ I N1 x1 x8b x8o x63a x63l x63c x64 x65 m) (l4Q  R)) (fun e ρ m h => ?_) ρ m ?_
  · cases e with
    | normal =>
      have h : l4E (fun x1 x8b x8o x63a x63l x63c x64 x65 m => ∃ N1, N1 < N ∧ I N1 x1 x8b x8o x63a x63l x63c x64 x65 m) ρ m := h
      unfold l4E at h
      obtain ⟨x1, e1, h⟩ := h.ex
      obtain ⟨x8b, x8o, e8, h⟩ := h.ex
      obtain ⟨x63a, x63l, x63c, e63, h⟩ := h.ex
      obtain ⟨x64, e64, h⟩ := h.ex
      obtain ⟨x65, e65, h⟩ := h.ex
      obtain ⟨N1, hlt, h⟩ := h
      exact ⟨N1, hlt, (by show l4E (I N1) ρ m; unfold l4E; rw [e1, e8, e63, e64, e65]; exact h)⟩
    | _ => exact h
  have hh := hs N x1 x8b x8o x63a x63l x63c x64 x65 m h
  generalize (fun x1 x8b x8o x63a x63l x63c x64 x65 m => ∃ N1, N1 < N ∧ I N1 x1 x8b x8o x63a x63l x63c x64 x65 m : ByteArray → Nat → Nat → Option Addr → Nat → Nat → Int → Int → Mem → Prop) = K4 at hh ⊢
  rw [← upd_self e1, ← upd_self e8, ← upd_self e63, ← upd_self e64, ← upd_self e65]
  rw [← l4_er  K4 R]
  refine acpt_sound (P := P) (l4A  K4 R) _ _ _ True.intro ?_
  exact Eq.mp (l4_eq  K4 R x1 x8b x8o x63a x63l x63c x64 x65 ρ m) hh
theorem k3_eq  (R : Ending → Mem → Prop) (x0a : Option Addr) (x0l : Nat) (x0c : Nat) (x1 : ByteArray) (x5 : Int) (ρ : Env) (m : Mem) : k3  x0a x0l x0c x1 x5 R m = acpt P od (panicR R) (k3A  R) (k3Q  R) (upd (upd (upd ρ 5 (.int .i64 x5)) 1 (.string x1)) 0 (.slice x0a x0l x0c)) m := by kernel_rfl
theorem k3_er  (R : Ending → Mem → Prop) : (k3A  R).erase = sR (sR (sR (sR (sR (body))))) := by kernel_rfl
theorem k3_ok  (R : Ending → Mem → Prop) (ρ : Env) (m : Mem) (h : (k3E fun x0a x0l x0c x1 x5 m => k3  x0a x0l x0c x1 x5 R m) ρ m) : cpt P od (panicR R) (sR (sR (sR (sR (sR (body)))))) (k3Q  R) ρ m := by
  unfold k3E at h
  obtain ⟨x0a, x0l, x0c, e0, h⟩ := h.ex
  obtain ⟨x1, e1, h⟩ := h.ex
  obtain ⟨x5, e5, h⟩ := h.ex
  rw [← upd_self e0, ← upd_self e1, ← upd_self e5]
  rw [← k3_er  R]
  refine acpt_sound (P := P) (k3A  R) _ _ _ ⟨⟨⟨⟨True.intro, ⟨(fun ρ m h => l4_ok  R ρ m h), True.intro⟩⟩, True.intro⟩, True.intro⟩, True.intro⟩ ?_
  exact Eq.mp (k3_eq  R x0a x0l x0c x1 x5 ρ m) h
theorem l2_eq  (K2 : Option Addr → Nat → Nat → ByteArray → Int → Option Addr → Nat → Nat → Int → Int → Mem → Prop) (R : Ending → Mem → Prop) (x0a : Option Addr) (x0l : Nat) (x0c : Nat) (x1 : ByteArray) (x5 : Int) (x39a : Option Addr) (x39l : Nat) (x39c : Nat) (x40 : Int) (x41 : Int) (ρ : Env) (m : Mem) : l2B  K2 x0a x0l x0c x1 x5 x39a x39l x39c x40 x41 R m = acpt P od (panicR R) (l2A  K2 R) (thenQ (l2E K2) (l2Q  R)) (upd (upd (upd (upd (upd (upd ρ 41 (.int .i64 x41)) 40 (.int .i64 x40)) 39 (.slice x39a x39l x39c)) 5 (.int .i64 x5)) 1 (.string x1)) 0 (.slice x0a x0l x0c)) m := by kernel_rfl
theorem l2_er  (K2 : Option Addr → Nat → Nat → ByteArray → Int → Option Addr → Nat → Nat → Int → Int → Mem → Prop) (R : Ending → Mem → Prop) : (l2A  K2 R).erase = lP (bB (sR (sL (sR (sR (sR (sR (body)))))))) := by kernel_rfl
theorem l2_ok  (R : Ending → Mem → Prop) (ρ : Env) (m : Mem) (h : (l2E fun x0a x0l x0c x1 x5 x39a x39l x39c x40 x41 m => l2  x0a x0l x0c x1 x5 x39a x39l x39c x40 x41 R m) ρ m) : cpt P od (panicR R) (.loop (lP (bB (sR (sL (sR (sR (sR (sR (body)))))))))) (l2Q  R) ρ m := by
  unfold l2E at h
  obtain ⟨x0a, x0l, x0c, e0, h⟩ := h.ex
  obtain ⟨x1, e1, h⟩ := h.ex
  obtain ⟨x5, e5, h⟩ := h.ex
  obtain ⟨x39a, x39l, x39c, e39, h⟩ := h.ex
  obtain ⟨x40, e40, h⟩ := h.ex
  obtain ⟨x41, e41, h⟩ := h.ex
  obtain ⟨I, N, h0, hs⟩ := h
  refine ⟨fun N => l2E (I N), N, (by show l2E (I N) ρ m; unfold l2E; rw [e0, e1, e5, e39, e40, e41]; exact h0), ?_⟩
  clear h0 e0 e1 e5 e39 e40 e41
  intro N ρ m h
  unfold l2E at h
  obtain ⟨x0a, x0l, x0c, e0, h⟩ := h.ex
  obtain ⟨x1, e1, h⟩ := h.ex
  obtain ⟨x5, e5, h⟩ := h.ex
  obtain ⟨x39a, x39l, x39c, e39, h⟩ := h.ex
  obtain ⟨x40, e40, h⟩ := h.ex
  obtain ⟨x41, e41, h⟩ := h.ex
  refine cpt_mono (P := P) (lP (bB (sR (sL (sR (sR (sR (sR (body))))))))) (Q := thenQ (l2E fun x0a x0l x0c x1 x5 x39a x39l x39c x40 x41 m => ∃ N1, N1 < N ∧ I N1 x0a x0l x0c x1 x5 x39a x39l x39c x40 x41 m) (l2Q  R)) (fun e ρ m h => ?_) ρ m ?_
  · cases e with
    | normal =>
      have h : l2E (fun x0a x0l x0c x1 x5 x39a x39l x39c x40 x41 m => ∃ N1, N1 < N ∧ I N1 x0a x0l x0c x1 x5 x39a x39l x39c x40 x41 m) ρ m := h
      unfold l2E at h
      obtain ⟨x0a, x0l, x0c, e0, h⟩ := h.ex
      obtain ⟨x1, e1, h⟩ := h.ex
      obtain ⟨x5, e5, h⟩ := h.ex
      obtain ⟨x39a, x39l, x39c, e39, h⟩ := h.ex
      obtain ⟨x40, e40, h⟩ := h.ex
      obtain ⟨x41, e41, h⟩ := h.ex
      obtain ⟨N1, hlt, h⟩ := h
      exact ⟨N1, hlt, (by show l2E (I N1) ρ m; unfold l2E; rw [e0, e1, e5, e39, e40, e41]; exact h)⟩
    | _ => exact h
  have hh := hs N x0a x0l x0c x1 x5 x39a x39l x39c x40 x41 m h
  generalize (fun x0a x0l x0c x1 x5 x39a x39l x39c x40 x41 m => ∃ N1, N1 < N ∧ I N1 x0a x0l x0c x1 x5 x39a x39l x39c x40 x41 m : Option Addr → Nat → Nat → ByteArray → Int → Option Addr → Nat → Nat → Int → Int → Mem → Prop) = K2 at hh ⊢
  rw [← upd_self e0, ← upd_self e1, ← upd_self e5, ← upd_self e39, ← upd_self e40, ← upd_self e41]
  rw [← l2_er  K2 R]
  refine acpt_sound (P := P) (l2A  K2 R) _ _ _ True.intro ?_
  exact Eq.mp (l2_eq  K2 R x0a x0l x0c x1 x5 x39a x39l x39c x40 x41 ρ m) hh
theorem k1_eq  (R : Ending → Mem → Prop) (x0a : Option Addr) (x0l : Nat) (x0c : Nat) (x1 : ByteArray) (x5 : Int) (ρ : Env) (m : Mem) : k1  x0a x0l x0c x1 x5 R m = acpt P od (panicR R) (k1A  R) (k1Q  R) (upd (upd (upd ρ 5 (.int .i64 x5)) 1 (.string x1)) 0 (.slice x0a x0l x0c)) m := by kernel_rfl
theorem k1_er  (R : Ending → Mem → Prop) : (k1A  R).erase = sR (sR (sR (sR (body)))) := by kernel_rfl
theorem k1_ok  (R : Ending → Mem → Prop) (ρ : Env) (m : Mem) (h : (k1E fun x0a x0l x0c x1 x5 m => k1  x0a x0l x0c x1 x5 R m) ρ m) : cpt P od (panicR R) (sR (sR (sR (sR (body))))) (k1Q  R) ρ m := by
  unfold k1E at h
  obtain ⟨x0a, x0l, x0c, e0, h⟩ := h.ex
  obtain ⟨x1, e1, h⟩ := h.ex
  obtain ⟨x5, e5, h⟩ := h.ex
  rw [← upd_self e0, ← upd_self e1, ← upd_self e5]
  rw [← k1_er  R]
  refine acpt_sound (P := P) (k1A  R) _ _ _ ⟨(fun ρ m h => k3_ok  R ρ m h), ⟨(fun ρ m h => l2_ok  R ρ m h), True.intro⟩⟩ ?_
  exact Eq.mp (k1_eq  R x0a x0l x0c x1 x5 ρ m) h
theorem e0_eq (a0a : Option Addr) (a0l : Nat) (a0c : Nat) (a1 : ByteArray) (R : Ending → Mem → Prop) (m : Mem) : e0 a0a a0l a0c a1 R m = acpt P od (panicR R) (e0A R) (bodyQ P fn R) (argE (#[.slice a0a a0l a0c, .string a1] : Array Value).toList) m := by kernel_rfl
theorem ok (a0a : Option Addr) (a0l : Nat) (a0c : Nat) (a1 : ByteArray) (R : Ending → Mem → Prop) (m : Mem) (h : e0 a0a a0l a0c a1 R m) : HC P id #[.slice a0a a0l a0c, .string a1] m R := by
  refine HC_of (fn := fn) (c := body) (od := od) (tb := tb) Go.Proofs.Tryd.func43 (by kernel_rfl) (by kernel_rfl) follows (by kernel_rfl) (of_decide_eq_true (by kernel_rfl)) ?_
  have he : (e0A R).erase = body := by kernel_rfl
  rw [← he]
  refine acpt_sound (P := P) (e0A R) _ _ _ ⟨⟨⟨⟨(fun ρ m h => k1_ok  R ρ m h), True.intro⟩, True.intro⟩, True.intro⟩, True.intro⟩ ?_
  exact Eq.mp (e0_eq a0a a0l a0c a1 R m) h
end strings_Join
/-! ### eyot/regex.sign -/
namespace regex_sign
noncomputable def fn : Func := Go.Proofs.Tryd.f44
noncomputable def body : Code := fn.body.getD .skip
def od : Nat → Ord := fun _ => .done
def tb : Nat → Tab := fun _ => (0, [], [])
def e0 (kind_0 : Int) (R : Ending → Mem → Prop) (m : Mem) : Prop :=
 Br (decide (kind_0 ≥ 4)) (
  R (.returned (.bool (decide (kind_0 ≤ 6)))) m) (
  R (.returned (.bool false)) m)
noncomputable def e0A (R : Ending → Mem → Prop) : ACode := (.code (body))
theorem e0_eq (kind_0 : Int) (R : Ending → Mem → Prop) (m : Mem) : e0 kind_0 R m = acpt P od (panicR R) (e0A R) (bodyQ P fn R) (argE (#[.int .i64 kind_0] : Array Value).toList) m := by kernel_rfl
theorem ok (kind_0 : Int) (R : Ending → Mem → Prop) (m : Mem) (h : e0 kind_0 R m) : HC P id #[.int .i64 kind_0] m R := by
  refine HC_of (fn := fn) (c := body) (od := od) (tb := tb) Go.Proofs.Tryd.func44 (by kernel_rfl) (by kernel_rfl) follows (by kernel_rfl) (of_decide_eq_true (by kernel_rfl)) ?_
  have he : (e0A R).erase = body := by kernel_rfl
  rw [← he]
  refine acpt_sound (P := P) (e0A R) _ _ _ True.intro ?_
  exact Eq.mp (e0_eq kind_0 R m) h
end regex_sign
/-! ### eyot/eyotref8.ShowClass -/
namespace eyotref8_ShowClass
noncomputable def fn : Func := Go.Proofs.Tryd.f45
noncomputable def body : Code := fn.body.getD .skip
def od : Nat → Ord := fun | 13 => ordL [(0, 3), (1, 3), (2, 3), (3, 3), (4, 3), (5, 3), (6, 3), (7, 3), (8, 3), (9, 3), (10, 1), (11, 3), (12, 3), (13, 3), (14, 0), (15, 3), (16, 3), (17, 3)] .done | _ => .done
def tb : Nat → Tab := fun | 13 => (0, [0, 1, 0, 4, 15, 31, 63, 63, 191, 511, 1023, 63, 63, 6207, 14399, 30783, 65535, 131071], [(0, 64, 27), (1, 67108864, 28), (0, 8, 29), (4, 268435456, 30), (10, 671088640, 31), (16, 1073741824, 32), (32, 2147483656, 33), (32, 2147483712, 34), (160, 10737418240, 35), (352, 23622320128, 36), (544, 36507222016, 37), (32, 2147483656, 38), (32, 2147483712, 39), (6176, 414464344064, 40), (8224, 551903297536, 41), (16416, 1101659111424, 42), (33824, 2269890215936, 43), (65568, 4400193994752, 44)]) | _ => (0, [], [])
def k4E (K : Option Addr → Nat → Nat → ByteArray → Int → Int → Mem → Prop) : Env → Mem → Prop := fun ρ m => UnS (ρ 3) fun x3a x3l x3c => UnStr (ρ 4) fun x4 => UnI (ρ 5) .i64 fun x5 => UnI (ρ 6) .i64 fun x6 => K x3a x3l x3c x4 x5 x6 m
def k4 (K1 : Option Addr → Nat → Nat → ByteArray → Int → Mem → Prop) (x3a : Option Addr) (x3l : Nat) (x3c : Nat) (x4 : ByteArray) (x5 : Int) (x6 : Int) (R : Ending → Mem → Prop) (m : Mem) : Prop :=
 Br (decide (x6 > x5)) (
  IxS x3a x3l x6 1 fun x65b x65o =>
  LdV m x65b x65o fun v =>
  UnI v .u8 fun x66 =>
  HC P eyotref8_shown.id #[.int .u8 x66] m (Cont (fun v m1 =>
    UnStr v fun x67 =>
    CatB x4 x67 (
     K1 x3a x3l x3c (x4 ++ x67) (IntKind.i64.wrap (x6 + 1)) m1)) (panicR R))) (
  K1 x3a x3l x3c x4 (IntKind.i64.wrap (x6 + 1)) m)
noncomputable def k4A (K1 : Option Addr → Nat → Nat → ByteArray → Int → Mem → Prop) (R : Ending → Mem → Prop) : ACode := (.code (sR (sR (sR (sR (bB (sR (lP (bB (sR (sL (sR (sR (sR (sR (body))))))))))))))))
def k3E (K : Option Addr → Nat → Nat → ByteArray → Int → Int → Mem → Prop) : Env → Mem → Prop := fun ρ m => UnS (ρ 3) fun x3a x3l x3c => UnStr (ρ 4) fun x4 => UnI (ρ 5) .i64 fun x5 => UnI (ρ 6) .i64 fun x6 => K x3a x3l x3c x4 x5 x6 m
def k3 (K1 : Option Addr → Nat → Nat → ByteArray → Int → Mem → Prop) (x3a : Option Addr) (x3l : Nat) (x3c : Nat) (x4 : ByteArray) (x5 : Int) (x6 : Int) (R : Ending → Mem → Prop) (m : Mem) : Prop :=
 IxS x3a x3l x5 1 fun x49b x49o =>
 LdV m x49b x49o fun v =>
 UnI v .u8 fun x50 =>
 HC P eyotref8_shown.id #[.int .u8 x50] m (Cont (fun v m1 =>
   UnStr v fun x51 =>
   CatB x4 x51 (
    Br (decide (x6 > (IntKind.i64.wrap (x5 + 1)))) (
     CatB (x4 ++ x51) (ByteArray.mk #[45]) (
      k4 K1 x3a x3l x3c ((x4 ++ x51) ++ (ByteArray.mk #[45])) x5 x6 R m1)) (
     k4 K1 x3a x3l x3c (x4 ++ x51) x5 x6 R m1))) (panicR R))
noncomputable def k3A (K1 : Option Addr → Nat → Nat → ByteArray → Int → Mem → Prop) (R : Ending → Mem → Prop) : ACode := (.seq (.code (sL (sR (sR (bB (sR (lP (bB (sR (sL (sR (sR (sR (sR (body))))))))))))))) (.seq (.code (sL (sR (sR (sR (bB (sR (lP (bB (sR (sL (sR (sR (sR (sR (body)))))))))))))))) (.cut (k4E fun x3a x3l x3c x4 x5 x6 m => k4 K1 x3a x3l x3c x4 x5 x6 R m) (sR (sR (sR (sR (bB (sR (lP (bB (sR (sL (sR (sR (sR (sR (body))))))))))))))))))
def l2E (K : Option Addr → Nat → Nat → ByteArray → Int → Int → Mem → Prop) : Env → Mem → Prop := fun ρ m => UnS (ρ 3) fun x3a x3l x3c => UnStr (ρ 4) fun x4 => UnI (ρ 5) .i64 fun x5 => UnI (ρ 6) .i64 fun x6 => K x3a x3l x3c x4 x5 x6 m
def l2B (K1 : Option Addr → Nat → Nat → ByteArray → Int → Mem → Prop) (K2 : Option Addr → Nat → Nat → ByteArray → Int → Int → Mem → Prop) (x3a : Option Addr) (x3l : Nat) (x3c : Nat) (x4 : ByteArray) (x5 : Int) (x6 : Int) (R : Ending → Mem → Prop) (m : Mem) : Prop :=
 Sub m fun r1 =>
 Br (decide ((IntKind.i64.wrap (x6 + 1)) < ((x3l : Nat) : Int))) (
  IxS x3a x3l (IntKind.i64.wrap (x6 + 1)) 1 fun x35b x35o =>
  LdV r1 x35b x35o fun v =>
  UnI v .u8 fun x36 =>
  IxS x3a x3l x6 1 fun x39b x39o =>
  LdV m x39b x39o fun v =>
  UnI v .u8 fun x40 =>
  Br (x36 == (IntKind.u8.wrap (x40 + 1))) (
   K2 x3a x3l x3c x4 x5 (IntKind.i64.wrap (x6 + 1)) m) (
   k3 K1 x3a x3l x3c x4 x5 x6 R m)) (
  k3 K1 x3a x3l x3c x4 x5 x6 R m)
def l2 (K1 : Option Addr → Nat → Nat → ByteArray → Int → Mem → Prop) (x3a : Option Addr) (x3l : Nat) (x3c : Nat) (x4 : ByteArray) (x5 : Int) (x6 : Int) (R : Ending → Mem → Prop) (m : Mem) : Prop :=
  ∃ (I : Nat → Option Addr → Nat → Nat → ByteArray → Int → Int → Mem → Prop) (N : Nat), I N x3a x3l x3c x4 x5 x6 m ∧ ∀ N x3a x3l x3c x4 x5 x6 m, I N x3a x3l x3c x4 x5 x6 m → l2B K1 (fun x3a x3l x3c x4 x5 x6 m => ∃ N1, N1 < N ∧ I N1 x3a x3l x3c x4 x5 x6 m) x3a x3l x3c x4 x5 x6 R m
noncomputable def l2A (K1 : Option Addr → Nat → Nat → ByteArray → Int → Mem → Prop) (K2 : Option Addr → Nat → Nat → ByteArray → Int → Int → Mem → Prop) (R : Ending → Mem → Prop) : ACode := (.code (lP (bB (sL (sR (bB (sR (lP (bB (sR (sL (sR (sR (sR (sR (body))))))))))))))))
def l1E (K : Option Addr → Nat → Nat → ByteArray → Int → Mem → Prop) : Env → Mem → Prop := fun ρ m => UnS (ρ 3) fun x3a x3l x3c => UnStr (ρ 4) fun x4 => UnI (ρ 5) .i64 fun x5 => K x3a x3l x3c x4 x5 m
def l1B  (K1 : Option Addr → Nat → Nat → ByteArray → Int → Mem → Prop) (x3a : Option Addr) (x3l : Nat) (x3c : Nat) (x4 : ByteArray) (x5 : Int) (R : Ending → Mem → Prop) (m : Mem) : Prop :=
 Br (decide (x5 < ((x3l : Nat) : Int))) (
  l2 K1 x3a x3l x3c x4 x5 x5 R m) (
  CatB x4 (ByteArray.mk #[93]) (
   R (.returned (.string (x4 ++ (ByteArray.mk #[93])))) m))
def l1  (x3a : Option Addr) (x3l : Nat) (x3c : Nat) (x4 : ByteArray) (x5 : Int) (R : Ending → Mem → Prop) (m : Mem) : Prop :=
  ∃ (I : Nat → Option Addr → Nat → Nat → ByteArray → Int → Mem → Prop) (N : Nat), I N x3a x3l x3c x4 x5 m ∧ ∀ N x3a x3l x3c x4 x5 m, I N x3a x3l x3c x4 x5 m → l1B  (fun x3a x3l x3c x4 x5 m => ∃ N1, N1 < N ∧ I N1 x3a x3l x3c x4 x5 m) x3a x3l x3c x4 x5 R m
noncomputable def l1A  (K1 : Option Addr → Nat → Nat → ByteArray → Int → Mem → Prop) (R : Ending → Mem → Prop) : ACode := (.seq (.code (sL (lP (bB (sR (sL (sR (sR (sR (sR (body))))))))))) (.block 2 (.seq (.code (sL (bB (sR (lP (bB (sR (sL (sR (sR (sR (sR (body))))))))))))) (.seq (.block 3 (.cut (l2E fun x3a x3l x3c x4 x5 x6 m => l2 K1 x3a x3l x3c x4 x5 x6 R m) (.loop (lP (bB (sL (sR (bB (sR (lP (bB (sR (sL (sR (sR (sR (sR (body)))))))))))))))))) (.cut (k3E fun x3a x3l x3c x4 x5 x6 m => k3 K1 x3a x3l x3c x4 x5 x6 R m) (sR (sR (bB (sR (lP (bB (sR (sL (sR (sR (sR (sR (body))))))))))))))))))
def e0 (a0_0 : Int) (a0_1 : Int) (a0_2 : Int) (a0_3 : Int) (R : Ending → Mem → Prop) (m : Mem) : Prop :=
 NewC m #[.int .u64 a0_0, .int .u64 a0_1, .int .u64 a0_2, .int .u64 a0_3] T_api_Set fun b1 m1 =>
 LdV m1 b1 0 fun v =>
 UnI v .u64 fun x7_0 =>
 LdV m1 b1 1 fun v =>
 UnI v .u64 fun x7_1 =>
 LdV m1 b1 2 fun v =>
 UnI v .u64 fun x7_2 =>
 LdV m1 b1 3 fun v =>
 UnI v .u64 fun x7_3 =>
 HC P eyotref8_list.id #[.agg #[.int .u64 x7_0, .int .u64 x7_1, .int .u64 x7_2, .int .u64 x7_3]] m1 (Cont (fun v m2 =>
   UnS v fun x8a x8l x8c =>
   Br (((x8l : Nat) : Int) == 0) (
    R (.returned (.string (ByteArray.mk #[]))) m2) (
    Br (((x8l : Nat) : Int) == 1) (
     IxS x8a x8l 0 1 fun x16b x16o =>
     LdV m2 x16b x16o fun v =>
     UnI v .u8 fun x17 =>
     HC P eyotref8_shown.id #[.int .u8 x17] m2 (Cont (fun v m3 =>
       UnStr v fun x18 =>
       R (.returned (.string x18)) m3) (panicR R))) (
     Br (((x8l : Nat) : Int) == 256) (
      R (.returned (.string (ByteArray.mk #[46]))) m2) (
      l1  x8a x8l x8c (ByteArray.mk #[91]) 0 R m2)))) (panicR R))
noncomputable def e0A (R : Ending → Mem → Prop) : ACode := (.seq (.code (sL (body))) (.seq (.code (sL (sR (body)))) (.seq (.code (sL (sR (sR (body))))) (.seq (.code (sL (sR (sR (sR (body)))))) (.seq (.seq (.code (sL (sL (sR (sR (sR (sR (body)))))))) (.block 1 (.cut (l1E fun x3a x3l x3c x4 x5 m => l1  x3a x3l x3c x4 x5 R m) (.loop (lP (bB (sR (sL (sR (sR (sR (sR (body))))))))))))) (.code (sR (sR (sR (sR (sR (body))))))))))))
abbrev l1Q  (R : Ending → Mem → Prop) : Exit → Env → Mem → Prop := (blockQ 1 (thenQ (acpt P od (panicR R) (.code (sR (sR (sR (sR (sR (body))))))) (bodyQ P fn R)) (bodyQ P fn R)))
abbrev k3Q (K1 : Option Addr → Nat → Nat → ByteArray → Int → Mem → Prop) (R : Ending → Mem → Prop) : Exit → Env → Mem → Prop := (blockQ 2 (thenQ (l1E K1) (l1Q  R)))
abbrev l2Q (K1 : Option Addr → Nat → Nat → ByteArray → Int → Mem → Prop) (R : Ending → Mem → Prop) : Exit → Env → Mem → Prop := (blockQ 3 (thenQ (acpt P od (panicR R) (.cut (k3E fun x3a x3l x3c x4 x5 x6 m => k3 K1 x3a x3l x3c x4 x5 x6 R m) (sR (sR (bB (sR (lP (bB (sR (sL (sR (sR (sR (sR (body)))))))))))))) (blockQ 2 (thenQ (l1E K1) (l1Q  R)))) (blockQ 2 (thenQ (l1E K1) (l1Q  R)))))
abbrev k4Q (K1 : Option Addr → Nat → Nat → ByteArray → Int → Mem → Prop) (R : Ending → Mem → Prop) : Exit → Env → Mem → Prop := (k3Q K1 R)
theorem k4_eq (K1 : Option Addr → Nat → Nat → ByteArray → Int → Mem → Prop) (R : Ending → Mem → Prop) (x3a : Option Addr) (x3l : Nat) (x3c : Nat) (x4 : ByteArray) (x5 : Int) (x6 : Int) (ρ : Env) (m : Mem) : k4 K1 x3a x3l x3c x4 x5 x6 R m = acpt P od (panicR R) (k4A K1 R) (k4Q K1 R) (upd (upd (upd (upd ρ 6 (.int .i64 x6)) 5 (.int .i64 x5)) 4 (.string x4)) 3 (.slice x3a x3l x3c)) m := by kernel_rfl
theorem k4_er (K1 : Option Addr → Nat → Nat → ByteArray → Int → Mem → Prop) (R : Ending → Mem → Prop) : (k4A K1 R).erase = sR (sR (sR (sR (bB (sR (lP (bB (sR (sL (sR (sR (sR (sR (body)))))))))))))) := by kernel_rfl
theorem k4_ok (K1 : Option Addr → Nat → Nat → ByteArray → Int → Mem → Prop) (R : Ending → Mem → Prop) (ρ : Env) (m : Mem) (h : (k4E fun x3a x3l x3c x4 x5 x6 m => k4 K1 x3a x3l x3c x4 x5 x6 R m) ρ m) : cpt P od (panicR R) (sR (sR (sR (sR (bB (sR (lP (bB (sR (sL (sR (sR (sR (sR (body))))))))))))))) (k4Q K1 R) ρ m := by
  unfold k4E at h
  obtain ⟨x3a, x3l, x3c, e3, h⟩ := h.ex
  obtain ⟨x4, e4, h⟩ := h.ex
  obtain ⟨x5, e5, h⟩ := h.ex
  obtain ⟨x6, e6, h⟩ := h.ex
  rw [← upd_self e3, ← upd_self e4, ← upd_self e5, ← upd_self e6]
  rw [← k4_er K1 R]
  refine acpt_sound (P := P) (k4A K1 R) _ _ _ True.intro ?_
  exact Eq.mp (k4_eq K1 R x3a x3l x3c x4 x5 x6 ρ m) h
theorem k3_eq (K1 : Option Addr → Nat → Nat → ByteArray → Int → Mem → Prop) (R : Ending → Mem → Prop) (x3a : Option Addr) (x3l : Nat) (x3c : Nat) (x4 : ByteArray) (x5 : Int) (x6 : Int) (ρ : Env) (m : Mem) : k3 K1 x3a x3l x3c x4 x5 x6 R m = acpt P od (panicR R) (k3A K1 R) (k3Q K1 R) (upd (upd (upd (upd ρ 6 (.int .i64 x6)) 5 (.int .i64 x5)) 4 (.string x4)) 3 (.slice x3a x3l x3c)) m := by kernel_rfl
theorem k3_er (K1 : Option Addr → Nat → Nat → ByteArray → Int → Mem → Prop) (R : Ending → Mem → Prop) : (k3A K1 R).erase = sR (sR (bB (sR (lP (bB (sR (sL (sR (sR (sR (sR (body)))))))))))) := by kernel_rfl
theorem k3_ok (K1 : Option Addr → Nat → Nat → ByteArray → Int → Mem → Prop) (R : Ending → Mem → Prop) (ρ : Env) (m : Mem) (h : (k3E fun x3a x3l x3c x4 x5 x6 m => k3 K1 x3a x3l x3c x4 x5 x6 R m) ρ m) : cpt P od (panicR R) (sR (sR (bB (sR (lP (bB (sR (sL (sR (sR (sR (sR (body))))))))))))) (k3Q K1 R) ρ m := by
  unfold k3E at h
  obtain ⟨x3a, x3l, x3c, e3, h⟩ := h.ex
  obtain ⟨x4, e4, h⟩ := h.ex
  obtain ⟨x5, e5, h⟩ := h.ex
  obtain ⟨x6, e6, h⟩ := h.ex
  rw [← upd_self e3, ← upd_self e4, ← upd_self e5, ← upd_self e6]
  rw [← k3_er K1 R]
  refine acpt_sound (P := P) (k3A K1 R) _ _ _ ⟨⟨(fun ρ m h => k4_ok K1 R ρ m h), True.intro⟩, True.intro⟩ ?_
  exact Eq.mp (k3_eq K1 R x3a x3l x3c x4 x5 x6 ρ m) h
theorem l2_eq (K1 : Option Addr → Nat → Nat → ByteArray → Int → Mem → Prop) (K2 : Option Addr → Nat → Nat → ByteArray → Int → Int → Mem → Prop) (R : Ending → Mem → Prop) (x3a : Option Addr) (x3l : Nat) (x3c : Nat) (x4 : ByteArray) (x5 : Int) (x6 : Int) (ρ : Env) (m : Mem) : l2B K1 K2 x3a x3l x3c x4 x5 x6 R m = acpt P od (panicR R) (l2A K1 K2 R) (thenQ (l2E K2) (l2Q K1 R)) (upd (upd (upd (upd ρ 6 (.int .i64 x6)) 5 (.int .i64 x5)) 4 (.string x4)) 3 (.slice x3a x3l x3c)) m := by kernel_rfl
theorem l2_er (K1 : Option Addr → Nat → Nat → ByteArray → Int → Mem → Prop) (K2 : Option Addr → Nat → Nat → ByteArray → Int → Int → Mem → Prop) (R : Ending → Mem → Prop) : (l2A K1 K2 R).erase = lP (bB (sL (sR (bB (sR (lP (bB (sR (sL (sR (sR (sR (sR (body)))))))))))))) := by kernel_rfl
theorem l2_ok (K1 : Option Addr → Nat → Nat → ByteArray → Int → Mem → Prop) (R : Ending → Mem → Prop) (ρ : Env) (m : Mem) (h : (l2E fun x3a x3l x3c x4 x5 x6 m => l2 K1 x3a x3l x3c x4 x5 x6 R m) ρ m) : cpt P od (panicR R) (.loop (lP (bB (sL (sR (bB (sR (lP (bB (sR (sL (sR (sR (sR (sR (body)))))))))))))))) (l2Q K1 R) ρ m := by
  unfold l2E at h
  obtain ⟨x3a, x3l, x3c, e3, h⟩ := h.ex
  obtain ⟨x4, e4, h⟩ := h.ex
  obtain ⟨x5, e5, h⟩ := h.ex
  obtain ⟨x6, e6, h⟩ := h.ex
  obtain ⟨I, N, h0, hs⟩ := h
  refine ⟨fun N => l2E (I N), N, (by show l2E (I N) ρ m; unfold l2E; rw [e3, e4, e5, e6]; exact h0), ?_⟩
  clear h0 e3 e4 e5 e6
  intro N ρ m h
  unfold l2E at h
  obtain ⟨x3a, x3l, x3c, e3, h⟩ := h.ex
  obtain ⟨x4, e4, h⟩ := h.ex
  obtain ⟨x5, e5, h⟩ := h.ex
  obtain ⟨x6, e6, h⟩ := h.ex
  refine cpt_mono (P := P) (lP (bB (sL (sR (bB (sR (lP (bB (sR (sL (sR (sR (sR (sR (body))))))))))))))) (Q := thenQ (l2E fun x3a x3l x3c x4 x5 x6 m => ∃ N1, N1 < N ∧ I N1 x3a x3l x3c x4 x5 x6 m) (l2Q K1 R)) (fun e ρ m h => ?_) ρ m ?_
  · cases e with
    | normal =>
      have h : l2E (fun x3a x3l x3c x4 x5 x6 m => ∃ N1, N1 < N ∧ I N1 x3a x3l x3c x4 x5 x6 m) ρ m := h
      unfold l2E at h
      obtain ⟨x3a, x3l, x3c, e3, h⟩ := h.ex
      obtain ⟨x4, e4, h⟩ := h.ex
      obtain ⟨x5, e5, h⟩ := h.ex
      obtain ⟨x6, e6, h⟩ := h.ex
      obtain ⟨N1, hlt, h⟩ := h
      exact ⟨N1, hlt, (by show l2E (I N1) ρ m; unfold l2E; rw [e3, e4, e5, e6]; exact h)⟩
    | _ => exact h
  have hh := hs N x3a x3l x3c x4 x5 x6 m h
  generalize (fun x3a x3l x3c x4 x5 x6 m => ∃ N1, N1 < N ∧ I N1 x3a x3l x3c x4 x5 x6 m : Option Addr → Nat → Nat → ByteArray → Int → Int → Mem → Prop) = K2 at hh ⊢
  rw [← upd_self e3, ← upd_self e4, ← upd_self e5, ← upd_self e6]
  rw [← l2_er K1 K2 R]
  refine acpt_sound (P := P) (l2A K1 K2 R) _ _ _ True.intro ?_
  exact Eq.mp (l2_eq K1 K2 R x3a x3l x3c x4 x5 x6 ρ m) hh
theorem l1_eq  (K1 : Option Addr → Nat → Nat → ByteArray → Int → Mem → Prop) (R : Ending → Mem → Prop) (x3a : Option Addr) (x3l : Nat) (x3c : Nat) (x4 : ByteArray) (x5 : Int) (ρ : Env) (m : Mem) : l1B  K1 x3a x3l x3c x4 x5 R m = acpt P od (panicR R) (l1A  K1 R) (thenQ (l1E K1) (l1Q  R)) (upd (upd (upd ρ 5 (.int .i64 x5)) 4 (.string x4)) 3 (.slice x3a x3l x3c)) m := by kernel_rfl
theorem l1_er  (K1 : Option Addr → Nat → Nat → ByteArray → Int → Mem → Prop) (R : Ending → Mem → Prop) : (l1A  K1 R).erase = lP (bB (sR (sL (sR (sR (sR (sR (body)))))))) := by kernel_rfl
theorem l1_ok  (R : Ending → Mem → Prop) (ρ : Env) (m : Mem) (h : (l1E fun x3a x3l x3c x4 x5 m => l1  x3a x3l x3c x4 x5 R m) ρ m) : cpt P od (panicR R) (.loop (lP (bB (sR (sL (sR (sR (sR (sR (body)))))))))) (l1Q  R) ρ m := by
  unfold l1E at h
  obtain ⟨x3a, x3l, x3c, e3, h⟩ := h.ex
  obtain ⟨x4, e4, h⟩ := h.ex
  obtain ⟨x5, e5, h⟩ := h.ex
  obtain ⟨I, N, h0, hs⟩ := h
  refine ⟨fun N => l1E (I N), N, (by show l1E (I N) ρ m; unfold l1E; rw [e3, e4, e5]; exact h0), ?_⟩
  clear h0 e3 e4 e5
  intro N ρ m h
  unfold l1E at h
  obtain ⟨x3a, x3l, x3c, e3, h⟩ := h.ex
  obtain ⟨x4, e4, h⟩ := h.ex
  obtain ⟨x5, e5, h⟩ := h.ex
  refine cpt_mono (P := P) (lP (bB (sR (sL (sR (sR (sR (sR (body))))))))) (Q := thenQ (l1E fun x3a x3l x3c x4 x5 m => ∃ N1, N1 < N ∧ I N1 x3a x3l x3c x4 x5 m) (l1Q  R)) (fun e ρ m h => ?_) ρ m ?_
  · cases e with
    | normal =>
      have h : l1E (fun x3a x3l x3c x4 x5 m => ∃ N1, N1 < N ∧ I N1 x3a x3l x3c x4 x5 m) ρ m := h
      unfold l1E at h
      obtain ⟨x3a, x3l, x3c, e3, h⟩ := h.ex
      obtain ⟨x4, e4, h⟩ := h.ex
      obtain ⟨x5, e5, h⟩ := h.ex
      obtain ⟨N1, hlt, h⟩ := h
      exact ⟨N1, hlt, (by show l1E (I N1) ρ m; unfold l1E; rw [e3, e4, e5]; exact h)⟩
    | _ => exact h
  have hh := hs N x3a x3l x3c x4 x5 m h
  generalize (fun x3a x3l x3c x4 x5 m => ∃ N1, N1 < N ∧ I N1 x3a x3l x3c x4 x5 m : Option Addr → Nat → Nat → ByteArray → Int → Mem → Prop) = K1 at hh ⊢
  rw [← upd_self e3, ← upd_self e4, ← upd_self e5]
  rw [← l1_er  K1 R]
  refine acpt_sound (P := P) (l1A  K1 R) _ _ _ ⟨⟨⟨(fun ρ m h => k3_ok K1 R ρ m h), (fun ρ m h => l2_ok K1 R ρ m h)⟩, True.intro⟩, True.intro⟩ ?_
  exact Eq.mp (l1_eq  K1 R x3a x3l x3c x4 x5 ρ m) hh
theorem e0_eq (a0_0 : Int) (a0_1 : Int) (a0_2 : Int) (a0_3 : Int) (R : Ending → Mem → Prop) (m : Mem) : e0 a0_0 a0_1 a0_2 a0_3 R m = acpt P od (panicR R) (e0A R) (bodyQ P fn R) (argE (#[.agg #[.int .u64 a0_0, .int .u64 a0_1, .int .u64 a0_2, .int .u64 a0_3]] : Array Value).toList) m := by kernel_rfl
theorem ok (a0_0 : Int) (a0_1 : Int) (a0_2 : Int) (a0_3 : Int) (R : Ending → Mem → Prop) (m : Mem) (h : e0 a0_0 a0_1 a0_2 a0_3 R m) : HC P id #[.agg #[.int .u64 a0_0, .int .u64 a0_1, .int .u64 a0_2, .int .u64 a0_3]] m R := by
  refine HC_of (fn := fn) (c := body) (od := od) (tb := tb) Go.Proofs.Tryd.func45 (by kernel_rfl) (by kernel_rfl) follows (by kernel_rfl) (of_decide_eq_true (by kernel_rfl)) ?_
  have he : (e0A R).erase = body := by kernel_rfl
  rw [← he]
  refine acpt_sound (P := P) (e0A R) _ _ _ ⟨⟨⟨⟨⟨True.intro, ⟨(fun ρ m h => l1_ok  R ρ m h), True.intro⟩⟩, True.intro⟩, True.intro⟩, True.intro⟩, True.intro⟩ ?_
  exact Eq.mp (e0_eq a0_0 a0_1 a0_2 a0_3 R m) h
end eyotref8_ShowClass
end
end Go.E
