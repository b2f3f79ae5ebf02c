/- Printed by this project's own gen.py: more shallow forms. -/
import Derived.Test.YtgjeockdppkflaaG6
set_option linter.unusedVariables false
set_option maxRecDepth 100000
namespace Go.E
open Go.H
noncomputable section
/-! ### eyot/eyotlaw0.Spoil -/
namespace eyotlaw0_Spoil
noncomputable def fn : Func := Go.Proofs.Try.f22
noncomputable def body : Code := fn.body.getD .skip
def od : Nat → Ord := fun _ => .done
def tb : Nat → Tab := fun _ => (0, [], [])
def l1E (K : Option Addr → Nat → Nat → Int → Mem → Prop) : Env → Mem → Prop := fun ρ m => UnS (ρ 2) fun y_2a y_2l y_2c => UnI (ρ 3) .i64 fun i_3 => K y_2a y_2l y_2c i_3 m
def l1B  (K1 : Option Addr → Nat → Nat → Int → Mem → Prop) (y_2a : Option Addr) (y_2l : Nat) (y_2c : Nat) (i_3 : Int) (R : Ending → Mem → Prop) (m : Mem) : Prop :=
  Br (decide (i_3 < ((y_2l : Nat) : Int))) (
    IxS y_2a y_2l i_3 1 fun x16b x16o =>
    St1 m x16b x16o (.int .u8 90) fun m1 =>
    K1 y_2a y_2l y_2c (IntKind.i64.wrap (i_3 + 1)) m1) (
    R (.returned (.tuple #[])) m)
def l1  (y_2a : Option Addr) (y_2l : Nat) (y_2c : Nat) (i_3 : Int) (R : Ending → Mem → Prop) (m : Mem) : Prop :=
  ∃ (I : Nat → Option Addr → Nat → Nat → Int → Mem → Prop) (N : Nat), I N y_2a y_2l y_2c i_3 m ∧ ∀ N y_2a y_2l y_2c i_3 m, I N y_2a y_2l y_2c i_3 m → l1B  (fun y_2a y_2l y_2c i_3 m => ∃ N1, N1 < N ∧ I N1 y_2a y_2l y_2c i_3 m) y_2a y_2l y_2c i_3 R m
noncomputable def l1A  (K1 : Option Addr → Nat → Nat → Int → Mem → Prop) (R : Ending → Mem → Prop) : ACode := (.code (lP (bB (sR (sR (body))))))
def e0 (b_0a : Option Addr) (b_0l : Nat) (b_0c : Nat) (R : Ending → Mem → Prop) (m : Mem) : Prop :=
  SlS b_0a b_0c 0 ((b_0c : Nat) : Int) 1 fun x7a x7l x7c =>
  l1  x7a x7l x7c 0 R m
noncomputable def e0A (R : Ending → Mem → Prop) : ACode := (.seq (.code (sL (body))) (.seq (.code (sL (sR (body)))) (.block 0 (.cut (l1E fun y_2a y_2l y_2c i_3 m => l1  y_2a y_2l y_2c i_3 R m) (.loop (lP (bB (sR (sR (body))))))))))
theorem l1_eq  (K1 : Option Addr → Nat → Nat → Int → Mem → Prop) (R : Ending → Mem → Prop) (y_2a : Option Addr) (y_2l : Nat) (y_2c : Nat) (i_3 : Int) (ρ : Env) (m : Mem) : l1B  K1 y_2a y_2l y_2c i_3 R m = acpt P od (panicR R) (l1A  K1 R) (thenQ (l1E K1) (blockQ 0 (bodyQ P fn R))) (upd (upd ρ 3 (.int .i64 i_3)) 2 (.slice y_2a y_2l y_2c)) m := by kernel_rfl
theorem l1_er  (K1 : Option Addr → Nat → Nat → Int → Mem → Prop) (R : Ending → Mem → Prop) : (l1A  K1 R).erase = lP (bB (sR (sR (body)))) := by kernel_rfl
theorem l1_ok  (R : Ending → Mem → Prop) (ρ : Env) (m : Mem) (h : (l1E fun y_2a y_2l y_2c i_3 m => l1  y_2a y_2l y_2c i_3 R m) ρ m) : cpt P od (panicR R) (.loop (lP (bB (sR (sR (body)))))) (blockQ 0 (bodyQ P fn R)) ρ m := by
  unfold l1E at h
  obtain ⟨y_2a, y_2l, y_2c, e2, h⟩ := h.ex
  obtain ⟨i_3, e3, h⟩ := h.ex
  obtain ⟨I, N, h0, hs⟩ := h
  refine ⟨fun N => l1E (I N), N, (by show l1E (I N) ρ m; unfold l1E; rw [e2, e3]; exact h0), ?_⟩
  clear h0 e2 e3
  intro N ρ m h
  unfold l1E at h
  obtain ⟨y_2a, y_2l, y_2c, e2, h⟩ := h.ex
  obtain ⟨i_3, e3, h⟩ := h.ex
  refine cpt_mono (P := P) (lP (bB (sR (sR (body))))) (Q := thenQ (l1E fun y_2a y_2l y_2c i_3 m => ∃ N1, N1 < N ∧ I N1 y_2a y_2l y_2c i_3 m) (blockQ 0 (bodyQ P fn R))) (fun e ρ m h => ?_) ρ m ?_
  · cases e with
    | normal =>
      have h : l1E (fun y_2a y_2l y_2c i_3 m => ∃ N1, N1 < N ∧ I N1 y_2a y_2l y_2c i_3 m) ρ m := h
      unfold l1E at h
      obtain ⟨y_2a, y_2l, y_2c, e2, h⟩ := h.ex
      obtain ⟨i_3, e3, h⟩ := h.ex
      obtain ⟨N1, hlt, h⟩ := h
      exact ⟨N1, hlt, (by show l1E (I N1) ρ m; unfold l1E; rw [e2, e3]; exact h)⟩
    | _ => exact h
  have hh := hs N y_2a y_2l y_2c i_3 m h
  generalize (fun y_2a y_2l y_2c i_3 m => ∃ N1, N1 < N ∧ I N1 y_2a y_2l y_2c i_3 m : Option Addr → Nat → Nat → Int → Mem → Prop) = K1 at hh ⊢
  rw [← upd_self e2, ← upd_self e3]
  rw [← l1_er  K1 R]
  refine acpt_sound (P := P) (l1A  K1 R) _ _ _ True.intro ?_
  exact Eq.mp (l1_eq  K1 R y_2a y_2l y_2c i_3 ρ m) hh
theorem e0_eq (b_0a : Option Addr) (b_0l : Nat) (b_0c : Nat) (R : Ending → Mem → Prop) (m : Mem) : e0 b_0a b_0l b_0c R m = acpt P od (panicR R) (e0A R) (bodyQ P fn R) (argE (#[.slice b_0a b_0l b_0c] : Array Value).toList) m := by kernel_rfl
theorem ok (b_0a : Option Addr) (b_0l : Nat) (b_0c : Nat) (R : Ending → Mem → Prop) (m : Mem) (h : e0 b_0a b_0l b_0c R m) : HC P id #[.slice b_0a b_0l b_0c] m R := by
  refine HC_of (fn := fn) (c := body) (od := od) (tb := tb) Go.Proofs.Try.func22 (by kernel_rfl) (by kernel_rfl) follows (by kernel_rfl) (of_decide_eq_true (by kernel_rfl)) ?_
  have he : (e0A R).erase = body := by kernel_rfl
  rw [← he]
  refine acpt_sound (P := P) (e0A R) _ _ _ ⟨⟨(fun ρ m h => l1_ok  R ρ m h), True.intro⟩, True.intro⟩ ?_
  exact Eq.mp (e0_eq b_0a b_0l b_0c R m) h
end eyotlaw0_Spoil

/-! ### (*eyot/piece.Text).Copy -/
namespace piece_Text_Copy
noncomputable def fn : Func := Go.Proofs.Try.f23
noncomputable def body : Code := fn.body.getD .skip
def od : Nat → Ord := fun | 3 => ordL [(0, 3), (1, 3), (2, 3), (3, 1), (5, 3), (6, 3), (7, 3), (8, 1), (4, 0), (9, 2), (10, 3), (11, 2), (12, 3)] .done | _ => .done
def tb : Nat → Tab := fun | 3 => (2560, [0, 1, 3, 7, 15, 0, 32, 96, 224, 511, 1023, 2047, 4095], [(0, 1, 6), (1, 32, 7), (2, 64, 8), (4, 128, 9), (8, 256, 10), (0, 1, 11), (32, 1024, 12), (64, 2048, 13), (128, 4096, 14), (272, 8192, 15), (528, 16896, 16), (1024, 32768, 17), (4095, 65536, 3)]) | _ => (0, [], [])
def e0 (t_0 : Option Addr) (R : Ending → Mem → Prop) (m : Mem) : Prop :=
  Br t_0.isNone (
    R (.returned (.pointer none)) m) (
    Sub m fun r1 =>
    NilC t_0 (fun x6b x6o =>
      LdV r1 x6b x6o fun v =>
      UnS v fun x8a x8l x8c =>
      NilC t_0 (fun x11b x11o =>
        LdV r1 x11b (x11o + 1) fun v =>
        UnS v fun x13a x13l x13c =>
        HC P slices_Clone_s_api_Piece_api_Piece.id #[.slice x8a x8l x8c] m (Cont (fun v m2 =>
            UnS v fun x9a x9l x9c =>
            Lk r1 m2 fun r3 =>
            HC P slices_Clone_s_byte_byte.id #[.slice x13a x13l x13c] m2 (Cont (fun v m4 =>
                UnS v fun x14a x14l x14c =>
                NewC m4 #[.slice x9a x9l x9c, .slice x14a x14l x14c] T_piece_Text fun b16 m5 =>
                R (.returned (.pointer (some ⟨b16, 0, none⟩))) m5) (panicR R))) (panicR R))) (False)) (False))
noncomputable def e0A (R : Ending → Mem → Prop) : ACode := (.code (body))
theorem e0_eq (t_0 : Option Addr) (R : Ending → Mem → Prop) (m : Mem) : e0 t_0 R m = acpt P od (panicR R) (e0A R) (bodyQ P fn R) (argE (#[.pointer t_0] : Array Value).toList) m := by kernel_rfl
theorem ok (t_0 : Option Addr) (R : Ending → Mem → Prop) (m : Mem) (h : e0 t_0 R m) : HC P id #[.pointer t_0] m R := by
  refine HC_of (fn := fn) (c := body) (od := od) (tb := tb) Go.Proofs.Try.func23 (by kernel_rfl) (by kernel_rfl) follows (by kernel_rfl) (of_decide_eq_true (by kernel_rfl)) ?_
  have he : (e0A R).erase = body := by kernel_rfl
  rw [← he]
  refine acpt_sound (P := P) (e0A R) _ _ _ True.intro ?_
  exact Eq.mp (e0_eq t_0 R m) h
end piece_Text_Copy

/-! ### (*eyot/eyotref3.Text).Find -/
namespace eyotref3_Text_Find
noncomputable def fn : Func := Go.Proofs.Try.f24
noncomputable def body : Code := fn.body.getD .skip
def od : Nat → Ord := fun | 7 => ordL [(0, 3), (1, 3), (2, 3), (3, 3), (4, 1), (5, 3), (6, 3), (7, 3), (8, 3), (9, 0), (10, 3), (11, 3)] .done | _ => .done
def tb : Nat → Tab := fun | 7 => (0, [0, 0, 3, 7, 15, 0, 0, 96, 224, 480, 1023, 2047], [(0, 128, 30), (0, 256, 31), (3, 1610612736, 32), (4, 2147483648, 33), (8, 4294967296, 34), (0, 128, 35), (0, 256, 36), (96, 51539607552, 37), (128, 68719476736, 38), (256, 137438953472, 39), (528, 283467841536, 40), (2047, 549755813888, 10)]) | _ => (0, [], [])
def l1E (K : Int → Option Addr → Nat → Nat → Int → Mem → Prop) : Env → Mem → Prop := fun ρ m => UnI (ρ 1) .i64 fun at_1 => UnS (ρ 7) fun l_7a l_7l l_7c => UnI (ρ 8) .i64 fun i_8 => K at_1 l_7a l_7l l_7c i_8 m
def l1B  (K1 : Int → Option Addr → Nat → Nat → Int → Mem → Prop) (at_1 : Int) (l_7a : Option Addr) (l_7l : Nat) (l_7c : Nat) (i_8 : Int) (R : Ending → Mem → Prop) (m : Mem) : Prop :=
  Br (decide (i_8 < ((l_7l : Nat) : Int))) (
    Sub m fun r1 =>
    IxS l_7a l_7l i_8 3 fun x31b x31o =>
    LdV r1 x31b (x31o + 2) fun v =>
    UnI v .i64 fun x33 =>
    IxS l_7a l_7l i_8 3 fun x36b x36o =>
    LdV m x36b (x36o + 1) fun v =>
    UnI v .i64 fun x38 =>
    Br (decide (at_1 < (IntKind.i64.wrap (x33 - x38)))) (
      R (.returned (.tuple #[.int .i64 i_8, .int .i64 at_1, .int .i64 0])) m) (
      K1 (IntKind.i64.wrap (at_1 - (IntKind.i64.wrap (x33 - x38)))) l_7a l_7l l_7c (IntKind.i64.wrap (i_8 + 1)) m)) (
    R (.returned (.tuple #[.int .i64 0, .int .i64 0, .int .i64 1])) m)
def l1  (at_1 : Int) (l_7a : Option Addr) (l_7l : Nat) (l_7c : Nat) (i_8 : Int) (R : Ending → Mem → Prop) (m : Mem) : Prop :=
  ∃ (I : Nat → Int → Option Addr → Nat → Nat → Int → Mem → Prop) (N : Nat), I N at_1 l_7a l_7l l_7c i_8 m ∧ ∀ N at_1 l_7a l_7l l_7c i_8 m, I N at_1 l_7a l_7l l_7c i_8 m → l1B  (fun at_1 l_7a l_7l l_7c i_8 m => ∃ N1, N1 < N ∧ I N1 at_1 l_7a l_7l l_7c i_8 m) at_1 l_7a l_7l l_7c i_8 R m
noncomputable def l1A  (K1 : Int → Option Addr → Nat → Nat → Int → Mem → Prop) (R : Ending → Mem → Prop) : ACode := (.code (lP (bB (sR (sL (sR (sR (sR (body)))))))))
def e0 (t_0 : Option Addr) (at_1 : Int) (R : Ending → Mem → Prop) (m : Mem) : Prop :=
  Br (decide (at_1 < 0)) (
    R (.returned (.tuple #[.int .i64 0, .int .i64 0, .int .i64 1])) m) (
    NilC t_0 (fun x15b x15o =>
      LdV m x15b x15o fun v =>
      UnS v fun x17a x17l x17c =>
      Br (decide (at_1 ≥ ((x17l : Nat) : Int))) (
        R (.returned (.tuple #[.int .i64 0, .int .i64 0, .int .i64 1])) m) (
        HC P eyotref3_Text_Pieces.id #[.pointer t_0] m (Cont (fun v m1 =>
            UnS v fun x22a x22l x22c =>
            l1  at_1 x22a x22l x22c 0 R m1) (panicR R)))) (R (.panicked (nilPanic P)) m))
noncomputable def e0A (R : Ending → Mem → Prop) : ACode := (.seq (.code (sL (body))) (.seq (.code (sL (sR (body)))) (.seq (.code (sL (sR (sR (body))))) (.seq (.seq (.code (sL (sL (sR (sR (sR (body))))))) (.block 0 (.cut (l1E fun at_1 l_7a l_7l l_7c i_8 m => l1  at_1 l_7a l_7l l_7c i_8 R m) (.loop (lP (bB (sR (sL (sR (sR (sR (body)))))))))))) (.code (sR (sR (sR (sR (body))))))))))
theorem l1_eq  (K1 : Int → Option Addr → Nat → Nat → Int → Mem → Prop) (R : Ending → Mem → Prop) (at_1 : Int) (l_7a : Option Addr) (l_7l : Nat) (l_7c : Nat) (i_8 : Int) (ρ : Env) (m : Mem) : l1B  K1 at_1 l_7a l_7l l_7c i_8 R m = acpt P od (panicR R) (l1A  K1 R) (thenQ (l1E K1) (blockQ 0 (thenQ (acpt P od (panicR R) (.code (sR (sR (sR (sR (body)))))) (bodyQ P fn R)) (bodyQ P fn R)))) (upd (upd (upd ρ 8 (.int .i64 i_8)) 7 (.slice l_7a l_7l l_7c)) 1 (.int .i64 at_1)) m := by kernel_rfl
theorem l1_er  (K1 : Int → Option Addr → Nat → Nat → Int → Mem → Prop) (R : Ending → Mem → Prop) : (l1A  K1 R).erase = lP (bB (sR (sL (sR (sR (sR (body))))))) := by kernel_rfl
theorem l1_ok  (R : Ending → Mem → Prop) (ρ : Env) (m : Mem) (h : (l1E fun at_1 l_7a l_7l l_7c i_8 m => l1  at_1 l_7a l_7l l_7c i_8 R m) ρ m) : cpt P od (panicR R) (.loop (lP (bB (sR (sL (sR (sR (sR (body))))))))) (blockQ 0 (thenQ (acpt P od (panicR R) (.code (sR (sR (sR (sR (body)))))) (bodyQ P fn R)) (bodyQ P fn R))) ρ m := by
  unfold l1E at h
  obtain ⟨at_1, e1, h⟩ := h.ex
  obtain ⟨l_7a, l_7l, l_7c, e7, h⟩ := h.ex
  obtain ⟨i_8, e8, h⟩ := h.ex
  obtain ⟨I, N, h0, hs⟩ := h
  refine ⟨fun N => l1E (I N), N, (by show l1E (I N) ρ m; unfold l1E; rw [e1, e7, e8]; exact h0), ?_⟩
  clear h0 e1 e7 e8
  intro N ρ m h
  unfold l1E at h
  obtain ⟨at_1, e1, h⟩ := h.ex
  obtain ⟨l_7a, l_7l, l_7c, e7, h⟩ := h.ex
  obtain ⟨i_8, e8, h⟩ := h.ex
  refine cpt_mono (P := P) (lP (bB (sR (sL (sR (sR (sR (body)))))))) (Q := thenQ (l1E fun at_1 l_7a l_7l l_7c i_8 m => ∃ N1, N1 < N ∧ I N1 at_1 l_7a l_7l l_7c i_8 m) (blockQ 0 (thenQ (acpt P od (panicR R) (.code (sR (sR (sR (sR (body)))))) (bodyQ P fn R)) (bodyQ P fn R)))) (fun e ρ m h => ?_) ρ m ?_
  · cases e with
    | normal =>
      have h : l1E (fun at_1 l_7a l_7l l_7c i_8 m => ∃ N1, N1 < N ∧ I N1 at_1 l_7a l_7l l_7c i_8 m) ρ m := h
      unfold l1E at h
      obtain ⟨at_1, e1, h⟩ := h.ex
      obtain ⟨l_7a, l_7l, l_7c, e7, h⟩ := h.ex
      obtain ⟨i_8, e8, h⟩ := h.ex
      obtain ⟨N1, hlt, h⟩ := h
      exact ⟨N1, hlt, (by show l1E (I N1) ρ m; unfold l1E; rw [e1, e7, e8]; exact h)⟩
    | _ => exact h
  have hh := hs N at_1 l_7a l_7l l_7c i_8 m h
  generalize (fun at_1 l_7a l_7l l_7c i_8 m => ∃ N1, N1 < N ∧ I N1 at_1 l_7a l_7l l_7c i_8 m : Int → Option Addr → Nat → Nat → Int → Mem → Prop) = K1 at hh ⊢
  rw [← upd_self e1, ← upd_self e7, ← upd_self e8]
  rw [← l1_er  K1 R]
  refine acpt_sound (P := P) (l1A  K1 R) _ _ _ True.intro ?_
  exact Eq.mp (l1_eq  K1 R at_1 l_7a l_7l l_7c i_8 ρ m) hh
theorem e0_eq (t_0 : Option Addr) (at_1 : Int) (R : Ending → Mem → Prop) (m : Mem) : e0 t_0 at_1 R m = acpt P od (panicR R) (e0A R) (bodyQ P fn R) (argE (#[.pointer t_0, .int .i64 at_1] : Array Value).toList) m := by kernel_rfl
theorem ok (t_0 : Option Addr) (at_1 : Int) (R : Ending → Mem → Prop) (m : Mem) (h : e0 t_0 at_1 R m) : HC P id #[.pointer t_0, .int .i64 at_1] m R := by
  refine HC_of (fn := fn) (c := body) (od := od) (tb := tb) Go.Proofs.Try.func24 (by kernel_rfl) (by kernel_rfl) follows (by kernel_rfl) (of_decide_eq_true (by kernel_rfl)) ?_
  have he : (e0A R).erase = body := by kernel_rfl
  rw [← he]
  refine acpt_sound (P := P) (e0A R) _ _ _ ⟨⟨⟨⟨True.intro, ⟨(fun ρ m h => l1_ok  R ρ m h), True.intro⟩⟩, True.intro⟩, True.intro⟩, True.intro⟩ ?_
  exact Eq.mp (e0_eq t_0 at_1 R m) h
end eyotref3_Text_Find

/-! ### eyot/eyotref3.SamePieces -/
namespace eyotref3_SamePieces
noncomputable def fn : Func := Go.Proofs.Try.f25
noncomputable def body : Code := fn.body.getD .skip
def od : Nat → Ord := fun | 6 => ordL [(0, 3), (1, 3), (2, 3), (3, 1), (4, 3), (5, 3), (6, 3), (7, 0), (8, 3)] .done | _ => .done
def tb : Nat → Tab := fun | 6 => (0, [0, 0, 3, 7, 0, 0, 48, 112, 255], [(0, 1, 18), (0, 32, 19), (3, 393216, 20), (4, 524288, 21), (0, 2, 22), (0, 32, 23), (48, 6291456, 24), (64, 8388608, 25), (136, 17825792, 26)]) | _ => (0, [], [])
def l1E (K : Option Addr → Nat → Nat → Option Addr → Nat → Nat → Int → Mem → Prop) : Env → Mem → Prop := fun ρ m => UnS (ρ 0) fun a_0a a_0l a_0c => UnS (ρ 1) fun b_1a b_1l b_1c => UnI (ρ 5) .i64 fun i_5 => K a_0a a_0l a_0c b_1a b_1l b_1c i_5 m
def l1B  (K1 : Option Addr → Nat → Nat → Option Addr → Nat → Nat → Int → Mem → Prop) (a_0a : Option Addr) (a_0l : Nat) (a_0c : Nat) (b_1a : Option Addr) (b_1l : Nat) (b_1c : Nat) (i_5 : Int) (R : Ending → Mem → Prop) (m : Mem) : Prop :=
  Br (decide (i_5 < ((a_0l : Nat) : Int))) (
    Sub m fun r1 =>
    IxS a_0a a_0l i_5 3 fun x19b x19o =>
    LdV r1 x19b x19o fun v =>
    UnB v fun x20_0 =>
    LdV r1 x19b (x19o + 1) fun v =>
    UnI v .i64 fun x20_1 =>
    LdV r1 x19b (x19o + 2) fun v =>
    UnI v .i64 fun x20_2 =>
    IxS b_1a b_1l i_5 3 fun x23b x23o =>
    LdV m x23b x23o fun v =>
    UnB v fun x24_0 =>
    LdV m x23b (x23o + 1) fun v =>
    UnI v .i64 fun x24_1 =>
    LdV m x23b (x23o + 2) fun v =>
    UnI v .i64 fun x24_2 =>
    Br (!(eqL [.bool x20_0, .int .i64 x20_1, .int .i64 x20_2] [.bool x24_0, .int .i64 x24_1, .int .i64 x24_2])) (
      R (.returned (.bool false)) m) (
      K1 a_0a a_0l a_0c b_1a b_1l b_1c (IntKind.i64.wrap (i_5 + 1)) m)) (
    R (.returned (.bool true)) m)
def l1  (a_0a : Option Addr) (a_0l : Nat) (a_0c : Nat) (b_1a : Option Addr) (b_1l : Nat) (b_1c : Nat) (i_5 : Int) (R : Ending → Mem → Prop) (m : Mem) : Prop :=
  ∃ (I : Nat → Option Addr → Nat → Nat → Option Addr → Nat → Nat → Int → Mem → Prop) (N : Nat), I N a_0a a_0l a_0c b_1a b_1l b_1c i_5 m ∧ ∀ N a_0a a_0l a_0c b_1a b_1l b_1c i_5 m, I N a_0a a_0l a_0c b_1a b_1l b_1c i_5 m → l1B  (fun a_0a a_0l a_0c b_1a b_1l b_1c i_5 m => ∃ N1, N1 < N ∧ I N1 a_0a a_0l a_0c b_1a b_1l b_1c i_5 m) a_0a a_0l a_0c b_1a b_1l b_1c i_5 R m
noncomputable def l1A  (K1 : Option Addr → Nat → Nat → Option Addr → Nat → Nat → Int → Mem → Prop) (R : Ending → Mem → Prop) : ACode := (.code (lP (bB (sR (sL (sR (sR (body))))))))
def e0 (a_0a : Option Addr) (a_0l : Nat) (a_0c : Nat) (b_1a : Option Addr) (b_1l : Nat) (b_1c : Nat) (R : Ending → Mem → Prop) (m : Mem) : Prop :=
  Br (((a_0l : Nat) : Int) != ((b_1l : Nat) : Int)) (
    R (.returned (.bool false)) m) (
    l1  a_0a a_0l a_0c b_1a b_1l b_1c 0 R m)
noncomputable def e0A (R : Ending → Mem → Prop) : ACode := (.seq (.code (sL (body))) (.seq (.code (sL (sR (body)))) (.seq (.seq (.code (sL (sL (sR (sR (body)))))) (.block 0 (.cut (l1E fun a_0a a_0l a_0c b_1a b_1l b_1c i_5 m => l1  a_0a a_0l a_0c b_1a b_1l b_1c i_5 R m) (.loop (lP (bB (sR (sL (sR (sR (body))))))))))) (.code (sR (sR (sR (body))))))))
theorem l1_eq  (K1 : Option Addr → Nat → Nat → Option Addr → Nat → Nat → Int → Mem → Prop) (R : Ending → Mem → Prop) (a_0a : Option Addr) (a_0l : Nat) (a_0c : Nat) (b_1a : Option Addr) (b_1l : Nat) (b_1c : Nat) (i_5 : Int) (ρ : Env) (m : Mem) : l1B  K1 a_0a a_0l a_0c b_1a b_1l b_1c i_5 R m = acpt P od (panicR R) (l1A  K1 R) (thenQ (l1E K1) (blockQ 0 (thenQ (acpt P od (panicR R) (.code (sR (sR (sR (body))))) (bodyQ P fn R)) (bodyQ P fn R)))) (upd (upd (upd ρ 5 (.int .i64 i_5)) 1 (.slice b_1a b_1l b_1c)) 0 (.slice a_0a a_0l a_0c)) m := by kernel_rfl
theorem l1_er  (K1 : Option Addr → Nat → Nat → Option Addr → Nat → Nat → Int → Mem → Prop) (R : Ending → Mem → Prop) : (l1A  K1 R).erase = lP (bB (sR (sL (sR (sR (body)))))) := by kernel_rfl
theorem l1_ok  (R : Ending → Mem → Prop) (ρ : Env) (m : Mem) (h : (l1E fun a_0a a_0l a_0c b_1a b_1l b_1c i_5 m => l1  a_0a a_0l a_0c b_1a b_1l b_1c i_5 R m) ρ m) : cpt P od (panicR R) (.loop (lP (bB (sR (sL (sR (sR (body)))))))) (blockQ 0 (thenQ (acpt P od (panicR R) (.code (sR (sR (sR (body))))) (bodyQ P fn R)) (bodyQ P fn R))) ρ m := by
  unfold l1E at h
  obtain ⟨a_0a, a_0l, a_0c, e0, h⟩ := h.ex
  obtain ⟨b_1a, b_1l, b_1c, e1, h⟩ := h.ex
  obtain ⟨i_5, e5, h⟩ := h.ex
  obtain ⟨I, N, h0, hs⟩ := h
  refine ⟨fun N => l1E (I N), N, (by show l1E (I N) ρ m; unfold l1E; rw [e0, e1, e5]; exact h0), ?_⟩
  clear h0 e0 e1 e5
  intro N ρ m h
  unfold l1E at h
  obtain ⟨a_0a, a_0l, a_0c, e0, h⟩ := h.ex
  obtain ⟨b_1a, b_1l, b_1c, e1, h⟩ := h.ex
  obtain ⟨i_5, e5, h⟩ := h.ex
  refine cpt_mono (P := P) (lP (bB (sR (sL (sR (sR (body))))))) (Q := thenQ (l1E fun a_0a a_0l a_0c b_1a b_1l b_1c i_5 m => ∃ N1, N1 < N ∧ I N1 a_0a a_0l a_0c b_1a b_1l b_1c i_5 m) (blockQ 0 (thenQ (acpt P od (panicR R) (.code (sR (sR (sR (body))))) (bodyQ P fn R)) (bodyQ P fn R)))) (fun e ρ m h => ?_) ρ m ?_
  · cases e with
    | normal =>
      have h : l1E (fun a_0a a_0l a_0c b_1a b_1l b_1c i_5 m => ∃ N1, N1 < N ∧ I N1 a_0a a_0l a_0c b_1a b_1l b_1c i_5 m) ρ m := h
      unfold l1E at h
      obtain ⟨a_0a, a_0l, a_0c, e0, h⟩ := h.ex
      obtain ⟨b_1a, b_1l, b_1c, e1, h⟩ := h.ex
      obtain ⟨i_5, e5, h⟩ := h.ex
      obtain ⟨N1, hlt, h⟩ := h
      exact ⟨N1, hlt, (by show l1E (I N1) ρ m; unfold l1E; rw [e0, e1, e5]; exact h)⟩
    | _ => exact h
  have hh := hs N a_0a a_0l a_0c b_1a b_1l b_1c i_5 m h
  generalize (fun a_0a a_0l a_0c b_1a b_1l b_1c i_5 m => ∃ N1, N1 < N ∧ I N1 a_0a a_0l a_0c b_1a b_1l b_1c i_5 m : Option Addr → Nat → Nat → Option Addr → Nat → Nat → Int → Mem → Prop) = K1 at hh ⊢
  rw [← upd_self e0, ← upd_self e1, ← upd_self e5]
  rw [← l1_er  K1 R]
  refine acpt_sound (P := P) (l1A  K1 R) _ _ _ True.intro ?_
  exact Eq.mp (l1_eq  K1 R a_0a a_0l a_0c b_1a b_1l b_1c i_5 ρ m) hh
theorem e0_eq (a_0a : Option Addr) (a_0l : Nat) (a_0c : Nat) (b_1a : Option Addr) (b_1l : Nat) (b_1c : Nat) (R : Ending → Mem → Prop) (m : Mem) : e0 a_0a a_0l a_0c b_1a b_1l b_1c R m = acpt P od (panicR R) (e0A R) (bodyQ P fn R) (argE (#[.slice a_0a a_0l a_0c, .slice b_1a b_1l b_1c] : Array Value).toList) m := by kernel_rfl
theorem ok (a_0a : Option Addr) (a_0l : Nat) (a_0c : Nat) (b_1a : Option Addr) (b_1l : Nat) (b_1c : Nat) (R : Ending → Mem → Prop) (m : Mem) (h : e0 a_0a a_0l a_0c b_1a b_1l b_1c R m) : HC P id #[.slice a_0a a_0l a_0c, .slice b_1a b_1l b_1c] m R := by
  refine HC_of (fn := fn) (c := body) (od := od) (tb := tb) Go.Proofs.Try.func25 (by kernel_rfl) (by kernel_rfl) follows (by kernel_rfl) (of_decide_eq_true (by kernel_rfl)) ?_
  have he : (e0A R).erase = body := by kernel_rfl
  rw [← he]
  refine acpt_sound (P := P) (e0A R) _ _ _ ⟨⟨⟨True.intro, ⟨(fun ρ m h => l1_ok  R ρ m h), True.intro⟩⟩, True.intro⟩, True.intro⟩ ?_
  exact Eq.mp (e0_eq a_0a a_0l a_0c b_1a b_1l b_1c R m) h
end eyotref3_SamePieces

/-! ### (*eyot/eyotref3.Text).Pieces -/
namespace eyotref3_Text_Pieces
noncomputable def fn : Func := Go.Proofs.Try.f26
noncomputable def body : Code := fn.body.getD .skip
def od : Nat → Ord := fun | 7 => ordL [(0, 3), (1, 3), (2, 3), (3, 3), (4, 3), (5, 3), (6, 3), (7, 1), (8, 3), (9, 0), (10, 3), (11, 3), (12, 3), (13, 3), (14, 3), (15, 3), (16, 3), (17, 1), (18, 3), (19, 0), (20, 3), (21, 3)] .done | _ => .done
def tb : Nat → Tab := fun | 7 => (0, [0, 1, 3, 7, 7, 31, 63, 127, 7, 263, 1023, 2047, 4095, 8191, 8191, 32767, 65535, 131071, 8191, 270335, 1048575, 2097151], [(0, 64, 27), (1, 67108864, 28), (2, 134217728, 29), (4, 268435464, 30), (4, 268435520, 31), (28, 1879048192, 32), (36, 2415919104, 33), (68, 4563402752, 34), (4, 268435488, 35), (260, 17448304640, 36), (644, 43218108416, 37), (1028, 68987912192, 38), (2052, 137438953472, 39), (4096, 274877906952, 40), (4096, 274877907008, 41), (28672, 1924145348608, 42), (36864, 2473901162496, 43), (69632, 4672924418048, 44), (4096, 274877906976, 45), (266240, 17867063951360, 46), (659456, 44255343017984, 47), (1052672, 70643622084608, 48)]) | _ => (0, [], [])
def k2E (K : Option Addr → Option Addr → Nat → Nat → Int → Nat → Nat → Int → Bool → Mem → Prop) : Env → Mem → Prop := fun ρ m => UnP (ρ 0) fun x0 => UnS (ρ 3) fun x3a x3l x3c => UnI (ρ 4) .i64 fun x4 => UnPA (ρ 5) fun x5b x5o => UnI (ρ 6) .i64 fun x6 => UnB (ρ 47) fun x47 => K x0 x3a x3l x3c x4 x5b x5o x6 x47 m
def k2 (K1 : Option Addr → Option Addr → Nat → Nat → Int → Mem → Prop) (x0 : Option Addr) (x3a : Option Addr) (x3l : Nat) (x3c : Nat) (x4 : Int) (x5b : Nat) (x5o : Nat) (x6 : Int) (x47 : Bool) (R : Ending → Mem → Prop) (m : Mem) : Prop :=
  Br x47 (
    IxS x3a x3l x6 3 fun x50b x50o =>
    LdV m x50b (x50o + 2) fun v =>
    UnI v .i64 fun x52 =>
    IxS x3a x3l x6 3 fun x54b x54o =>
    St1 m x54b (x54o + 2) (.int .i64 (IntKind.i64.wrap (x52 + 1))) fun m1 =>
    K1 x0 x3a x3l x3c (IntKind.i64.wrap (x4 + 1)) m1) (
    LdV m x5b x5o fun v =>
    UnB v fun x58 =>
    LdV m x5b (x5o + 1) fun v =>
    UnI v .i64 fun x60 =>
    LdV m x5b (x5o + 1) fun v =>
    UnI v .i64 fun x62 =>
    NewC m #[.bool x58, .int .i64 x60, .int .i64 (IntKind.i64.wrap (x62 + 1))] T_api_Piece fun b65 m1 =>
    BiN P .append #[T_sl_api_Piece, T_sl_api_Piece] T_sl_api_Piece #[false, false] #[.slice x3a x3l x3c, .slice (some ⟨b65, 0, none⟩) 1 1] m1 (fun w m2 =>
      UnS w fun x66a x66l x66c =>
      K1 x0 x66a x66l x66c (IntKind.i64.wrap (x4 + 1)) m2) (panicR R))
noncomputable def k2A (K1 : Option Addr → Option Addr → Nat → Nat → Int → Mem → Prop) (R : Ending → Mem → Prop) : ACode := (.code (sR (sR (sR (bB (sL (sR (lP (bB (sR (sL (sR (sR (body))))))))))))))
def l1E (K : Option Addr → Option Addr → Nat → Nat → Int → Mem → Prop) : Env → Mem → Prop := fun ρ m => UnP (ρ 0) fun x0 => UnS (ρ 3) fun x3a x3l x3c => UnI (ρ 4) .i64 fun x4 => K x0 x3a x3l x3c x4 m
def l1B  (K1 : Option Addr → Option Addr → Nat → Nat → Int → Mem → Prop) (x0 : Option Addr) (x3a : Option Addr) (x3l : Nat) (x3c : Nat) (x4 : Int) (R : Ending → Mem → Prop) (m : Mem) : Prop :=
  NilC x0 (fun x9b x9o =>
    LdV m x9b x9o fun v =>
    UnS v fun x11a x11l x11c =>
    Br (decide (x4 < ((x11l : Nat) : Int))) (
      NilC x0 (fun x17b x17o =>
        LdV m x17b x17o fun v =>
        UnS v fun x19a x19l x19c =>
        IxS x19a x19l x4 2 fun x21b x21o =>
        LdV m x21b x21o fun v =>
        UnB v fun x22_0 =>
        LdV m x21b (x21o + 1) fun v =>
        UnI v .i64 fun x22_1 =>
        NewC m #[.bool false, .int .i64 0] T_eyotref3_Byte fun b5 m1 =>
        St1 m1 b5 0 (.bool x22_0) fun m2 =>
        St1 m2 b5 1 (.int .i64 x22_1) fun m3 =>
        Sub m3 fun r4 =>
        Br (decide ((IntKind.i64.wrap (((x3l : Nat) : Int) - 1)) ≥ 0)) (
          IxS x3a x3l (IntKind.i64.wrap (((x3l : Nat) : Int) - 1)) 3 fun x31b x31o =>
          LdV r4 x31b x31o fun v =>
          UnB v fun x33 =>
          LdV m3 b5 0 fun v =>
          UnB v fun x35 =>
          Br (x33 == x35) (
            IxS x3a x3l (IntKind.i64.wrap (((x3l : Nat) : Int) - 1)) 3 fun x41b x41o =>
            LdV r4 x41b (x41o + 2) fun v =>
            UnI v .i64 fun x43 =>
            LdV m3 b5 1 fun v =>
            UnI v .i64 fun x45 =>
            k2 K1 x0 x3a x3l x3c x4 b5 0 (IntKind.i64.wrap (((x3l : Nat) : Int) - 1)) (x43 == x45) R m3) (
            k2 K1 x0 x3a x3l x3c x4 b5 0 (IntKind.i64.wrap (((x3l : Nat) : Int) - 1)) false R m3)) (
          k2 K1 x0 x3a x3l x3c x4 b5 0 (IntKind.i64.wrap (((x3l : Nat) : Int) - 1)) false R m3)) (R (.panicked (nilPanic P)) m)) (
      R (.returned (.slice x3a x3l x3c)) m)) (R (.panicked (nilPanic P)) m)
def l1  (x0 : Option Addr) (x3a : Option Addr) (x3l : Nat) (x3c : Nat) (x4 : Int) (R : Ending → Mem → Prop) (m : Mem) : Prop :=
  ∃ (I : Nat → Option Addr → Option Addr → Nat → Nat → Int → Mem → Prop) (N : Nat), I N x0 x3a x3l x3c x4 m ∧ ∀ N x0 x3a x3l x3c x4 m, I N x0 x3a x3l x3c x4 m → l1B  (fun x0 x3a x3l x3c x4 m => ∃ N1, N1 < N ∧ I N1 x0 x3a x3l x3c x4 m) x0 x3a x3l x3c x4 R m
noncomputable def l1A  (K1 : Option Addr → Option Addr → Nat → Nat → Int → Mem → Prop) (R : Ending → Mem → Prop) : ACode := (.seq (.code (sL (lP (bB (sR (sL (sR (sR (body))))))))) (.seq (.block 1 (.seq (.code (sL (bB (sL (sR (lP (bB (sR (sL (sR (sR (body)))))))))))) (.seq (.code (sL (sR (bB (sL (sR (lP (bB (sR (sL (sR (sR (body))))))))))))) (.seq (.code (sL (sR (sR (bB (sL (sR (lP (bB (sR (sL (sR (sR (body)))))))))))))) (.cut (k2E fun x0 x3a x3l x3c x4 x5b x5o x6 x47 m => k2 K1 x0 x3a x3l x3c x4 x5b x5o x6 x47 R m) (sR (sR (sR (bB (sL (sR (lP (bB (sR (sL (sR (sR (body)))))))))))))))))) (.code (sR (sR (lP (bB (sR (sL (sR (sR (body))))))))))))
def e0 (a0 : Option Addr) (R : Ending → Mem → Prop) (m : Mem) : Prop :=
  l1  a0 none 0 0 0 R m
noncomputable def e0A (R : Ending → Mem → Prop) : ACode := (.seq (.code (sL (body))) (.seq (.code (sL (sR (body)))) (.seq (.seq (.code (sL (sL (sR (sR (body)))))) (.block 0 (.cut (l1E fun x0 x3a x3l x3c x4 m => l1  x0 x3a x3l x3c x4 R m) (.loop (lP (bB (sR (sL (sR (sR (body))))))))))) (.code (sR (sR (sR (body))))))))
theorem k2_eq (K1 : Option Addr → Option Addr → Nat → Nat → Int → Mem → Prop) (R : Ending → Mem → Prop) (x0 : Option Addr) (x3a : Option Addr) (x3l : Nat) (x3c : Nat) (x4 : Int) (x5b : Nat) (x5o : Nat) (x6 : Int) (x47 : Bool) (ρ : Env) (m : Mem) : k2 K1 x0 x3a x3l x3c x4 x5b x5o x6 x47 R m = acpt P od (panicR R) (k2A K1 R) (blockQ 1 (thenQ (acpt P od (panicR R) (.code (sR (sR (lP (bB (sR (sL (sR (sR (body)))))))))) (thenQ (l1E K1) (blockQ 0 (thenQ (acpt P od (panicR R) (.code (sR (sR (sR (body))))) (bodyQ P fn R)) (bodyQ P fn R))))) (thenQ (l1E K1) (blockQ 0 (thenQ (acpt P od (panicR R) (.code (sR (sR (sR (body))))) (bodyQ P fn R)) (bodyQ P fn R)))))) (upd (upd (upd (upd (upd (upd ρ 47 (.bool x47)) 6 (.int .i64 x6)) 5 (.pointer (some ⟨x5b, x5o, none⟩))) 4 (.int .i64 x4)) 3 (.slice x3a x3l x3c)) 0 (.pointer x0)) m := by kernel_rfl
theorem k2_er (K1 : Option Addr → Option Addr → Nat → Nat → Int → Mem → Prop) (R : Ending → Mem → Prop) : (k2A K1 R).erase = sR (sR (sR (bB (sL (sR (lP (bB (sR (sL (sR (sR (body)))))))))))) := by kernel_rfl
theorem k2_ok (K1 : Option Addr → Option Addr → Nat → Nat → Int → Mem → Prop) (R : Ending → Mem → Prop) (ρ : Env) (m : Mem) (h : (k2E fun x0 x3a x3l x3c x4 x5b x5o x6 x47 m => k2 K1 x0 x3a x3l x3c x4 x5b x5o x6 x47 R m) ρ m) : cpt P od (panicR R) (sR (sR (sR (bB (sL (sR (lP (bB (sR (sL (sR (sR (body))))))))))))) (blockQ 1 (thenQ (acpt P od (panicR R) (.code (sR (sR (lP (bB (sR (sL (sR (sR (body)))))))))) (thenQ (l1E K1) (blockQ 0 (thenQ (acpt P od (panicR R) (.code (sR (sR (sR (body))))) (bodyQ P fn R)) (bodyQ P fn R))))) (thenQ (l1E K1) (blockQ 0 (thenQ (acpt P od (panicR R) (.code (sR (sR (sR (body))))) (bodyQ P fn R)) (bodyQ P fn R)))))) ρ m := by
  unfold k2E at h
  obtain ⟨x0, e0, h⟩ := h.ex
  obtain ⟨x3a, x3l, x3c, e3, h⟩ := h.ex
  obtain ⟨x4, e4, h⟩ := h.ex
  obtain ⟨x5b, x5o, e5, h⟩ := h.ex
  obtain ⟨x6, e6, h⟩ := h.ex
  obtain ⟨x47, e47, h⟩ := h.ex
  rw [← upd_self e0, ← upd_self e3, ← upd_self e4, ← upd_self e5, ← upd_self e6, ← upd_self e47]
  rw [← k2_er K1 R]
  refine acpt_sound (P := P) (k2A K1 R) _ _ _ True.intro ?_
  exact Eq.mp (k2_eq K1 R x0 x3a x3l x3c x4 x5b x5o x6 x47 ρ m) h
theorem l1_eq  (K1 : Option Addr → Option Addr → Nat → Nat → Int → Mem → Prop) (R : Ending → Mem → Prop) (x0 : Option Addr) (x3a : Option Addr) (x3l : Nat) (x3c : Nat) (x4 : Int) (ρ : Env) (m : Mem) : l1B  K1 x0 x3a x3l x3c x4 R m = acpt P od (panicR R) (l1A  K1 R) (thenQ (l1E K1) (blockQ 0 (thenQ (acpt P od (panicR R) (.code (sR (sR (sR (body))))) (bodyQ P fn R)) (bodyQ P fn R)))) (upd (upd (upd ρ 4 (.int .i64 x4)) 3 (.slice x3a x3l x3c)) 0 (.pointer x0)) m := by kernel_rfl
theorem l1_er  (K1 : Option Addr → Option Addr → Nat → Nat → Int → Mem → Prop) (R : Ending → Mem → Prop) : (l1A  K1 R).erase = lP (bB (sR (sL (sR (sR (body)))))) := by kernel_rfl
theorem l1_ok  (R : Ending → Mem → Prop) (ρ : Env) (m : Mem) (h : (l1E fun x0 x3a x3l x3c x4 m => l1  x0 x3a x3l x3c x4 R m) ρ m) : cpt P od (panicR R) (.loop (lP (bB (sR (sL (sR (sR (body)))))))) (blockQ 0 (thenQ (acpt P od (panicR R) (.code (sR (sR (sR (body))))) (bodyQ P fn R)) (bodyQ P fn R))) ρ m := by
  unfold l1E at h
  obtain ⟨x0, e0, h⟩ := h.ex
  obtain ⟨x3a, x3l, x3c, e3, h⟩ := h.ex
  obtain ⟨x4, e4, h⟩ := h.ex
  obtain ⟨I, N, h0, hs⟩ := h
  refine ⟨fun N => l1E (I N), N, (by show l1E (I N) ρ m; unfold l1E; rw [e0, e3, e4]; exact h0), ?_⟩
  clear h0 e0 e3 e4
  intro N ρ m h
  unfold l1E at h
  obtain ⟨x0, e0, h⟩ := h.ex
  obtain ⟨x3a, x3l, x3c, e3, h⟩ := h.ex
  obtain ⟨x4, e4, h⟩ := h.ex
  refine cpt_mono (P := P) (lP (bB (sR (sL (sR (sR (body))))))) (Q := thenQ (l1E fun x0 x3a x3l x3c x4 m => ∃ N1, N1 < N ∧ I N1 x0 x3a x3l x3c x4 m) (blockQ 0 (thenQ (acpt P od (panicR R) (.code (sR (sR (sR (body))))) (bodyQ P fn R)) (bodyQ P fn R)))) (fun e ρ m h => ?_) ρ m ?_
  · cases e with
    | normal =>
      have h : l1E (fun x0 x3a x3l x3c x4 m => ∃ N1, N1 < N ∧ I N1 x0 x3a x3l x3c x4 m) ρ m := h
      unfold l1E at h
      obtain ⟨x0, e0, h⟩ := h.ex
      obtain ⟨x3a, x3l, x3c, e3, h⟩ := h.ex
      obtain ⟨x4, e4, h⟩ := h.ex
      obtain ⟨N1, hlt, h⟩ := h
      exact ⟨N1, hlt, (by show l1E (I N1) ρ m; unfold l1E; rw [e0, e3, e4]; exact h)⟩
    | _ => exact h
  have hh := hs N x0 x3a x3l x3c x4 m h
  generalize (fun x0 x3a x3l x3c x4 m => ∃ N1, N1 < N ∧ I N1 x0 x3a x3l x3c x4 m : Option Addr → Option Addr → Nat → Nat → Int → Mem → Prop) = K1 at hh ⊢
  rw [← upd_self e0, ← upd_self e3, ← upd_self e4]
  rw [← l1_er  K1 R]
  refine acpt_sound (P := P) (l1A  K1 R) _ _ _ ⟨⟨True.intro, ⟨⟨⟨(fun ρ m h => k2_ok K1 R ρ m h), True.intro⟩, True.intro⟩, True.intro⟩⟩, True.intro⟩ ?_
  exact Eq.mp (l1_eq  K1 R x0 x3a x3l x3c x4 ρ m) hh
theorem e0_eq (a0 : Option Addr) (R : Ending → Mem → Prop) (m : Mem) : e0 a0 R m = acpt P od (panicR R) (e0A R) (bodyQ P fn R) (argE (#[.pointer a0] : Array Value).toList) m := by kernel_rfl
theorem ok (a0 : Option Addr) (R : Ending → Mem → Prop) (m : Mem) (h : e0 a0 R m) : HC P id #[.pointer a0] m R := by
  refine HC_of (fn := fn) (c := body) (od := od) (tb := tb) Go.Proofs.Try.func26 (by kernel_rfl) (by kernel_rfl) follows (by kernel_rfl) (of_decide_eq_true (by kernel_rfl)) ?_
  have he : (e0A R).erase = body := by kernel_rfl
  rw [← he]
  refine acpt_sound (P := P) (e0A R) _ _ _ ⟨⟨⟨True.intro, ⟨(fun ρ m h => l1_ok  R ρ m h), True.intro⟩⟩, True.intro⟩, True.intro⟩ ?_
  exact Eq.mp (e0_eq a0 R m) h
end eyotref3_Text_Pieces

/-! ### eyot/piece.cut -/
namespace piece_cut
noncomputable def fn : Func := Go.Proofs.Try.f27
noncomputable def body : Code := fn.body.getD .skip
def od : Nat → Ord := fun _ => .done
def tb : Nat → Tab := fun _ => (0, [], [])
def k2E (K : Int → Int → Option Addr → Nat → Nat → Int → Nat → Nat → Option Addr → Nat → Nat → Int → Int → Mem → Prop) : Env → Mem → Prop := fun ρ m => UnI (ρ 1) .i64 fun from_1 => UnI (ρ 2) .i64 fun to_2 => UnS (ρ 7) fun out_7a out_7l out_7c => UnI (ρ 8) .i64 fun at_8 => UnPA (ρ 10) fun p_10b p_10o => UnS (ρ 13) fun x13a x13l x13c => UnI (ρ 14) .i64 fun x14 => UnI (ρ 15) .i64 fun x15 => K from_1 to_2 out_7a out_7l out_7c at_8 p_10b p_10o x13a x13l x13c x14 x15 m
def k2 (K1 : Int → Int → Option Addr → Nat → Nat → Int → Option Addr → Nat → Nat → Int → Int → Mem → Prop) (from_1 : Int) (to_2 : Int) (out_7a : Option Addr) (out_7l : Nat) (out_7c : Nat) (at_8 : Int) (p_10b : Nat) (p_10o : Nat) (x13a : Option Addr) (x13l : Nat) (x13c : Nat) (x14 : Int) (x15 : Int) (R : Ending → Mem → Prop) (m : Mem) : Prop :=
  LdV m p_10b p_10o fun v =>
  UnB v fun x47_0 =>
  LdV m p_10b (p_10o + 1) fun v =>
  UnI v .i64 fun x47_1 =>
  LdV m p_10b (p_10o + 2) fun v =>
  UnI v .i64 fun x47_2 =>
  HC P piece_size.id #[.agg #[.bool x47_0, .int .i64 x47_1, .int .i64 x47_2]] m (Cont (fun v m1 =>
      UnI v .i64 fun x48 =>
      K1 from_1 to_2 out_7a out_7l out_7c (IntKind.i64.wrap (at_8 + x48)) x13a x13l x13c x14 (IntKind.i64.wrap (x15 + 1)) m1) (panicR R))
noncomputable def k2A (K1 : Int → Int → Option Addr → Nat → Nat → Int → Option Addr → Nat → Nat → Int → Int → Mem → Prop) (R : Ending → Mem → Prop) : ACode := (.code (sR (sR (sR (bB (sL (sR (sR (lP (bB (sR (sL (sR (sR (sR (body))))))))))))))))
def l1E (K : Int → Int → Option Addr → Nat → Nat → Int → Option Addr → Nat → Nat → Int → Int → Mem → Prop) : Env → Mem → Prop := fun ρ m => UnI (ρ 1) .i64 fun from_1 => UnI (ρ 2) .i64 fun to_2 => UnS (ρ 7) fun out_7a out_7l out_7c => UnI (ρ 8) .i64 fun at_8 => UnS (ρ 13) fun x13a x13l x13c => UnI (ρ 14) .i64 fun x14 => UnI (ρ 15) .i64 fun x15 => K from_1 to_2 out_7a out_7l out_7c at_8 x13a x13l x13c x14 x15 m
def l1B  (K1 : Int → Int → Option Addr → Nat → Nat → Int → Option Addr → Nat → Nat → Int → Int → Mem → Prop) (from_1 : Int) (to_2 : Int) (out_7a : Option Addr) (out_7l : Nat) (out_7c : Nat) (at_8 : Int) (x13a : Option Addr) (x13l : Nat) (x13c : Nat) (x14 : Int) (x15 : Int) (R : Ending → Mem → Prop) (m : Mem) : Prop :=
  Br (decide (x15 < x14)) (
    IxS x13a x13l x15 3 fun x17b x17o =>
    LdV m x17b x17o fun v =>
    UnB v fun x18_0 =>
    LdV m x17b (x17o + 1) fun v =>
    UnI v .i64 fun x18_1 =>
    LdV m x17b (x17o + 2) fun v =>
    UnI v .i64 fun x18_2 =>
    NewC m #[.bool false, .int .i64 0, .int .i64 0] T_api_Piece fun b_p_10 m1 =>
    St1 m1 b_p_10 0 (.bool x18_0) fun m2 =>
    St1 m2 b_p_10 1 (.int .i64 x18_1) fun m3 =>
    St1 m3 b_p_10 2 (.int .i64 x18_2) fun m4 =>
    LdV m4 b_p_10 0 fun v =>
    UnB v fun x26_0 =>
    LdV m4 b_p_10 1 fun v =>
    UnI v .i64 fun x26_1 =>
    LdV m4 b_p_10 2 fun v =>
    UnI v .i64 fun x26_2 =>
    HC P piece_size.id #[.agg #[.bool x26_0, .int .i64 x26_1, .int .i64 x26_2]] m4 (Cont (fun v m5 =>
        UnI v .i64 fun x27 =>
        Br (decide ((if 0 > (IntKind.i64.wrap (from_1 - at_8)) then 0 else IntKind.i64.wrap (from_1 - at_8)) < (if x27 < (IntKind.i64.wrap (to_2 - at_8)) then x27 else IntKind.i64.wrap (to_2 - at_8)))) (
          LdV m5 b_p_10 0 fun v =>
          UnB v fun x34 =>
          LdV m5 b_p_10 1 fun v =>
          UnI v .i64 fun x36 =>
          LdV m5 b_p_10 1 fun v =>
          UnI v .i64 fun x40 =>
          NewC m5 #[.bool x34, .int .i64 (IntKind.i64.wrap (x36 + (if 0 > (IntKind.i64.wrap (from_1 - at_8)) then 0 else IntKind.i64.wrap (from_1 - at_8)))), .int .i64 (IntKind.i64.wrap (x40 + (if x27 < (IntKind.i64.wrap (to_2 - at_8)) then x27 else IntKind.i64.wrap (to_2 - at_8))))] T_api_Piece fun b44 m6 =>
          BiN P .append #[T_sl_api_Piece, T_sl_api_Piece] T_sl_api_Piece #[false, false] #[.slice out_7a out_7l out_7c, .slice (some ⟨b44, 0, none⟩) 1 1] m6 (fun w m7 =>
            UnS w fun x45a x45l x45c =>
            k2 K1 from_1 to_2 x45a x45l x45c at_8 b_p_10 0 x13a x13l x13c x14 x15 R m7) (panicR R)) (
          k2 K1 from_1 to_2 out_7a out_7l out_7c at_8 b_p_10 0 x13a x13l x13c x14 x15 R m5)) (panicR R))) (
    R (.returned (.slice out_7a out_7l out_7c)) m)
def l1  (from_1 : Int) (to_2 : Int) (out_7a : Option Addr) (out_7l : Nat) (out_7c : Nat) (at_8 : Int) (x13a : Option Addr) (x13l : Nat) (x13c : Nat) (x14 : Int) (x15 : Int) (R : Ending → Mem → Prop) (m : Mem) : Prop :=
  ∃ (I : Nat → Int → Int → Option Addr → Nat → Nat → Int → Option Addr → Nat → Nat → Int → Int → Mem → Prop) (N : Nat), I N from_1 to_2 out_7a out_7l out_7c at_8 x13a x13l x13c x14 x15 m ∧ ∀ N from_1 to_2 out_7a out_7l out_7c at_8 x13a x13l x13c x14 x15 m, I N from_1 to_2 out_7a out_7l out_7c at_8 x13a x13l x13c x14 x15 m → l1B  (fun from_1 to_2 out_7a out_7l out_7c at_8 x13a x13l x13c x14 x15 m => ∃ N1, N1 < N ∧ I N1 from_1 to_2 out_7a out_7l out_7c at_8 x13a x13l x13c x14 x15 m) from_1 to_2 out_7a out_7l out_7c at_8 x13a x13l x13c x14 x15 R m
noncomputable def l1A  (K1 : Int → Int → Option Addr → Nat → Nat → Int → Option Addr → Nat → Nat → Int → Int → Mem → Prop) (R : Ending → Mem → Prop) : ACode := (.seq (.code (sL (lP (bB (sR (sL (sR (sR (sR (body)))))))))) (.seq (.code (sL (sR (lP (bB (sR (sL (sR (sR (sR (body))))))))))) (.seq (.block 1 (.seq (.code (sL (bB (sL (sR (sR (lP (bB (sR (sL (sR (sR (sR (body)))))))))))))) (.seq (.code (sL (sR (bB (sL (sR (sR (lP (bB (sR (sL (sR (sR (sR (body))))))))))))))) (.seq (.code (sL (sR (sR (bB (sL (sR (sR (lP (bB (sR (sL (sR (sR (sR (body)))))))))))))))) (.cut (k2E fun from_1 to_2 out_7a out_7l out_7c at_8 p_10b p_10o x13a x13l x13c x14 x15 m => k2 K1 from_1 to_2 out_7a out_7l out_7c at_8 p_10b p_10o x13a x13l x13c x14 x15 R m) (sR (sR (sR (bB (sL (sR (sR (lP (bB (sR (sL (sR (sR (sR (body)))))))))))))))))))) (.code (sR (sR (sR (lP (bB (sR (sL (sR (sR (sR (body)))))))))))))))
def e0 (l_0a : Option Addr) (l_0l : Nat) (l_0c : Nat) (from_1 : Int) (to_2 : Int) (R : Ending → Mem → Prop) (m : Mem) : Prop :=
  l1  from_1 to_2 none 0 0 0 l_0a l_0l l_0c ((l_0l : Nat) : Int) 0 R m
noncomputable def e0A (R : Ending → Mem → Prop) : ACode := (.seq (.code (sL (body))) (.seq (.code (sL (sR (body)))) (.seq (.code (sL (sR (sR (body))))) (.seq (.seq (.code (sL (sL (sR (sR (sR (body))))))) (.block 0 (.cut (l1E fun from_1 to_2 out_7a out_7l out_7c at_8 x13a x13l x13c x14 x15 m => l1  from_1 to_2 out_7a out_7l out_7c at_8 x13a x13l x13c x14 x15 R m) (.loop (lP (bB (sR (sL (sR (sR (sR (body)))))))))))) (.code (sR (sR (sR (sR (body))))))))))
theorem k2_eq (K1 : Int → Int → Option Addr → Nat → Nat → Int → Option Addr → Nat → Nat → Int → Int → Mem → Prop) (R : Ending → Mem → Prop) (from_1 : Int) (to_2 : Int) (out_7a : Option Addr) (out_7l : Nat) (out_7c : Nat) (at_8 : Int) (p_10b : Nat) (p_10o : Nat) (x13a : Option Addr) (x13l : Nat) (x13c : Nat) (x14 : Int) (x15 : Int) (ρ : Env) (m : Mem) : k2 K1 from_1 to_2 out_7a out_7l out_7c at_8 p_10b p_10o x13a x13l x13c x14 x15 R m = acpt P od (panicR R) (k2A K1 R) (blockQ 1 (thenQ (acpt P od (panicR R) (.code (sR (sR (sR (lP (bB (sR (sL (sR (sR (sR (body)))))))))))) (thenQ (l1E K1) (blockQ 0 (thenQ (acpt P od (panicR R) (.code (sR (sR (sR (sR (body)))))) (bodyQ P fn R)) (bodyQ P fn R))))) (thenQ (l1E K1) (blockQ 0 (thenQ (acpt P od (panicR R) (.code (sR (sR (sR (sR (body)))))) (bodyQ P fn R)) (bodyQ P fn R)))))) (upd (upd (upd (upd (upd (upd (upd (upd ρ 15 (.int .i64 x15)) 14 (.int .i64 x14)) 13 (.slice x13a x13l x13c)) 10 (.pointer (some ⟨p_10b, p_10o, none⟩))) 8 (.int .i64 at_8)) 7 (.slice out_7a out_7l out_7c)) 2 (.int .i64 to_2)) 1 (.int .i64 from_1)) m := by kernel_rfl
theorem k2_er (K1 : Int → Int → Option Addr → Nat → Nat → Int → Option Addr → Nat → Nat → Int → Int → Mem → Prop) (R : Ending → Mem → Prop) : (k2A K1 R).erase = sR (sR (sR (bB (sL (sR (sR (lP (bB (sR (sL (sR (sR (sR (body)))))))))))))) := by kernel_rfl
theorem k2_ok (K1 : Int → Int → Option Addr → Nat → Nat → Int → Option Addr → Nat → Nat → Int → Int → Mem → Prop) (R : Ending → Mem → Prop) (ρ : Env) (m : Mem) (h : (k2E fun from_1 to_2 out_7a out_7l out_7c at_8 p_10b p_10o x13a x13l x13c x14 x15 m => k2 K1 from_1 to_2 out_7a out_7l out_7c at_8 p_10b p_10o x13a x13l x13c x14 x15 R m) ρ m) : cpt P od (panicR R) (sR (sR (sR (bB (sL (sR (sR (lP (bB (sR (sL (sR (sR (sR (body))))))))))))))) (blockQ 1 (thenQ (acpt P od (panicR R) (.code (sR (sR (sR (lP (bB (sR (sL (sR (sR (sR (body)))))))))))) (thenQ (l1E K1) (blockQ 0 (thenQ (acpt P od (panicR R) (.code (sR (sR (sR (sR (body)))))) (bodyQ P fn R)) (bodyQ P fn R))))) (thenQ (l1E K1) (blockQ 0 (thenQ (acpt P od (panicR R) (.code (sR (sR (sR (sR (body)))))) (bodyQ P fn R)) (bodyQ P fn R)))))) ρ m := by
  unfold k2E at h
  obtain ⟨from_1, e1, h⟩ := h.ex
  obtain ⟨to_2, e2, h⟩ := h.ex
  obtain ⟨out_7a, out_7l, out_7c, e7, h⟩ := h.ex
  obtain ⟨at_8, e8, h⟩ := h.ex
  obtain ⟨p_10b, p_10o, e10, h⟩ := h.ex
  obtain ⟨x13a, x13l, x13c, e13, h⟩ := h.ex
  obtain ⟨x14, e14, h⟩ := h.ex
  obtain ⟨x15, e15, h⟩ := h.ex
  rw [← upd_self e1, ← upd_self e2, ← upd_self e7, ← upd_self e8, ← upd_self e10, ← upd_self e13, ← upd_self e14, ← upd_self e15]
  rw [← k2_er K1 R]
  refine acpt_sound (P := P) (k2A K1 R) _ _ _ True.intro ?_
  exact Eq.mp (k2_eq K1 R from_1 to_2 out_7a out_7l out_7c at_8 p_10b p_10o x13a x13l x13c x14 x15 ρ m) h
theorem l1_eq  (K1 : Int → Int → Option Addr → Nat → Nat → Int → Option Addr → Nat → Nat → Int → Int → Mem → Prop) (R : Ending → Mem → Prop) (from_1 : Int) (to_2 : Int) (out_7a : Option Addr) (out_7l : Nat) (out_7c : Nat) (at_8 : Int) (x13a : Option Addr) (x13l : Nat) (x13c : Nat) (x14 : Int) (x15 : Int) (ρ : Env) (m : Mem) : l1B  K1 from_1 to_2 out_7a out_7l out_7c at_8 x13a x13l x13c x14 x15 R m = acpt P od (panicR R) (l1A  K1 R) (thenQ (l1E K1) (blockQ 0 (thenQ (acpt P od (panicR R) (.code (sR (sR (sR (sR (body)))))) (bodyQ P fn R)) (bodyQ P fn R)))) (upd (upd (upd (upd (upd (upd (upd ρ 15 (.int .i64 x15)) 14 (.int .i64 x14)) 13 (.slice x13a x13l x13c)) 8 (.int .i64 at_8)) 7 (.slice out_7a out_7l out_7c)) 2 (.int .i64 to_2)) 1 (.int .i64 from_1)) m := by kernel_rfl
theorem l1_er  (K1 : Int → Int → Option Addr → Nat → Nat → Int → Option Addr → Nat → Nat → Int → Int → Mem → Prop) (R : Ending → Mem → Prop) : (l1A  K1 R).erase = lP (bB (sR (sL (sR (sR (sR (body))))))) := by kernel_rfl
theorem l1_ok  (R : Ending → Mem → Prop) (ρ : Env) (m : Mem) (h : (l1E fun from_1 to_2 out_7a out_7l out_7c at_8 x13a x13l x13c x14 x15 m => l1  from_1 to_2 out_7a out_7l out_7c at_8 x13a x13l x13c x14 x15 R m) ρ m) : cpt P od (panicR R) (.loop (lP (bB (sR (sL (sR (sR (sR (body))))))))) (blockQ 0 (thenQ (acpt P od (panicR R) (.code (sR (sR (sR (sR (body)))))) (bodyQ P fn R)) (bodyQ P fn R))) ρ m := by
  unfold l1E at h
  obtain ⟨from_1, e1, h⟩ := h.ex
  obtain ⟨to_2, e2, h⟩ := h.ex
  obtain ⟨out_7a, out_7l, out_7c, e7, h⟩ := h.ex
  obtain ⟨at_8, e8, h⟩ := h.ex
  obtain ⟨x13a, x13l, x13c, e13, h⟩ := h.ex
  obtain ⟨x14, e14, h⟩ := h.ex
  obtain ⟨x15, e15, h⟩ := h.ex
  obtain ⟨I, N, h0, hs⟩ := h
  refine ⟨fun N => l1E (I N), N, (by show l1E (I N) ρ m; unfold l1E; rw [e1, e2, e7, e8, e13, e14, e15]; exact h0), ?_⟩
  clear h0 e1 e2 e7 e8 e13 e14 e15
  intro N ρ m h
  unfold l1E at h
  obtain ⟨from_1, e1, h⟩ := h.ex
  obtain ⟨to_2, e2, h⟩ := h.ex
  obtain ⟨out_7a, out_7l, out_7c, e7, h⟩ := h.ex
  obtain ⟨at_8, e8, h⟩ := h.ex
  obtain ⟨x13a, x13l, x13c, e13, h⟩ := h.ex
  obtain ⟨x14, e14, h⟩ := h.ex
  obtain ⟨x15, e15, h⟩ := h.ex
  refine cpt_mono (P := P) (lP (bB (sR (sL (sR (sR (sR (body)))))))) (Q := thenQ (l1E fun from_1 to_2 out_7a out_7l out_7c at_8 x13a x13l x13c x14 x15 m => ∃ N1, N1 < N ∧ I N1 from_1 to_2 out_7a out_7l out_7c at_8 x13a x13l x13c x14 x15 m) (blockQ 0 (thenQ (acpt P od (panicR R) (.code (sR (sR (sR (sR (body)))))) (bodyQ P fn R)) (bodyQ P fn R)))) (fun e ρ m h => ?_) ρ m ?_
  · cases e with
    | normal =>
      have h : l1E (fun from_1 to_2 out_7a out_7l out_7c at_8 x13a x13l x13c x14 x15 m => ∃ N1, N1 < N ∧ I N1 from_1 to_2 out_7a out_7l out_7c at_8 x13a x13l x13c x14 x15 m) ρ m := h
      unfold l1E at h
      obtain ⟨from_1, e1, h⟩ := h.ex
      obtain ⟨to_2, e2, h⟩ := h.ex
      obtain ⟨out_7a, out_7l, out_7c, e7, h⟩ := h.ex
      obtain ⟨at_8, e8, h⟩ := h.ex
      obtain ⟨x13a, x13l, x13c, e13, h⟩ := h.ex
      obtain ⟨x14, e14, h⟩ := h.ex
      obtain ⟨x15, e15, h⟩ := h.ex
      obtain ⟨N1, hlt, h⟩ := h
      exact ⟨N1, hlt, (by show l1E (I N1) ρ m; unfold l1E; rw [e1, e2, e7, e8, e13, e14, e15]; exact h)⟩
    | _ => exact h
  have hh := hs N from_1 to_2 out_7a out_7l out_7c at_8 x13a x13l x13c x14 x15 m h
  generalize (fun from_1 to_2 out_7a out_7l out_7c at_8 x13a x13l x13c x14 x15 m => ∃ N1, N1 < N ∧ I N1 from_1 to_2 out_7a out_7l out_7c at_8 x13a x13l x13c x14 x15 m : Int → Int → Option Addr → Nat → Nat → Int → Option Addr → Nat → Nat → Int → Int → Mem → Prop) = K1 at hh ⊢
  rw [← upd_self e1, ← upd_self e2, ← upd_self e7, ← upd_self e8, ← upd_self e13, ← upd_self e14, ← upd_self e15]
  rw [← l1_er  K1 R]
  refine acpt_sound (P := P) (l1A  K1 R) _ _ _ ⟨⟨⟨True.intro, ⟨⟨⟨(fun ρ m h => k2_ok K1 R ρ m h), True.intro⟩, True.intro⟩, True.intro⟩⟩, True.intro⟩, True.intro⟩ ?_
  exact Eq.mp (l1_eq  K1 R from_1 to_2 out_7a out_7l out_7c at_8 x13a x13l x13c x14 x15 ρ m) hh
theorem e0_eq (l_0a : Option Addr) (l_0l : Nat) (l_0c : Nat) (from_1 : Int) (to_2 : Int) (R : Ending → Mem → Prop) (m : Mem) : e0 l_0a l_0l l_0c from_1 to_2 R m = acpt P od (panicR R) (e0A R) (bodyQ P fn R) (argE (#[.slice l_0a l_0l l_0c, .int .i64 from_1, .int .i64 to_2] : Array Value).toList) m := by kernel_rfl
theorem ok (l_0a : Option Addr) (l_0l : Nat) (l_0c : Nat) (from_1 : Int) (to_2 : Int) (R : Ending → Mem → Prop) (m : Mem) (h : e0 l_0a l_0l l_0c from_1 to_2 R m) : HC P id #[.slice l_0a l_0l l_0c, .int .i64 from_1, .int .i64 to_2] m R := by
  refine HC_of (fn := fn) (c := body) (od := od) (tb := tb) Go.Proofs.Try.func27 (by kernel_rfl) (by kernel_rfl) follows (by kernel_rfl) (of_decide_eq_true (by kernel_rfl)) ?_
  have he : (e0A R).erase = body := by kernel_rfl
  rw [← he]
  refine acpt_sound (P := P) (e0A R) _ _ _ ⟨⟨⟨⟨True.intro, ⟨(fun ρ m h => l1_ok  R ρ m h), True.intro⟩⟩, True.intro⟩, True.intro⟩, True.intro⟩ ?_
  exact Eq.mp (e0_eq l_0a l_0l l_0c from_1 to_2 R m) h
end piece_cut

/-! ### eyot/piece.joined -/
namespace piece_joined
noncomputable def fn : Func := Go.Proofs.Try.f28
noncomputable def body : Code := fn.body.getD .skip
def od : Nat → Ord := fun | 6 => ordL [(0, 3), (1, 3), (2, 3), (3, 3), (4, 3), (5, 3), (6, 3), (7, 1), (8, 3), (9, 0), (10, 3), (11, 3), (12, 3), (13, 3), (14, 3), (15, 3), (16, 3), (17, 1), (18, 3), (19, 0), (20, 3), (21, 3)] .done | _ => .done
def tb : Nat → Tab := fun | 6 => (0, [0, 1, 3, 7, 7, 31, 63, 127, 7, 263, 1023, 2047, 4095, 8191, 8191, 32767, 65535, 131071, 8191, 270335, 1048575, 2097151], [(0, 64, 17), (1, 65536, 18), (2, 131072, 19), (4, 262152, 20), (4, 262208, 21), (28, 1835008, 22), (36, 2359296, 23), (68, 4456448, 24), (4, 262176, 25), (260, 17039360, 26), (644, 42205184, 27), (1028, 67371008, 28), (2052, 134217728, 29), (4096, 268435464, 30), (4096, 268435520, 31), (28672, 1879048192, 32), (36864, 2415919104, 33), (69632, 4563402752, 34), (4096, 268435488, 35), (266240, 17448304640, 36), (659456, 43218108416, 37), (1052672, 68987912192, 38)]) | _ => (0, [], [])
def k3E (K : Option Addr → Nat → Nat → Nat → Nat → Option Addr → Nat → Nat → Int → Int → Mem → Prop) : Env → Mem → Prop := fun ρ m => UnS (ρ 3) fun out_3a out_3l out_3c => UnPA (ρ 5) fun p_5b p_5o => UnS (ρ 7) fun x7a x7l x7c => UnI (ρ 8) .i64 fun x8 => UnI (ρ 9) .i64 fun x9 => K out_3a out_3l out_3c p_5b p_5o x7a x7l x7c x8 x9 m
def k3 (K1 : Option Addr → Nat → Nat → Option Addr → Nat → Nat → Int → Int → Mem → Prop) (out_3a : Option Addr) (out_3l : Nat) (out_3c : Nat) (p_5b : Nat) (p_5o : Nat) (x7a : Option Addr) (x7l : Nat) (x7c : Nat) (x8 : Int) (x9 : Int) (R : Ending → Mem → Prop) (m : Mem) : Prop :=
  LdV m p_5b p_5o fun v =>
  UnB v fun x45_0 =>
  LdV m p_5b (p_5o + 1) fun v =>
  UnI v .i64 fun x45_1 =>
  LdV m p_5b (p_5o + 2) fun v =>
  UnI v .i64 fun x45_2 =>
  NewC m #[.bool x45_0, .int .i64 x45_1, .int .i64 x45_2] T_api_Piece fun b46 m1 =>
  BiN P .append #[T_sl_api_Piece, T_sl_api_Piece] T_sl_api_Piece #[false, false] #[.slice out_3a out_3l out_3c, .slice (some ⟨b46, 0, none⟩) 1 1] m1 (fun w m2 =>
    UnS w fun x47a x47l x47c =>
    K1 x47a x47l x47c x7a x7l x7c x8 (IntKind.i64.wrap (x9 + 1)) m2) (panicR R)
noncomputable def k3A (K1 : Option Addr → Nat → Nat → Option Addr → Nat → Nat → Int → Int → Mem → Prop) (R : Ending → Mem → Prop) : ACode := (.code (sR (sR (bB (sL (sR (sR (lP (bB (sR (sL (sR (sR (body))))))))))))))
def k2E (K : Option Addr → Nat → Nat → Nat → Nat → Int → Option Addr → Nat → Nat → Int → Int → Bool → Mem → Prop) : Env → Mem → Prop := fun ρ m => UnS (ρ 3) fun out_3a out_3l out_3c => UnPA (ρ 5) fun p_5b p_5o => UnI (ρ 6) .i64 fun k_6 => UnS (ρ 7) fun x7a x7l x7c => UnI (ρ 8) .i64 fun x8 => UnI (ρ 9) .i64 fun x9 => UnB (ρ 37) fun x37 => K out_3a out_3l out_3c p_5b p_5o k_6 x7a x7l x7c x8 x9 x37 m
def k2 (K1 : Option Addr → Nat → Nat → Option Addr → Nat → Nat → Int → Int → Mem → Prop) (out_3a : Option Addr) (out_3l : Nat) (out_3c : Nat) (p_5b : Nat) (p_5o : Nat) (k_6 : Int) (x7a : Option Addr) (x7l : Nat) (x7c : Nat) (x8 : Int) (x9 : Int) (x37 : Bool) (R : Ending → Mem → Prop) (m : Mem) : Prop :=
  Br x37 (
    LdV m p_5b (p_5o + 2) fun v =>
    UnI v .i64 fun x41 =>
    IxS out_3a out_3l k_6 3 fun x42b x42o =>
    St1 m x42b (x42o + 2) (.int .i64 x41) fun m1 =>
    K1 out_3a out_3l out_3c x7a x7l x7c x8 (IntKind.i64.wrap (x9 + 1)) m1) (
    k3 K1 out_3a out_3l out_3c p_5b p_5o x7a x7l x7c x8 x9 R m)
noncomputable def k2A (K1 : Option Addr → Nat → Nat → Option Addr → Nat → Nat → Int → Int → Mem → Prop) (R : Ending → Mem → Prop) : ACode := (.code (sR (sR (sL (sR (bB (sL (sR (sR (lP (bB (sR (sL (sR (sR (body))))))))))))))))
def l1E (K : Option Addr → Nat → Nat → Option Addr → Nat → Nat → Int → Int → Mem → Prop) : Env → Mem → Prop := fun ρ m => UnS (ρ 3) fun out_3a out_3l out_3c => UnS (ρ 7) fun x7a x7l x7c => UnI (ρ 8) .i64 fun x8 => UnI (ρ 9) .i64 fun x9 => K out_3a out_3l out_3c x7a x7l x7c x8 x9 m
def l1B  (K1 : Option Addr → Nat → Nat → Option Addr → Nat → Nat → Int → Int → Mem → Prop) (out_3a : Option Addr) (out_3l : Nat) (out_3c : Nat) (x7a : Option Addr) (x7l : Nat) (x7c : Nat) (x8 : Int) (x9 : Int) (R : Ending → Mem → Prop) (m : Mem) : Prop :=
  Br (decide (x9 < x8)) (
    IxS x7a x7l x9 3 fun x11b x11o =>
    LdV m x11b x11o fun v =>
    UnB v fun x12_0 =>
    LdV m x11b (x11o + 1) fun v =>
    UnI v .i64 fun x12_1 =>
    LdV m x11b (x11o + 2) fun v =>
    UnI v .i64 fun x12_2 =>
    NewC m #[.bool false, .int .i64 0, .int .i64 0] T_api_Piece fun b_p_5 m1 =>
    St1 m1 b_p_5 0 (.bool x12_0) fun m2 =>
    St1 m2 b_p_5 1 (.int .i64 x12_1) fun m3 =>
    St1 m3 b_p_5 2 (.int .i64 x12_2) fun m4 =>
    Sub m4 fun r5 =>
    Br (decide ((IntKind.i64.wrap (((out_3l : Nat) : Int) - 1)) ≥ 0)) (
      IxS out_3a out_3l (IntKind.i64.wrap (((out_3l : Nat) : Int) - 1)) 3 fun x21b x21o =>
      LdV r5 x21b x21o fun v =>
      UnB v fun x23 =>
      LdV m4 b_p_5 0 fun v =>
      UnB v fun x25 =>
      Br (x23 == x25) (
        IxS out_3a out_3l (IntKind.i64.wrap (((out_3l : Nat) : Int) - 1)) 3 fun x31b x31o =>
        LdV r5 x31b (x31o + 2) fun v =>
        UnI v .i64 fun x33 =>
        LdV m4 b_p_5 1 fun v =>
        UnI v .i64 fun x35 =>
        k2 K1 out_3a out_3l out_3c b_p_5 0 (IntKind.i64.wrap (((out_3l : Nat) : Int) - 1)) x7a x7l x7c x8 x9 (x33 == x35) R m4) (
        k2 K1 out_3a out_3l out_3c b_p_5 0 (IntKind.i64.wrap (((out_3l : Nat) : Int) - 1)) x7a x7l x7c x8 x9 false R m4)) (
      k2 K1 out_3a out_3l out_3c b_p_5 0 (IntKind.i64.wrap (((out_3l : Nat) : Int) - 1)) x7a x7l x7c x8 x9 false R m4)) (
    R (.returned (.slice out_3a out_3l out_3c)) m)
def l1  (out_3a : Option Addr) (out_3l : Nat) (out_3c : Nat) (x7a : Option Addr) (x7l : Nat) (x7c : Nat) (x8 : Int) (x9 : Int) (R : Ending → Mem → Prop) (m : Mem) : Prop :=
  ∃ (I : Nat → Option Addr → Nat → Nat → Option Addr → Nat → Nat → Int → Int → Mem → Prop) (N : Nat), I N out_3a out_3l out_3c x7a x7l x7c x8 x9 m ∧ ∀ N out_3a out_3l out_3c x7a x7l x7c x8 x9 m, I N out_3a out_3l out_3c x7a x7l x7c x8 x9 m → l1B  (fun out_3a out_3l out_3c x7a x7l x7c x8 x9 m => ∃ N1, N1 < N ∧ I N1 out_3a out_3l out_3c x7a x7l x7c x8 x9 m) out_3a out_3l out_3c x7a x7l x7c x8 x9 R m
noncomputable def l1A  (K1 : Option Addr → Nat → Nat → Option Addr → Nat → Nat → Int → Int → Mem → Prop) (R : Ending → Mem → Prop) : ACode := (.seq (.code (sL (lP (bB (sR (sL (sR (sR (body))))))))) (.seq (.code (sL (sR (lP (bB (sR (sL (sR (sR (body)))))))))) (.seq (.block 1 (.seq (.code (sL (bB (sL (sR (sR (lP (bB (sR (sL (sR (sR (body))))))))))))) (.seq (.seq (.code (sL (sL (sR (bB (sL (sR (sR (lP (bB (sR (sL (sR (sR (body))))))))))))))) (.seq (.code (sL (sR (sL (sR (bB (sL (sR (sR (lP (bB (sR (sL (sR (sR (body)))))))))))))))) (.cut (k2E fun out_3a out_3l out_3c p_5b p_5o k_6 x7a x7l x7c x8 x9 x37 m => k2 K1 out_3a out_3l out_3c p_5b p_5o k_6 x7a x7l x7c x8 x9 x37 R m) (sR (sR (sL (sR (bB (sL (sR (sR (lP (bB (sR (sL (sR (sR (body)))))))))))))))))) (.cut (k3E fun out_3a out_3l out_3c p_5b p_5o x7a x7l x7c x8 x9 m => k3 K1 out_3a out_3l out_3c p_5b p_5o x7a x7l x7c x8 x9 R m) (sR (sR (bB (sL (sR (sR (lP (bB (sR (sL (sR (sR (body))))))))))))))))) (.code (sR (sR (sR (lP (bB (sR (sL (sR (sR (body))))))))))))))
def e0 (l_0a : Option Addr) (l_0l : Nat) (l_0c : Nat) (R : Ending → Mem → Prop) (m : Mem) : Prop :=
  l1  none 0 0 l_0a l_0l l_0c ((l_0l : Nat) : Int) 0 R m
noncomputable def e0A (R : Ending → Mem → Prop) : ACode := (.seq (.code (sL (body))) (.seq (.code (sL (sR (body)))) (.seq (.seq (.code (sL (sL (sR (sR (body)))))) (.block 0 (.cut (l1E fun out_3a out_3l out_3c x7a x7l x7c x8 x9 m => l1  out_3a out_3l out_3c x7a x7l x7c x8 x9 R m) (.loop (lP (bB (sR (sL (sR (sR (body))))))))))) (.code (sR (sR (sR (body))))))))
theorem k3_eq (K1 : Option Addr → Nat → Nat → Option Addr → Nat → Nat → Int → Int → Mem → Prop) (R : Ending → Mem → Prop) (out_3a : Option Addr) (out_3l : Nat) (out_3c : Nat) (p_5b : Nat) (p_5o : Nat) (x7a : Option Addr) (x7l : Nat) (x7c : Nat) (x8 : Int) (x9 : Int) (ρ : Env) (m : Mem) : k3 K1 out_3a out_3l out_3c p_5b p_5o x7a x7l x7c x8 x9 R m = acpt P od (panicR R) (k3A K1 R) (blockQ 1 (thenQ (acpt P od (panicR R) (.code (sR (sR (sR (lP (bB (sR (sL (sR (sR (body))))))))))) (thenQ (l1E K1) (blockQ 0 (thenQ (acpt P od (panicR R) (.code (sR (sR (sR (body))))) (bodyQ P fn R)) (bodyQ P fn R))))) (thenQ (l1E K1) (blockQ 0 (thenQ (acpt P od (panicR R) (.code (sR (sR (sR (body))))) (bodyQ P fn R)) (bodyQ P fn R)))))) (upd (upd (upd (upd (upd ρ 9 (.int .i64 x9)) 8 (.int .i64 x8)) 7 (.slice x7a x7l x7c)) 5 (.pointer (some ⟨p_5b, p_5o, none⟩))) 3 (.slice out_3a out_3l out_3c)) m := by kernel_rfl
theorem k3_er (K1 : Option Addr → Nat → Nat → Option Addr → Nat → Nat → Int → Int → Mem → Prop) (R : Ending → Mem → Prop) : (k3A K1 R).erase = sR (sR (bB (sL (sR (sR (lP (bB (sR (sL (sR (sR (body)))))))))))) := by kernel_rfl
theorem k3_ok (K1 : Option Addr → Nat → Nat → Option Addr → Nat → Nat → Int → Int → Mem → Prop) (R : Ending → Mem → Prop) (ρ : Env) (m : Mem) (h : (k3E fun out_3a out_3l out_3c p_5b p_5o x7a x7l x7c x8 x9 m => k3 K1 out_3a out_3l out_3c p_5b p_5o x7a x7l x7c x8 x9 R m) ρ m) : cpt P od (panicR R) (sR (sR (bB (sL (sR (sR (lP (bB (sR (sL (sR (sR (body))))))))))))) (blockQ 1 (thenQ (acpt P od (panicR R) (.code (sR (sR (sR (lP (bB (sR (sL (sR (sR (body))))))))))) (thenQ (l1E K1) (blockQ 0 (thenQ (acpt P od (panicR R) (.code (sR (sR (sR (body))))) (bodyQ P fn R)) (bodyQ P fn R))))) (thenQ (l1E K1) (blockQ 0 (thenQ (acpt P od (panicR R) (.code (sR (sR (sR (body))))) (bodyQ P fn R)) (bodyQ P fn R)))))) ρ m := by
  unfold k3E at h
  obtain ⟨out_3a, out_3l, out_3c, e3, h⟩ := h.ex
  obtain ⟨p_5b, p_5o, e5, h⟩ := h.ex
  obtain ⟨x7a, x7l, x7c, e7, h⟩ := h.ex
  obtain ⟨x8, e8, h⟩ := h.ex
  obtain ⟨x9, e9, h⟩ := h.ex
  rw [← upd_self e3, ← upd_self e5, ← upd_self e7, ← upd_self e8, ← upd_self e9]
  rw [← k3_er K1 R]
  refine acpt_sound (P := P) (k3A K1 R) _ _ _ True.intro ?_
  exact Eq.mp (k3_eq K1 R out_3a out_3l out_3c p_5b p_5o x7a x7l x7c x8 x9 ρ m) h
theorem k2_eq (K1 : Option Addr → Nat → Nat → Option Addr → Nat → Nat → Int → Int → Mem → Prop) (R : Ending → Mem → Prop) (out_3a : Option Addr) (out_3l : Nat) (out_3c : Nat) (p_5b : Nat) (p_5o : Nat) (k_6 : Int) (x7a : Option Addr) (x7l : Nat) (x7c : Nat) (x8 : Int) (x9 : Int) (x37 : Bool) (ρ : Env) (m : Mem) : k2 K1 out_3a out_3l out_3c p_5b p_5o k_6 x7a x7l x7c x8 x9 x37 R m = acpt P od (panicR R) (k2A K1 R) (thenQ (acpt P od (panicR R) (.cut (k3E fun out_3a out_3l out_3c p_5b p_5o x7a x7l x7c x8 x9 m => k3 K1 out_3a out_3l out_3c p_5b p_5o x7a x7l x7c x8 x9 R m) (sR (sR (bB (sL (sR (sR (lP (bB (sR (sL (sR (sR (body)))))))))))))) (blockQ 1 (thenQ (acpt P od (panicR R) (.code (sR (sR (sR (lP (bB (sR (sL (sR (sR (body))))))))))) (thenQ (l1E K1) (blockQ 0 (thenQ (acpt P od (panicR R) (.code (sR (sR (sR (body))))) (bodyQ P fn R)) (bodyQ P fn R))))) (thenQ (l1E K1) (blockQ 0 (thenQ (acpt P od (panicR R) (.code (sR (sR (sR (body))))) (bodyQ P fn R)) (bodyQ P fn R))))))) (blockQ 1 (thenQ (acpt P od (panicR R) (.code (sR (sR (sR (lP (bB (sR (sL (sR (sR (body))))))))))) (thenQ (l1E K1) (blockQ 0 (thenQ (acpt P od (panicR R) (.code (sR (sR (sR (body))))) (bodyQ P fn R)) (bodyQ P fn R))))) (thenQ (l1E K1) (blockQ 0 (thenQ (acpt P od (panicR R) (.code (sR (sR (sR (body))))) (bodyQ P fn R)) (bodyQ P fn R))))))) (upd (upd (upd (upd (upd (upd (upd ρ 37 (.bool x37)) 9 (.int .i64 x9)) 8 (.int .i64 x8)) 7 (.slice x7a x7l x7c)) 6 (.int .i64 k_6)) 5 (.pointer (some ⟨p_5b, p_5o, none⟩))) 3 (.slice out_3a out_3l out_3c)) m := by kernel_rfl
theorem k2_er (K1 : Option Addr → Nat → Nat → Option Addr → Nat → Nat → Int → Int → Mem → Prop) (R : Ending → Mem → Prop) : (k2A K1 R).erase = sR (sR (sL (sR (bB (sL (sR (sR (lP (bB (sR (sL (sR (sR (body)))))))))))))) := by kernel_rfl
theorem k2_ok (K1 : Option Addr → Nat → Nat → Option Addr → Nat → Nat → Int → Int → Mem → Prop) (R : Ending → Mem → Prop) (ρ : Env) (m : Mem) (h : (k2E fun out_3a out_3l out_3c p_5b p_5o k_6 x7a x7l x7c x8 x9 x37 m => k2 K1 out_3a out_3l out_3c p_5b p_5o k_6 x7a x7l x7c x8 x9 x37 R m) ρ m) : cpt P od (panicR R) (sR (sR (sL (sR (bB (sL (sR (sR (lP (bB (sR (sL (sR (sR (body))))))))))))))) (thenQ (acpt P od (panicR R) (.cut (k3E fun out_3a out_3l out_3c p_5b p_5o x7a x7l x7c x8 x9 m => k3 K1 out_3a out_3l out_3c p_5b p_5o x7a x7l x7c x8 x9 R m) (sR (sR (bB (sL (sR (sR (lP (bB (sR (sL (sR (sR (body)))))))))))))) (blockQ 1 (thenQ (acpt P od (panicR R) (.code (sR (sR (sR (lP (bB (sR (sL (sR (sR (body))))))))))) (thenQ (l1E K1) (blockQ 0 (thenQ (acpt P od (panicR R) (.code (sR (sR (sR (body))))) (bodyQ P fn R)) (bodyQ P fn R))))) (thenQ (l1E K1) (blockQ 0 (thenQ (acpt P od (panicR R) (.code (sR (sR (sR (body))))) (bodyQ P fn R)) (bodyQ P fn R))))))) (blockQ 1 (thenQ (acpt P od (panicR R) (.code (sR (sR (sR (lP (bB (sR (sL (sR (sR (body))))))))))) (thenQ (l1E K1) (blockQ 0 (thenQ (acpt P od (panicR R) (.code (sR (sR (sR (body))))) (bodyQ P fn R)) (bodyQ P fn R))))) (thenQ (l1E K1) (blockQ 0 (thenQ (acpt P od (panicR R) (.code (sR (sR (sR (body))))) (bodyQ P fn R)) (bodyQ P fn R))))))) ρ m := by
  unfold k2E at h
  obtain ⟨out_3a, out_3l, out_3c, e3, h⟩ := h.ex
  obtain ⟨p_5b, p_5o, e5, h⟩ := h.ex
  obtain ⟨k_6, e6, h⟩ := h.ex
  obtain ⟨x7a, x7l, x7c, e7, h⟩ := h.ex
  obtain ⟨x8, e8, h⟩ := h.ex
  obtain ⟨x9, e9, h⟩ := h.ex
  obtain ⟨x37, e37, h⟩ := h.ex
  rw [← upd_self e3, ← upd_self e5, ← upd_self e6, ← upd_self e7, ← upd_self e8, ← upd_self e9, ← upd_self e37]
  rw [← k2_er K1 R]
  refine acpt_sound (P := P) (k2A K1 R) _ _ _ True.intro ?_
  exact Eq.mp (k2_eq K1 R out_3a out_3l out_3c p_5b p_5o k_6 x7a x7l x7c x8 x9 x37 ρ m) h
theorem l1_eq  (K1 : Option Addr → Nat → Nat → Option Addr → Nat → Nat → Int → Int → Mem → Prop) (R : Ending → Mem → Prop) (out_3a : Option Addr) (out_3l : Nat) (out_3c : Nat) (x7a : Option Addr) (x7l : Nat) (x7c : Nat) (x8 : Int) (x9 : Int) (ρ : Env) (m : Mem) : l1B  K1 out_3a out_3l out_3c x7a x7l x7c x8 x9 R m = acpt P od (panicR R) (l1A  K1 R) (thenQ (l1E K1) (blockQ 0 (thenQ (acpt P od (panicR R) (.code (sR (sR (sR (body))))) (bodyQ P fn R)) (bodyQ P fn R)))) (upd (upd (upd (upd ρ 9 (.int .i64 x9)) 8 (.int .i64 x8)) 7 (.slice x7a x7l x7c)) 3 (.slice out_3a out_3l out_3c)) m := by kernel_rfl
theorem l1_er  (K1 : Option Addr → Nat → Nat → Option Addr → Nat → Nat → Int → Int → Mem → Prop) (R : Ending → Mem → Prop) : (l1A  K1 R).erase = lP (bB (sR (sL (sR (sR (body)))))) := by kernel_rfl
theorem l1_ok  (R : Ending → Mem → Prop) (ρ : Env) (m : Mem) (h : (l1E fun out_3a out_3l out_3c x7a x7l x7c x8 x9 m => l1  out_3a out_3l out_3c x7a x7l x7c x8 x9 R m) ρ m) : cpt P od (panicR R) (.loop (lP (bB (sR (sL (sR (sR (body)))))))) (blockQ 0 (thenQ (acpt P od (panicR R) (.code (sR (sR (sR (body))))) (bodyQ P fn R)) (bodyQ P fn R))) ρ m := by
  unfold l1E at h
  obtain ⟨out_3a, out_3l, out_3c, e3, h⟩ := h.ex
  obtain ⟨x7a, x7l, x7c, e7, h⟩ := h.ex
  obtain ⟨x8, e8, h⟩ := h.ex
  obtain ⟨x9, e9, h⟩ := h.ex
  obtain ⟨I, N, h0, hs⟩ := h
  refine ⟨fun N => l1E (I N), N, (by show l1E (I N) ρ m; unfold l1E; rw [e3, e7, e8, e9]; exact h0), ?_⟩
  clear h0 e3 e7 e8 e9
  intro N ρ m h
  unfold l1E at h
  obtain ⟨out_3a, out_3l, out_3c, e3, h⟩ := h.ex
  obtain ⟨x7a, x7l, x7c, e7, h⟩ := h.ex
  obtain ⟨x8, e8, h⟩ := h.ex
  obtain ⟨x9, e9, h⟩ := h.ex
  refine cpt_mono (P := P) (lP (bB (sR (sL (sR (sR (body))))))) (Q := thenQ (l1E fun out_3a out_3l out_3c x7a x7l x7c x8 x9 m => ∃ N1, N1 < N ∧ I N1 out_3a out_3l out_3c x7a x7l x7c x8 x9 m) (blockQ 0 (thenQ (acpt P od (panicR R) (.code (sR (sR (sR (body))))) (bodyQ P fn R)) (bodyQ P fn R)))) (fun e ρ m h => ?_) ρ m ?_
  · cases e with
    | normal =>
      have h : l1E (fun out_3a out_3l out_3c x7a x7l x7c x8 x9 m => ∃ N1, N1 < N ∧ I N1 out_3a out_3l out_3c x7a x7l x7c x8 x9 m) ρ m := h
      unfold l1E at h
      obtain ⟨out_3a, out_3l, out_3c, e3, h⟩ := h.ex
      obtain ⟨x7a, x7l, x7c, e7, h⟩ := h.ex
      obtain ⟨x8, e8, h⟩ := h.ex
      obtain ⟨x9, e9, h⟩ := h.ex
      obtain ⟨N1, hlt, h⟩ := h
      exact ⟨N1, hlt, (by show l1E (I N1) ρ m; unfold l1E; rw [e3, e7, e8, e9]; exact h)⟩
    | _ => exact h
  have hh := hs N out_3a out_3l out_3c x7a x7l x7c x8 x9 m h
  generalize (fun out_3a out_3l out_3c x7a x7l x7c x8 x9 m => ∃ N1, N1 < N ∧ I N1 out_3a out_3l out_3c x7a x7l x7c x8 x9 m : Option Addr → Nat → Nat → Option Addr → Nat → Nat → Int → Int → Mem → Prop) = K1 at hh ⊢
  rw [← upd_self e3, ← upd_self e7, ← upd_self e8, ← upd_self e9]
  rw [← l1_er  K1 R]
  refine acpt_sound (P := P) (l1A  K1 R) _ _ _ ⟨⟨⟨True.intro, ⟨⟨(fun ρ m h => k3_ok K1 R ρ m h), ⟨⟨(fun ρ m h => k2_ok K1 R ρ m h), True.intro⟩, True.intro⟩⟩, True.intro⟩⟩, True.intro⟩, True.intro⟩ ?_
  exact Eq.mp (l1_eq  K1 R out_3a out_3l out_3c x7a x7l x7c x8 x9 ρ m) hh
theorem e0_eq (l_0a : Option Addr) (l_0l : Nat) (l_0c : Nat) (R : Ending → Mem → Prop) (m : Mem) : e0 l_0a l_0l l_0c R m = acpt P od (panicR R) (e0A R) (bodyQ P fn R) (argE (#[.slice l_0a l_0l l_0c] : Array Value).toList) m := by kernel_rfl
theorem ok (l_0a : Option Addr) (l_0l : Nat) (l_0c : Nat) (R : Ending → Mem → Prop) (m : Mem) (h : e0 l_0a l_0l l_0c R m) : HC P id #[.slice l_0a l_0l l_0c] m R := by
  refine HC_of (fn := fn) (c := body) (od := od) (tb := tb) Go.Proofs.Try.func28 (by kernel_rfl) (by kernel_rfl) follows (by kernel_rfl) (of_decide_eq_true (by kernel_rfl)) ?_
  have he : (e0A R).erase = body := by kernel_rfl
  rw [← he]
  refine acpt_sound (P := P) (e0A R) _ _ _ ⟨⟨⟨True.intro, ⟨(fun ρ m h => l1_ok  R ρ m h), True.intro⟩⟩, True.intro⟩, True.intro⟩ ?_
  exact Eq.mp (e0_eq l_0a l_0l l_0c R m) h
end piece_joined

/-! ### slices.Clone[[]eyot/api.Piece,eyot/api.Piece] -/
namespace slices_Clone_s_api_Piece_api_Piece
noncomputable def fn : Func := Go.Proofs.Try.f29
noncomputable def body : Code := fn.body.getD .skip
def od : Nat → Ord := fun _ => .done
def tb : Nat → Tab := fun _ => (0, [], [])
def e0 (s_0a : Option Addr) (s_0l : Nat) (s_0c : Nat) (R : Ending → Mem → Prop) (m : Mem) : Prop :=
  Br s_0a.isNone (
    R (.returned (.slice none 0 0)) m) (
    NewC m #[] T_api_Piece fun b5 m1 =>
    BiN P .append #[T_sl_api_Piece, T_sl_api_Piece] T_sl_api_Piece #[false, false] #[.slice (some ⟨b5, 0, none⟩) 0 0, .slice s_0a s_0l s_0c] m1 (fun w m2 =>
      UnS w fun x7a x7l x7c =>
      R (.returned (.slice x7a x7l x7c)) m2) (panicR R))
noncomputable def e0A (R : Ending → Mem → Prop) : ACode := (.code (body))
theorem e0_eq (s_0a : Option Addr) (s_0l : Nat) (s_0c : Nat) (R : Ending → Mem → Prop) (m : Mem) : e0 s_0a s_0l s_0c R m = acpt P od (panicR R) (e0A R) (bodyQ P fn R) (argE (#[.slice s_0a s_0l s_0c] : Array Value).toList) m := by kernel_rfl
theorem ok (s_0a : Option Addr) (s_0l : Nat) (s_0c : Nat) (R : Ending → Mem → Prop) (m : Mem) (h : e0 s_0a s_0l s_0c R m) : HC P id #[.slice s_0a s_0l s_0c] m R := by
  refine HC_of (fn := fn) (c := body) (od := od) (tb := tb) Go.Proofs.Try.func29 (by kernel_rfl) (by kernel_rfl) follows (by kernel_rfl) (of_decide_eq_true (by kernel_rfl)) ?_
  have he : (e0A R).erase = body := by kernel_rfl
  rw [← he]
  refine acpt_sound (P := P) (e0A R) _ _ _ True.intro ?_
  exact Eq.mp (e0_eq s_0a s_0l s_0c R m) h
end slices_Clone_s_api_Piece_api_Piece

/-! ### slices.Clone[[]byte,byte] -/
namespace slices_Clone_s_byte_byte
noncomputable def fn : Func := Go.Proofs.Try.f30
noncomputable def body : Code := fn.body.getD .skip
def od : Nat → Ord := fun _ => .done
def tb : Nat → Tab := fun _ => (0, [], [])
def e0 (s_0a : Option Addr) (s_0l : Nat) (s_0c : Nat) (R : Ending → Mem → Prop) (m : Mem) : Prop :=
  Br s_0a.isNone (
    R (.returned (.slice none 0 0)) m) (
    NewC m #[] T_uint8 fun b5 m1 =>
    BiN P .append #[T_sl_uint8, T_sl_uint8] T_sl_uint8 #[false, false] #[.slice (some ⟨b5, 0, none⟩) 0 0, .slice s_0a s_0l s_0c] m1 (fun w m2 =>
      UnS w fun x7a x7l x7c =>
      R (.returned (.slice x7a x7l x7c)) m2) (panicR R))
noncomputable def e0A (R : Ending → Mem → Prop) : ACode := (.code (body))
theorem e0_eq (s_0a : Option Addr) (s_0l : Nat) (s_0c : Nat) (R : Ending → Mem → Prop) (m : Mem) : e0 s_0a s_0l s_0c R m = acpt P od (panicR R) (e0A R) (bodyQ P fn R) (argE (#[.slice s_0a s_0l s_0c] : Array Value).toList) m := by kernel_rfl
theorem ok (s_0a : Option Addr) (s_0l : Nat) (s_0c : Nat) (R : Ending → Mem → Prop) (m : Mem) (h : e0 s_0a s_0l s_0c R m) : HC P id #[.slice s_0a s_0l s_0c] m R := by
  refine HC_of (fn := fn) (c := body) (od := od) (tb := tb) Go.Proofs.Try.func30 (by kernel_rfl) (by kernel_rfl) follows (by kernel_rfl) (of_decide_eq_true (by kernel_rfl)) ?_
  have he : (e0A R).erase = body := by kernel_rfl
  rw [← he]
  refine acpt_sound (P := P) (e0A R) _ _ _ True.intro ?_
  exact Eq.mp (e0_eq s_0a s_0l s_0c R m) h
end slices_Clone_s_byte_byte

/-! ### eyot/piece.size -/
namespace piece_size
noncomputable def fn : Func := Go.Proofs.Try.f31
noncomputable def body : Code := fn.body.getD .skip
def od : Nat → Ord := fun _ => .done
def tb : Nat → Tab := fun _ => (0, [], [])
def e0 (p_0_0 : Bool) (p_0_1 : Int) (p_0_2 : Int) (R : Ending → Mem → Prop) (m : Mem) : Prop :=
  NewC m #[.bool p_0_0, .int .i64 p_0_1, .int .i64 p_0_2] T_api_Piece fun b_p_1 m1 =>
  LdV m1 b_p_1 2 fun v =>
  UnI v .i64 fun x4 =>
  LdV m1 b_p_1 1 fun v =>
  UnI v .i64 fun x6 =>
  R (.returned (.int .i64 (IntKind.i64.wrap (x4 - x6)))) m1
noncomputable def e0A (R : Ending → Mem → Prop) : ACode := (.code (body))
theorem e0_eq (p_0_0 : Bool) (p_0_1 : Int) (p_0_2 : Int) (R : Ending → Mem → Prop) (m : Mem) : e0 p_0_0 p_0_1 p_0_2 R m = acpt P od (panicR R) (e0A R) (bodyQ P fn R) (argE (#[.agg #[.bool p_0_0, .int .i64 p_0_1, .int .i64 p_0_2]] : Array Value).toList) m := by kernel_rfl
theorem ok (p_0_0 : Bool) (p_0_1 : Int) (p_0_2 : Int) (R : Ending → Mem → Prop) (m : Mem) (h : e0 p_0_0 p_0_1 p_0_2 R m) : HC P id #[.agg #[.bool p_0_0, .int .i64 p_0_1, .int .i64 p_0_2]] m R := by
  refine HC_of (fn := fn) (c := body) (od := od) (tb := tb) Go.Proofs.Try.func31 (by kernel_rfl) (by kernel_rfl) follows (by kernel_rfl) (of_decide_eq_true (by kernel_rfl)) ?_
  have he : (e0A R).erase = body := by kernel_rfl
  rw [← he]
  refine acpt_sound (P := P) (e0A R) _ _ _ True.intro ?_
  exact Eq.mp (e0_eq p_0_0 p_0_1 p_0_2 R m) h
end piece_size

end
end Go.E
