/- Printed by this project's own gen.py: more shallow forms. -/
import Derived.Test.YtjdkdeekniephaaG7
set_option linter.unusedVariables false
set_option maxRecDepth 100000
namespace Go.E
open Go.H
noncomputable section
/-! ### (*eyot/page.Pages).Clear -/
namespace page_Pages_Clear
noncomputable def fn : Func := Go.Proofs.Try.f23
noncomputable def body : Code := fn.body.getD .skip
def od : Nat → Ord := fun _ => .done
def tb : Nat → Tab := fun _ => (0, [], [])
def e0 (p_0 : Option Addr) (R : Ending → Mem → Prop) (m : Mem) : Prop :=
  Br (!p_0.isNone) (
    NilC p_0 (fun x5b x5o =>
      St1 m x5b (x5o + 3) (.slice none 0 0) fun m1 =>
      R (.returned (.tuple #[])) m1) (R (.panicked (nilPanic P)) m)) (
    R (.returned (.tuple #[])) m)
noncomputable def e0A (R : Ending → Mem → Prop) : ACode := (.code (body))
theorem e0_eq (p_0 : Option Addr) (R : Ending → Mem → Prop) (m : Mem) : e0 p_0 R m = acpt P od (panicR R) (e0A R) (bodyQ P fn R) (argE (#[.pointer p_0] : Array Value).toList) m := by kernel_rfl
theorem ok (p_0 : Option Addr) (R : Ending → Mem → Prop) (m : Mem) (h : e0 p_0 R m) : HC P id #[.pointer p_0] m R := by
  refine HC_of (fn := fn) (c := body) (od := od) (tb := tb) Go.Proofs.Try.func23 (by kernel_rfl) (by kernel_rfl) follows (by kernel_rfl) (of_decide_eq_true (by kernel_rfl)) ?_
  have he : (e0A R).erase = body := by kernel_rfl
  rw [← he]
  refine acpt_sound (P := P) (e0A R) _ _ _ True.intro ?_
  exact Eq.mp (e0_eq p_0 R m) h
end page_Pages_Clear

/-! ### slices.Clone[[]byte,byte] -/
namespace slices_Clone_s_byte_byte
noncomputable def fn : Func := Go.Proofs.Try.f24
noncomputable def body : Code := fn.body.getD .skip
def od : Nat → Ord := fun _ => .done
def tb : Nat → Tab := fun _ => (0, [], [])
def e0 (s_0a : Option Addr) (s_0l : Nat) (s_0c : Nat) (R : Ending → Mem → Prop) (m : Mem) : Prop :=
  Br s_0a.isNone (
    R (.returned (.slice none 0 0)) m) (
    NewC m #[] T_uint8 fun b5 m1 =>
    BiN P .append #[T_sl_uint8, T_sl_uint8] T_sl_uint8 #[false, false] #[.slice (some ⟨b5, 0, none⟩) 0 0, .slice s_0a s_0l s_0c] m1 (fun w m2 =>
      UnS w fun x7a x7l x7c =>
      R (.returned (.slice x7a x7l x7c)) m2) (panicR R))
noncomputable def e0A (R : Ending → Mem → Prop) : ACode := (.code (body))
theorem e0_eq (s_0a : Option Addr) (s_0l : Nat) (s_0c : Nat) (R : Ending → Mem → Prop) (m : Mem) : e0 s_0a s_0l s_0c R m = acpt P od (panicR R) (e0A R) (bodyQ P fn R) (argE (#[.slice s_0a s_0l s_0c] : Array Value).toList) m := by kernel_rfl
theorem ok (s_0a : Option Addr) (s_0l : Nat) (s_0c : Nat) (R : Ending → Mem → Prop) (m : Mem) (h : e0 s_0a s_0l s_0c R m) : HC P id #[.slice s_0a s_0l s_0c] m R := by
  refine HC_of (fn := fn) (c := body) (od := od) (tb := tb) Go.Proofs.Try.func24 (by kernel_rfl) (by kernel_rfl) follows (by kernel_rfl) (of_decide_eq_true (by kernel_rfl)) ?_
  have he : (e0A R).erase = body := by kernel_rfl
  rw [← he]
  refine acpt_sound (P := P) (e0A R) _ _ _ True.intro ?_
  exact Eq.mp (e0_eq s_0a s_0l s_0c R m) h
end slices_Clone_s_byte_byte

/-! ### (*eyot/piece.Text).Len -/
namespace piece_Text_Len
noncomputable def fn : Func := Go.Proofs.Try.f25
noncomputable def body : Code := fn.body.getD .skip
def od : Nat → Ord := fun _ => .done
def tb : Nat → Tab := fun _ => (0, [], [])
def l1E (K : Int → Option Addr → Nat → Nat → Int → Int → Mem → Prop) : Env → Mem → Prop := fun ρ m => UnI (ρ 3) .i64 fun n_3 => UnS (ρ 11) fun x11a x11l x11c => UnI (ρ 12) .i64 fun x12 => UnI (ρ 13) .i64 fun x13 => K n_3 x11a x11l x11c x12 x13 m
def l1B  (K1 : Int → Option Addr → Nat → Nat → Int → Int → Mem → Prop) (n_3 : Int) (x11a : Option Addr) (x11l : Nat) (x11c : Nat) (x12 : Int) (x13 : Int) (R : Ending → Mem → Prop) (m : Mem) : Prop :=
  Br (decide (x13 < x12)) (
    IxS x11a x11l x13 3 fun x15b x15o =>
    LdV m x15b x15o fun v =>
    UnB v fun x16_0 =>
    LdV m x15b (x15o + 1) fun v =>
    UnI v .i64 fun x16_1 =>
    LdV m x15b (x15o + 2) fun v =>
    UnI v .i64 fun x16_2 =>
    NewC m #[.bool false, .int .i64 0, .int .i64 0] T_api_Piece fun b_p_5 m1 =>
    St1 m1 b_p_5 0 (.bool x16_0) fun m2 =>
    St1 m2 b_p_5 1 (.int .i64 x16_1) fun m3 =>
    St1 m3 b_p_5 2 (.int .i64 x16_2) fun m4 =>
    LdV m4 b_p_5 0 fun v =>
    UnB v fun x18_0 =>
    LdV m4 b_p_5 1 fun v =>
    UnI v .i64 fun x18_1 =>
    LdV m4 b_p_5 2 fun v =>
    UnI v .i64 fun x18_2 =>
    HC P piece_size.id #[.agg #[.bool x18_0, .int .i64 x18_1, .int .i64 x18_2]] m4 (Cont (fun v m5 =>
        UnI v .i64 fun x19 =>
        K1 (IntKind.i64.wrap (n_3 + x19)) x11a x11l x11c x12 (IntKind.i64.wrap (x13 + 1)) m5) (panicR R))) (
    R (.returned (.int .i64 n_3)) m)
def l1  (n_3 : Int) (x11a : Option Addr) (x11l : Nat) (x11c : Nat) (x12 : Int) (x13 : Int) (R : Ending → Mem → Prop) (m : Mem) : Prop :=
  ∃ (I : Nat → Int → Option Addr → Nat → Nat → Int → Int → Mem → Prop) (N : Nat), I N n_3 x11a x11l x11c x12 x13 m ∧ ∀ N n_3 x11a x11l x11c x12 x13 m, I N n_3 x11a x11l x11c x12 x13 m → l1B  (fun n_3 x11a x11l x11c x12 x13 m => ∃ N1, N1 < N ∧ I N1 n_3 x11a x11l x11c x12 x13 m) n_3 x11a x11l x11c x12 x13 R m
noncomputable def l1A  (K1 : Int → Option Addr → Nat → Nat → Int → Int → Mem → Prop) (R : Ending → Mem → Prop) : ACode := (.code (lP (bB (sR (sL (sR (sR (sR (body)))))))))
def e0 (t_0 : Option Addr) (R : Ending → Mem → Prop) (m : Mem) : Prop :=
  Br t_0.isNone (
    R (.returned (.int .i64 0)) m) (
    NilC t_0 (fun x9b x9o =>
      LdV m x9b x9o fun v =>
      UnS v fun x11a x11l x11c =>
      l1  0 x11a x11l x11c ((x11l : Nat) : Int) 0 R m) (R (.panicked (nilPanic P)) m))
noncomputable def e0A (R : Ending → Mem → Prop) : ACode := (.seq (.code (sL (body))) (.seq (.code (sL (sR (body)))) (.seq (.code (sL (sR (sR (body))))) (.seq (.seq (.code (sL (sL (sR (sR (sR (body))))))) (.block 0 (.cut (l1E fun n_3 x11a x11l x11c x12 x13 m => l1  n_3 x11a x11l x11c x12 x13 R m) (.loop (lP (bB (sR (sL (sR (sR (sR (body)))))))))))) (.code (sR (sR (sR (sR (body))))))))))
theorem l1_eq  (K1 : Int → Option Addr → Nat → Nat → Int → Int → Mem → Prop) (R : Ending → Mem → Prop) (n_3 : Int) (x11a : Option Addr) (x11l : Nat) (x11c : Nat) (x12 : Int) (x13 : Int) (ρ : Env) (m : Mem) : l1B  K1 n_3 x11a x11l x11c x12 x13 R m = acpt P od (panicR R) (l1A  K1 R) (thenQ (l1E K1) (blockQ 0 (thenQ (acpt P od (panicR R) (.code (sR (sR (sR (sR (body)))))) (bodyQ P fn R)) (bodyQ P fn R)))) (upd (upd (upd (upd ρ 13 (.int .i64 x13)) 12 (.int .i64 x12)) 11 (.slice x11a x11l x11c)) 3 (.int .i64 n_3)) m := by kernel_rfl
theorem l1_er  (K1 : Int → Option Addr → Nat → Nat → Int → Int → Mem → Prop) (R : Ending → Mem → Prop) : (l1A  K1 R).erase = lP (bB (sR (sL (sR (sR (sR (body))))))) := by kernel_rfl
theorem l1_ok  (R : Ending → Mem → Prop) (ρ : Env) (m : Mem) (h : (l1E fun n_3 x11a x11l x11c x12 x13 m => l1  n_3 x11a x11l x11c x12 x13 R m) ρ m) : cpt P od (panicR R) (.loop (lP (bB (sR (sL (sR (sR (sR (body))))))))) (blockQ 0 (thenQ (acpt P od (panicR R) (.code (sR (sR (sR (sR (body)))))) (bodyQ P fn R)) (bodyQ P fn R))) ρ m := by
  unfold l1E at h
  obtain ⟨n_3, e3, h⟩ := h.ex
  obtain ⟨x11a, x11l, x11c, e11, h⟩ := h.ex
  obtain ⟨x12, e12, h⟩ := h.ex
  obtain ⟨x13, e13, h⟩ := h.ex
  obtain ⟨I, N, h0, hs⟩ := h
  refine ⟨fun N => l1E (I N), N, (by show l1E (I N) ρ m; unfold l1E; rw [e3, e11, e12, e13]; exact h0), ?_⟩
  clear h0 e3 e11 e12 e13
  intro N ρ m h
  unfold l1E at h
  obtain ⟨n_3, e3, h⟩ := h.ex
  obtain ⟨x11a, x11l, x11c, e11, h⟩ := h.ex
  obtain ⟨x12, e12, h⟩ := h.ex
  obtain ⟨x13, e13, h⟩ := h.ex
  refine cpt_mono (P := P) (lP (bB (sR (sL (sR (sR (sR (body)))))))) (Q := thenQ (l1E fun n_3 x11a x11l x11c x12 x13 m => ∃ N1, N1 < N ∧ I N1 n_3 x11a x11l x11c x12 x13 m) (blockQ 0 (thenQ (acpt P od (panicR R) (.code (sR (sR (sR (sR (body)))))) (bodyQ P fn R)) (bodyQ P fn R)))) (fun e ρ m h => ?_) ρ m ?_
  · cases e with
    | normal =>
      have h : l1E (fun n_3 x11a x11l x11c x12 x13 m => ∃ N1, N1 < N ∧ I N1 n_3 x11a x11l x11c x12 x13 m) ρ m := h
      unfold l1E at h
      obtain ⟨n_3, e3, h⟩ := h.ex
      obtain ⟨x11a, x11l, x11c, e11, h⟩ := h.ex
      obtain ⟨x12, e12, h⟩ := h.ex
      obtain ⟨x13, e13, h⟩ := h.ex
      obtain ⟨N1, hlt, h⟩ := h
      exact ⟨N1, hlt, (by show l1E (I N1) ρ m; unfold l1E; rw [e3, e11, e12, e13]; exact h)⟩
    | _ => exact h
  have hh := hs N n_3 x11a x11l x11c x12 x13 m h
  generalize (fun n_3 x11a x11l x11c x12 x13 m => ∃ N1, N1 < N ∧ I N1 n_3 x11a x11l x11c x12 x13 m : Int → Option Addr → Nat → Nat → Int → Int → Mem → Prop) = K1 at hh ⊢
  rw [← upd_self e3, ← upd_self e11, ← upd_self e12, ← upd_self e13]
  rw [← l1_er  K1 R]
  refine acpt_sound (P := P) (l1A  K1 R) _ _ _ True.intro ?_
  exact Eq.mp (l1_eq  K1 R n_3 x11a x11l x11c x12 x13 ρ m) hh
theorem e0_eq (t_0 : Option Addr) (R : Ending → Mem → Prop) (m : Mem) : e0 t_0 R m = acpt P od (panicR R) (e0A R) (bodyQ P fn R) (argE (#[.pointer t_0] : Array Value).toList) m := by kernel_rfl
theorem ok (t_0 : Option Addr) (R : Ending → Mem → Prop) (m : Mem) (h : e0 t_0 R m) : HC P id #[.pointer t_0] m R := by
  refine HC_of (fn := fn) (c := body) (od := od) (tb := tb) Go.Proofs.Try.func25 (by kernel_rfl) (by kernel_rfl) follows (by kernel_rfl) (of_decide_eq_true (by kernel_rfl)) ?_
  have he : (e0A R).erase = body := by kernel_rfl
  rw [← he]
  refine acpt_sound (P := P) (e0A R) _ _ _ ⟨⟨⟨⟨True.intro, ⟨(fun ρ m h => l1_ok  R ρ m h), True.intro⟩⟩, True.intro⟩, True.intro⟩, True.intro⟩ ?_
  exact Eq.mp (e0_eq t_0 R m) h
end piece_Text_Len

/-! ### eyot/piece.cut -/
namespace piece_cut
noncomputable def fn : Func := Go.Proofs.Try.f26
noncomputable def body : Code := fn.body.getD .skip
def od : Nat → Ord := fun _ => .done
def tb : Nat → Tab := fun _ => (0, [], [])
def k2E (K : Int → Int → Option Addr → Nat → Nat → Int → Nat → Nat → Option Addr → Nat → Nat → Int → Int → Mem → Prop) : Env → Mem → Prop := fun ρ m => UnI (ρ 1) .i64 fun from_1 => UnI (ρ 2) .i64 fun to_2 => UnS (ρ 7) fun out_7a out_7l out_7c => UnI (ρ 8) .i64 fun at_8 => UnPA (ρ 10) fun p_10b p_10o => UnS (ρ 13) fun x13a x13l x13c => UnI (ρ 14) .i64 fun x14 => UnI (ρ 15) .i64 fun x15 => K from_1 to_2 out_7a out_7l out_7c at_8 p_10b p_10o x13a x13l x13c x14 x15 m
def k2 (K1 : Int → Int → Option Addr → Nat → Nat → Int → Option Addr → Nat → Nat → Int → Int → Mem → Prop) (from_1 : Int) (to_2 : Int) (out_7a : Option Addr) (out_7l : Nat) (out_7c : Nat) (at_8 : Int) (p_10b : Nat) (p_10o : Nat) (x13a : Option Addr) (x13l : Nat) (x13c : Nat) (x14 : Int) (x15 : Int) (R : Ending → Mem → Prop) (m : Mem) : Prop :=
  LdV m p_10b p_10o fun v =>
  UnB v fun x47_0 =>
  LdV m p_10b (p_10o + 1) fun v =>
  UnI v .i64 fun x47_1 =>
  LdV m p_10b (p_10o + 2) fun v =>
  UnI v .i64 fun x47_2 =>
  HC P piece_size.id #[.agg #[.bool x47_0, .int .i64 x47_1, .int .i64 x47_2]] m (Cont (fun v m1 =>
      UnI v .i64 fun x48 =>
      K1 from_1 to_2 out_7a out_7l out_7c (IntKind.i64.wrap (at_8 + x48)) x13a x13l x13c x14 (IntKind.i64.wrap (x15 + 1)) m1) (panicR R))
noncomputable def k2A (K1 : Int → Int → Option Addr → Nat → Nat → Int → Option Addr → Nat → Nat → Int → Int → Mem → Prop) (R : Ending → Mem → Prop) : ACode := (.code (sR (sR (sR (bB (sL (sR (sR (lP (bB (sR (sL (sR (sR (sR (body))))))))))))))))
def l1E (K : Int → Int → Option Addr → Nat → Nat → Int → Option Addr → Nat → Nat → Int → Int → Mem → Prop) : Env → Mem → Prop := fun ρ m => UnI (ρ 1) .i64 fun from_1 => UnI (ρ 2) .i64 fun to_2 => UnS (ρ 7) fun out_7a out_7l out_7c => UnI (ρ 8) .i64 fun at_8 => UnS (ρ 13) fun x13a x13l x13c => UnI (ρ 14) .i64 fun x14 => UnI (ρ 15) .i64 fun x15 => K from_1 to_2 out_7a out_7l out_7c at_8 x13a x13l x13c x14 x15 m
def l1B  (K1 : Int → Int → Option Addr → Nat → Nat → Int → Option Addr → Nat → Nat → Int → Int → Mem → Prop) (from_1 : Int) (to_2 : Int) (out_7a : Option Addr) (out_7l : Nat) (out_7c : Nat) (at_8 : Int) (x13a : Option Addr) (x13l : Nat) (x13c : Nat) (x14 : Int) (x15 : Int) (R : Ending → Mem → Prop) (m : Mem) : Prop :=
  Br (decide (x15 < x14)) (
    IxS x13a x13l x15 3 fun x17b x17o =>
    LdV m x17b x17o fun v =>
    UnB v fun x18_0 =>
    LdV m x17b (x17o + 1) fun v =>
    UnI v .i64 fun x18_1 =>
    LdV m x17b (x17o + 2) fun v =>
    UnI v .i64 fun x18_2 =>
    NewC m #[.bool false, .int .i64 0, .int .i64 0] T_api_Piece fun b_p_10 m1 =>
    St1 m1 b_p_10 0 (.bool x18_0) fun m2 =>
    St1 m2 b_p_10 1 (.int .i64 x18_1) fun m3 =>
    St1 m3 b_p_10 2 (.int .i64 x18_2) fun m4 =>
    LdV m4 b_p_10 0 fun v =>
    UnB v fun x26_0 =>
    LdV m4 b_p_10 1 fun v =>
    UnI v .i64 fun x26_1 =>
    LdV m4 b_p_10 2 fun v =>
    UnI v .i64 fun x26_2 =>
    HC P piece_size.id #[.agg #[.bool x26_0, .int .i64 x26_1, .int .i64 x26_2]] m4 (Cont (fun v m5 =>
        UnI v .i64 fun x27 =>
        Br (decide ((if 0 > (IntKind.i64.wrap (from_1 - at_8)) then 0 else IntKind.i64.wrap (from_1 - at_8)) < (if x27 < (IntKind.i64.wrap (to_2 - at_8)) then x27 else IntKind.i64.wrap (to_2 - at_8)))) (
          LdV m5 b_p_10 0 fun v =>
          UnB v fun x34 =>
          LdV m5 b_p_10 1 fun v =>
          UnI v .i64 fun x36 =>
          LdV m5 b_p_10 1 fun v =>
          UnI v .i64 fun x40 =>
          NewC m5 #[.bool x34, .int .i64 (IntKind.i64.wrap (x36 + (if 0 > (IntKind.i64.wrap (from_1 - at_8)) then 0 else IntKind.i64.wrap (from_1 - at_8)))), .int .i64 (IntKind.i64.wrap (x40 + (if x27 < (IntKind.i64.wrap (to_2 - at_8)) then x27 else IntKind.i64.wrap (to_2 - at_8))))] T_api_Piece fun b44 m6 =>
          BiN P .append #[T_sl_api_Piece, T_sl_api_Piece] T_sl_api_Piece #[false, false] #[.slice out_7a out_7l out_7c, .slice (some ⟨b44, 0, none⟩) 1 1] m6 (fun w m7 =>
            UnS w fun x45a x45l x45c =>
            k2 K1 from_1 to_2 x45a x45l x45c at_8 b_p_10 0 x13a x13l x13c x14 x15 R m7) (panicR R)) (
          k2 K1 from_1 to_2 out_7a out_7l out_7c at_8 b_p_10 0 x13a x13l x13c x14 x15 R m5)) (panicR R))) (
    R (.returned (.slice out_7a out_7l out_7c)) m)
def l1  (from_1 : Int) (to_2 : Int) (out_7a : Option Addr) (out_7l : Nat) (out_7c : Nat) (at_8 : Int) (x13a : Option Addr) (x13l : Nat) (x13c : Nat) (x14 : Int) (x15 : Int) (R : Ending → Mem → Prop) (m : Mem) : Prop :=
  ∃ (I : Nat → Int → Int → Option Addr → Nat → Nat → Int → Option Addr → Nat → Nat → Int → Int → Mem → Prop) (N : Nat), I N from_1 to_2 out_7a out_7l out_7c at_8 x13a x13l x13c x14 x15 m ∧ ∀ N from_1 to_2 out_7a out_7l out_7c at_8 x13a x13l x13c x14 x15 m, I N from_1 to_2 out_7a out_7l out_7c at_8 x13a x13l x13c x14 x15 m → l1B  (fun from_1 to_2 out_7a out_7l out_7c at_8 x13a x13l x13c x14 x15 m => ∃ N1, N1 < N ∧ I N1 from_1 to_2 out_7a out_7l out_7c at_8 x13a x13l x13c x14 x15 m) from_1 to_2 out_7a out_7l out_7c at_8 x13a x13l x13c x14 x15 R m
noncomputable def l1A  (K1 : Int → Int → Option Addr → Nat → Nat → Int → Option Addr → Nat → Nat → Int → Int → Mem → Prop) (R : Ending → Mem → Prop) : ACode := (.seq (.code (sL (lP (bB (sR (sL (sR (sR (sR (body)))))))))) (.seq (.code (sL (sR (lP (bB (sR (sL (sR (sR (sR (body))))))))))) (.seq (.block 1 (.seq (.code (sL (bB (sL (sR (sR (lP (bB (sR (sL (sR (sR (sR (body)))))))))))))) (.seq (.code (sL (sR (bB (sL (sR (sR (lP (bB (sR (sL (sR (sR (sR (body))))))))))))))) (.seq (.code (sL (sR (sR (bB (sL (sR (sR (lP (bB (sR (sL (sR (sR (sR (body)))))))))))))))) (.cut (k2E fun from_1 to_2 out_7a out_7l out_7c at_8 p_10b p_10o x13a x13l x13c x14 x15 m => k2 K1 from_1 to_2 out_7a out_7l out_7c at_8 p_10b p_10o x13a x13l x13c x14 x15 R m) (sR (sR (sR (bB (sL (sR (sR (lP (bB (sR (sL (sR (sR (sR (body)))))))))))))))))))) (.code (sR (sR (sR (lP (bB (sR (sL (sR (sR (sR (body)))))))))))))))
def e0 (l_0a : Option Addr) (l_0l : Nat) (l_0c : Nat) (from_1 : Int) (to_2 : Int) (R : Ending → Mem → Prop) (m : Mem) : Prop :=
  l1  from_1 to_2 none 0 0 0 l_0a l_0l l_0c ((l_0l : Nat) : Int) 0 R m
noncomputable def e0A (R : Ending → Mem → Prop) : ACode := (.seq (.code (sL (body))) (.seq (.code (sL (sR (body)))) (.seq (.code (sL (sR (sR (body))))) (.seq (.seq (.code (sL (sL (sR (sR (sR (body))))))) (.block 0 (.cut (l1E fun from_1 to_2 out_7a out_7l out_7c at_8 x13a x13l x13c x14 x15 m => l1  from_1 to_2 out_7a out_7l out_7c at_8 x13a x13l x13c x14 x15 R m) (.loop (lP (bB (sR (sL (sR (sR (sR (body)))))))))))) (.code (sR (sR (sR (sR (body))))))))))
theorem k2_eq (K1 : Int → Int → Option Addr → Nat → Nat → Int → Option Addr → Nat → Nat → Int → Int → Mem → Prop) (R : Ending → Mem → Prop) (from_1 : Int) (to_2 : Int) (out_7a : Option Addr) (out_7l : Nat) (out_7c : Nat) (at_8 : Int) (p_10b : Nat) (p_10o : Nat) (x13a : Option Addr) (x13l : Nat) (x13c : Nat) (x14 : Int) (x15 : Int) (ρ : Env) (m : Mem) : k2 K1 from_1 to_2 out_7a out_7l out_7c at_8 p_10b p_10o x13a x13l x13c x14 x15 R m = acpt P od (panicR R) (k2A K1 R) (blockQ 1 (thenQ (acpt P od (panicR R) (.code (sR (sR (sR (lP (bB (sR (sL (sR (sR (sR (body)))))))))))) (thenQ (l1E K1) (blockQ 0 (thenQ (acpt P od (panicR R) (.code (sR (sR (sR (sR (body)))))) (bodyQ P fn R)) (bodyQ P fn R))))) (thenQ (l1E K1) (blockQ 0 (thenQ (acpt P od (panicR R) (.code (sR (sR (sR (sR (body)))))) (bodyQ P fn R)) (bodyQ P fn R)))))) (upd (upd (upd (upd (upd (upd (upd (upd ρ 15 (.int .i64 x15)) 14 (.int .i64 x14)) 13 (.slice x13a x13l x13c)) 10 (.pointer (some ⟨p_10b, p_10o, none⟩))) 8 (.int .i64 at_8)) 7 (.slice out_7a out_7l out_7c)) 2 (.int .i64 to_2)) 1 (.int .i64 from_1)) m := by kernel_rfl
theorem k2_er (K1 : Int → Int → Option Addr → Nat → Nat → Int → Option Addr → Nat → Nat → Int → Int → Mem → Prop) (R : Ending → Mem → Prop) : (k2A K1 R).erase = sR (sR (sR (bB (sL (sR (sR (lP (bB (sR (sL (sR (sR (sR (body)))))))))))))) := by kernel_rfl
theorem k2_ok (K1 : Int → Int → Option Addr → Nat → Nat → Int → Option Addr → Nat → Nat → Int → Int → Mem → Prop) (R : Ending → Mem → Prop) (ρ : Env) (m : Mem) (h : (k2E fun from_1 to_2 out_7a out_7l out_7c at_8 p_10b p_10o x13a x13l x13c x14 x15 m => k2 K1 from_1 to_2 out_7a out_7l out_7c at_8 p_10b p_10o x13a x13l x13c x14 x15 R m) ρ m) : cpt P od (panicR R) (sR (sR (sR (bB (sL (sR (sR (lP (bB (sR (sL (sR (sR (sR (body))))))))))))))) (blockQ 1 (thenQ (acpt P od (panicR R) (.code (sR (sR (sR (lP (bB (sR (sL (sR (sR (sR (body)))))))))))) (thenQ (l1E K1) (blockQ 0 (thenQ (acpt P od (panicR R) (.code (sR (sR (sR (sR (body)))))) (bodyQ P fn R)) (bodyQ P fn R))))) (thenQ (l1E K1) (blockQ 0 (thenQ (acpt P od (panicR R) (.code (sR (sR (sR (sR (body)))))) (bodyQ P fn R)) (bodyQ P fn R)))))) ρ m := by
  unfold k2E at h
  obtain ⟨from_1, e1, h⟩ := h.ex
  obtain ⟨to_2, e2, h⟩ := h.ex
  obtain ⟨out_7a, out_7l, out_7c, e7, h⟩ := h.ex
  obtain ⟨at_8, e8, h⟩ := h.ex
  obtain ⟨p_10b, p_10o, e10, h⟩ := h.ex
  obtain ⟨x13a, x13l, x13c, e13, h⟩ := h.ex
  obtain ⟨x14, e14, h⟩ := h.ex
  obtain ⟨x15, e15, h⟩ := h.ex
  rw [← upd_self e1, ← upd_self e2, ← upd_self e7, ← upd_self e8, ← upd_self e10, ← upd_self e13, ← upd_self e14, ← upd_self e15]
  rw [← k2_er K1 R]
  refine acpt_sound (P := P) (k2A K1 R) _ _ _ True.intro ?_
  exact Eq.mp (k2_eq K1 R from_1 to_2 out_7a out_7l out_7c at_8 p_10b p_10o x13a x13l x13c x14 x15 ρ m) h
theorem l1_eq  (K1 : Int → Int → Option Addr → Nat → Nat → Int → Option Addr → Nat → Nat → Int → Int → Mem → Prop) (R : Ending → Mem → Prop) (from_1 : Int) (to_2 : Int) (out_7a : Option Addr) (out_7l : Nat) (out_7c : Nat) (at_8 : Int) (x13a : Option Addr) (x13l : Nat) (x13c : Nat) (x14 : Int) (x15 : Int) (ρ : Env) (m : Mem) : l1B  K1 from_1 to_2 out_7a out_7l out_7c at_8 x13a x13l x13c x14 x15 R m = acpt P od (panicR R) (l1A  K1 R) (thenQ (l1E K1) (blockQ 0 (thenQ (acpt P od (panicR R) (.code (sR (sR (sR (sR (body)))))) (bodyQ P fn R)) (bodyQ P fn R)))) (upd (upd (upd (upd (upd (upd (upd ρ 15 (.int .i64 x15)) 14 (.int .i64 x14)) 13 (.slice x13a x13l x13c)) 8 (.int .i64 at_8)) 7 (.slice out_7a out_7l out_7c)) 2 (.int .i64 to_2)) 1 (.int .i64 from_1)) m := by kernel_rfl
theorem l1_er  (K1 : Int → Int → Option Addr → Nat → Nat → Int → Option Addr → Nat → Nat → Int → Int → Mem → Prop) (R : Ending → Mem → Prop) : (l1A  K1 R).erase = lP (bB (sR (sL (sR (sR (sR (body))))))) := by kernel_rfl
theorem l1_ok  (R : Ending → Mem → Prop) (ρ : Env) (m : Mem) (h : (l1E fun from_1 to_2 out_7a out_7l out_7c at_8 x13a x13l x13c x14 x15 m => l1  from_1 to_2 out_7a out_7l out_7c at_8 x13a x13l x13c x14 x15 R m) ρ m) : cpt P od (panicR R) (.loop (lP (bB (sR (sL (sR (sR (sR (body))))))))) (blockQ 0 (thenQ (acpt P od (panicR R) (.code (sR (sR (sR (sR (body)))))) (bodyQ P fn R)) (bodyQ P fn R))) ρ m := by
  unfold l1E at h
  obtain ⟨from_1, e1, h⟩ := h.ex
  obtain ⟨to_2, e2, h⟩ := h.ex
  obtain ⟨out_7a, out_7l, out_7c, e7, h⟩ := h.ex
  obtain ⟨at_8, e8, h⟩ := h.ex
  obtain ⟨x13a, x13l, x13c, e13, h⟩ := h.ex
  obtain ⟨x14, e14, h⟩ := h.ex
  obtain ⟨x15, e15, h⟩ := h.ex
  obtain ⟨I, N, h0, hs⟩ := h
  refine ⟨fun N => l1E (I N), N, (by show l1E (I N) ρ m; unfold l1E; rw [e1, e2, e7, e8, e13, e14, e15]; exact h0), ?_⟩
  clear h0 e1 e2 e7 e8 e13 e14 e15
  intro N ρ m h
  unfold l1E at h
  obtain ⟨from_1, e1, h⟩ := h.ex
  obtain ⟨to_2, e2, h⟩ := h.ex
  obtain ⟨out_7a, out_7l, out_7c, e7, h⟩ := h.ex
  obtain ⟨at_8, e8, h⟩ := h.ex
  obtain ⟨x13a, x13l, x13c, e13, h⟩ := h.ex
  obtain ⟨x14, e14, h⟩ := h.ex
  obtain ⟨x15, e15, h⟩ := h.ex
  refine cpt_mono (P := P) (lP (bB (sR (sL (sR (sR (sR (body)))))))) (Q := thenQ (l1E fun from_1 to_2 out_7a out_7l out_7c at_8 x13a x13l x13c x14 x15 m => ∃ N1, N1 < N ∧ I N1 from_1 to_2 out_7a out_7l out_7c at_8 x13a x13l x13c x14 x15 m) (blockQ 0 (thenQ (acpt P od (panicR R) (.code (sR (sR (sR (sR (body)))))) (bodyQ P fn R)) (bodyQ P fn R)))) (fun e ρ m h => ?_) ρ m ?_
  · cases e with
    | normal =>
      have h : l1E (fun from_1 to_2 out_7a out_7l out_7c at_8 x13a x13l x13c x14 x15 m => ∃ N1, N1 < N ∧ I N1 from_1 to_2 out_7a out_7l out_7c at_8 x13a x13l x13c x14 x15 m) ρ m := h
      unfold l1E at h
      obtain ⟨from_1, e1, h⟩ := h.ex
      obtain ⟨to_2, e2, h⟩ := h.ex
      obtain ⟨out_7a, out_7l, out_7c, e7, h⟩ := h.ex
      obtain ⟨at_8, e8, h⟩ := h.ex
      obtain ⟨x13a, x13l, x13c, e13, h⟩ := h.ex
      obtain ⟨x14, e14, h⟩ := h.ex
      obtain ⟨x15, e15, h⟩ := h.ex
      obtain ⟨N1, hlt, h⟩ := h
      exact ⟨N1, hlt, (by show l1E (I N1) ρ m; unfold l1E; rw [e1, e2, e7, e8, e13, e14, e15]; exact h)⟩
    | _ => exact h
  have hh := hs N from_1 to_2 out_7a out_7l out_7c at_8 x13a x13l x13c x14 x15 m h
  generalize (fun from_1 to_2 out_7a out_7l out_7c at_8 x13a x13l x13c x14 x15 m => ∃ N1, N1 < N ∧ I N1 from_1 to_2 out_7a out_7l out_7c at_8 x13a x13l x13c x14 x15 m : Int → Int → Option Addr → Nat → Nat → Int → Option Addr → Nat → Nat → Int → Int → Mem → Prop) = K1 at hh ⊢
  rw [← upd_self e1, ← upd_self e2, ← upd_self e7, ← upd_self e8, ← upd_self e13, ← upd_self e14, ← upd_self e15]
  rw [← l1_er  K1 R]
  refine acpt_sound (P := P) (l1A  K1 R) _ _ _ ⟨⟨⟨True.intro, ⟨⟨⟨(fun ρ m h => k2_ok K1 R ρ m h), True.intro⟩, True.intro⟩, True.intro⟩⟩, True.intro⟩, True.intro⟩ ?_
  exact Eq.mp (l1_eq  K1 R from_1 to_2 out_7a out_7l out_7c at_8 x13a x13l x13c x14 x15 ρ m) hh
theorem e0_eq (l_0a : Option Addr) (l_0l : Nat) (l_0c : Nat) (from_1 : Int) (to_2 : Int) (R : Ending → Mem → Prop) (m : Mem) : e0 l_0a l_0l l_0c from_1 to_2 R m = acpt P od (panicR R) (e0A R) (bodyQ P fn R) (argE (#[.slice l_0a l_0l l_0c, .int .i64 from_1, .int .i64 to_2] : Array Value).toList) m := by kernel_rfl
theorem ok (l_0a : Option Addr) (l_0l : Nat) (l_0c : Nat) (from_1 : Int) (to_2 : Int) (R : Ending → Mem → Prop) (m : Mem) (h : e0 l_0a l_0l l_0c from_1 to_2 R m) : HC P id #[.slice l_0a l_0l l_0c, .int .i64 from_1, .int .i64 to_2] m R := by
  refine HC_of (fn := fn) (c := body) (od := od) (tb := tb) Go.Proofs.Try.func26 (by kernel_rfl) (by kernel_rfl) follows (by kernel_rfl) (of_decide_eq_true (by kernel_rfl)) ?_
  have he : (e0A R).erase = body := by kernel_rfl
  rw [← he]
  refine acpt_sound (P := P) (e0A R) _ _ _ ⟨⟨⟨⟨True.intro, ⟨(fun ρ m h => l1_ok  R ρ m h), True.intro⟩⟩, True.intro⟩, True.intro⟩, True.intro⟩ ?_
  exact Eq.mp (e0_eq l_0a l_0l l_0c from_1 to_2 R m) h
end piece_cut

/-! ### eyot/piece.joined -/
namespace piece_joined
noncomputable def fn : Func := Go.Proofs.Try.f27
noncomputable def body : Code := fn.body.getD .skip
def od : Nat → Ord := fun | 6 => ordL [(0, 3), (1, 3), (2, 3), (3, 3), (4, 3), (5, 3), (6, 3), (7, 1), (8, 3), (9, 0), (10, 3), (11, 3), (12, 3), (13, 3), (14, 3), (15, 3), (16, 3), (17, 1), (18, 3), (19, 0), (20, 3), (21, 3)] .done | _ => .done
def tb : Nat → Tab := fun | 6 => (0, [0, 1, 3, 7, 7, 31, 63, 127, 7, 263, 1023, 2047, 4095, 8191, 8191, 32767, 65535, 131071, 8191, 270335, 1048575, 2097151], [(0, 64, 17), (1, 65536, 18), (2, 131072, 19), (4, 262152, 20), (4, 262208, 21), (28, 1835008, 22), (36, 2359296, 23), (68, 4456448, 24), (4, 262176, 25), (260, 17039360, 26), (644, 42205184, 27), (1028, 67371008, 28), (2052, 134217728, 29), (4096, 268435464, 30), (4096, 268435520, 31), (28672, 1879048192, 32), (36864, 2415919104, 33), (69632, 4563402752, 34), (4096, 268435488, 35), (266240, 17448304640, 36), (659456, 43218108416, 37), (1052672, 68987912192, 38)]) | _ => (0, [], [])
def k3E (K : Option Addr → Nat → Nat → Nat → Nat → Option Addr → Nat → Nat → Int → Int → Mem → Prop) : Env → Mem → Prop := fun ρ m => UnS (ρ 3) fun out_3a out_3l out_3c => UnPA (ρ 5) fun p_5b p_5o => UnS (ρ 7) fun x7a x7l x7c => UnI (ρ 8) .i64 fun x8 => UnI (ρ 9) .i64 fun x9 => K out_3a out_3l out_3c p_5b p_5o x7a x7l x7c x8 x9 m
def k3 (K1 : Option Addr → Nat → Nat → Option Addr → Nat → Nat → Int → Int → Mem → Prop) (out_3a : Option Addr) (out_3l : Nat) (out_3c : Nat) (p_5b : Nat) (p_5o : Nat) (x7a : Option Addr) (x7l : Nat) (x7c : Nat) (x8 : Int) (x9 : Int) (R : Ending → Mem → Prop) (m : Mem) : Prop :=
  LdV m p_5b p_5o fun v =>
  UnB v fun x45_0 =>
  LdV m p_5b (p_5o + 1) fun v =>
  UnI v .i64 fun x45_1 =>
  LdV m p_5b (p_5o + 2) fun v =>
  UnI v .i64 fun x45_2 =>
  NewC m #[.bool x45_0, .int .i64 x45_1, .int .i64 x45_2] T_api_Piece fun b46 m1 =>
  BiN P .append #[T_sl_api_Piece, T_sl_api_Piece] T_sl_api_Piece #[false, false] #[.slice out_3a out_3l out_3c, .slice (some ⟨b46, 0, none⟩) 1 1] m1 (fun w m2 =>
    UnS w fun x47a x47l x47c =>
    K1 x47a x47l x47c x7a x7l x7c x8 (IntKind.i64.wrap (x9 + 1)) m2) (panicR R)
noncomputable def k3A (K1 : Option Addr → Nat → Nat → Option Addr → Nat → Nat → Int → Int → Mem → Prop) (R : Ending → Mem → Prop) : ACode := (.code (sR (sR (bB (sL (sR (sR (lP (bB (sR (sL (sR (sR (body))))))))))))))
def k2E (K : Option Addr → Nat → Nat → Nat → Nat → Int → Option Addr → Nat → Nat → Int → Int → Bool → Mem → Prop) : Env → Mem → Prop := fun ρ m => UnS (ρ 3) fun out_3a out_3l out_3c => UnPA (ρ 5) fun p_5b p_5o => UnI (ρ 6) .i64 fun k_6 => UnS (ρ 7) fun x7a x7l x7c => UnI (ρ 8) .i64 fun x8 => UnI (ρ 9) .i64 fun x9 => UnB (ρ 37) fun x37 => K out_3a out_3l out_3c p_5b p_5o k_6 x7a x7l x7c x8 x9 x37 m
def k2 (K1 : Option Addr → Nat → Nat → Option Addr → Nat → Nat → Int → Int → Mem → Prop) (out_3a : Option Addr) (out_3l : Nat) (out_3c : Nat) (p_5b : Nat) (p_5o : Nat) (k_6 : Int) (x7a : Option Addr) (x7l : Nat) (x7c : Nat) (x8 : Int) (x9 : Int) (x37 : Bool) (R : Ending → Mem → Prop) (m : Mem) : Prop :=
  Br x37 (
    LdV m p_5b (p_5o + 2) fun v =>
    UnI v .i64 fun x41 =>
    IxS out_3a out_3l k_6 3 fun x42b x42o =>
    St1 m x42b (x42o + 2) (.int .i64 x41) fun m1 =>
    K1 out_3a out_3l out_3c x7a x7l x7c x8 (IntKind.i64.wrap (x9 + 1)) m1) (
    k3 K1 out_3a out_3l out_3c p_5b p_5o x7a x7l x7c x8 x9 R m)
noncomputable def k2A (K1 : Option Addr → Nat → Nat → Option Addr → Nat → Nat → Int → Int → Mem → Prop) (R : Ending → Mem → Prop) : ACode := (.code (sR (sR (sL (sR (bB (sL (sR (sR (lP (bB (sR (sL (sR (sR (body))))))))))))))))
def l1E (K : Option Addr → Nat → Nat → Option Addr → Nat → Nat → Int → Int → Mem → Prop) : Env → Mem → Prop := fun ρ m => UnS (ρ 3) fun out_3a out_3l out_3c => UnS (ρ 7) fun x7a x7l x7c => UnI (ρ 8) .i64 fun x8 => UnI (ρ 9) .i64 fun x9 => K out_3a out_3l out_3c x7a x7l x7c x8 x9 m
def l1B  (K1 : Option Addr → Nat → Nat → Option Addr → Nat → Nat → Int → Int → Mem → Prop) (out_3a : Option Addr) (out_3l : Nat) (out_3c : Nat) (x7a : Option Addr) (x7l : Nat) (x7c : Nat) (x8 : Int) (x9 : Int) (R : Ending → Mem → Prop) (m : Mem) : Prop :=
  Br (decide (x9 < x8)) (
    IxS x7a x7l x9 3 fun x11b x11o =>
    LdV m x11b x11o fun v =>
    UnB v fun x12_0 =>
    LdV m x11b (x11o + 1) fun v =>
    UnI v .i64 fun x12_1 =>
    LdV m x11b (x11o + 2) fun v =>
    UnI v .i64 fun x12_2 =>
    NewC m #[.bool false, .int .i64 0, .int .i64 0] T_api_Piece fun b_p_5 m1 =>
    St1 m1 b_p_5 0 (.bool x12_0) fun m2 =>
    St1 m2 b_p_5 1 (.int .i64 x12_1) fun m3 =>
    St1 m3 b_p_5 2 (.int .i64 x12_2) fun m4 =>
    Sub m4 fun r5 =>
    Br (decide ((IntKind.i64.wrap (((out_3l : Nat) : Int) - 1)) ≥ 0)) (
      IxS out_3a out_3l (IntKind.i64.wrap (((out_3l : Nat) : Int) - 1)) 3 fun x21b x21o =>
      LdV r5 x21b x21o fun v =>
      UnB v fun x23 =>
      LdV m4 b_p_5 0 fun v =>
      UnB v fun x25 =>
      Br (x23 == x25) (
        IxS out_3a out_3l (IntKind.i64.wrap (((out_3l : Nat) : Int) - 1)) 3 fun x31b x31o =>
        LdV r5 x31b (x31o + 2) fun v =>
        UnI v .i64 fun x33 =>
        LdV m4 b_p_5 1 fun v =>
        UnI v .i64 fun x35 =>
        k2 K1 out_3a out_3l out_3c b_p_5 0 (IntKind.i64.wrap (((out_3l : Nat) : Int) - 1)) x7a x7l x7c x8 x9 (x33 == x35) R m4) (
        k2 K1 out_3a out_3l out_3c b_p_5 0 (IntKind.i64.wrap (((out_3l : Nat) : Int) - 1)) x7a x7l x7c x8 x9 false R m4)) (
      k2 K1 out_3a out_3l out_3c b_p_5 0 (IntKind.i64.wrap (((out_3l : Nat) : Int) - 1)) x7a x7l x7c x8 x9 false R m4)) (
    R (.returned (.slice out_3a out_3l out_3c)) m)
def l1  (out_3a : Option Addr) (out_3l : Nat) (out_3c : Nat) (x7a : Option Addr) (x7l : Nat) (x7c : Nat) (x8 : Int) (x9 : Int) (R : Ending → Mem → Prop) (m : Mem) : Prop :=
  ∃ (I : Nat → Option Addr → Nat → Nat → Option Addr → Nat → Nat → Int → Int → Mem → Prop) (N : Nat), I N out_3a out_3l out_3c x7a x7l x7c x8 x9 m ∧ ∀ N out_3a out_3l out_3c x7a x7l x7c x8 x9 m, I N out_3a out_3l out_3c x7a x7l x7c x8 x9 m → l1B  (fun out_3a out_3l out_3c x7a x7l x7c x8 x9 m => ∃ N1, N1 < N ∧ I N1 out_3a out_3l out_3c x7a x7l x7c x8 x9 m) out_3a out_3l out_3c x7a x7l x7c x8 x9 R m
noncomputable def l1A  (K1 : Option Addr → Nat → Nat → Option Addr → Nat → Nat → Int → Int → Mem → Prop) (R : Ending → Mem → Prop) : ACode := (.seq (.code (sL (lP (bB (sR (sL (sR (sR (body))))))))) (.seq (.code (sL (sR (lP (bB (sR (sL (sR (sR (body)))))))))) (.seq (.block 1 (.seq (.code (sL (bB (sL (sR (sR (lP (bB (sR (sL (sR (sR (body))))))))))))) (.seq (.seq (.code (sL (sL (sR (bB (sL (sR (sR (lP (bB (sR (sL (sR (sR (body))))))))))))))) (.seq (.code (sL (sR (sL (sR (bB (sL (sR (sR (lP (bB (sR (sL (sR (sR (body)))))))))))))))) (.cut (k2E fun out_3a out_3l out_3c p_5b p_5o k_6 x7a x7l x7c x8 x9 x37 m => k2 K1 out_3a out_3l out_3c p_5b p_5o k_6 x7a x7l x7c x8 x9 x37 R m) (sR (sR (sL (sR (bB (sL (sR (sR (lP (bB (sR (sL (sR (sR (body)))))))))))))))))) (.cut (k3E fun out_3a out_3l out_3c p_5b p_5o x7a x7l x7c x8 x9 m => k3 K1 out_3a out_3l out_3c p_5b p_5o x7a x7l x7c x8 x9 R m) (sR (sR (bB (sL (sR (sR (lP (bB (sR (sL (sR (sR (body))))))))))))))))) (.code (sR (sR (sR (lP (bB (sR (sL (sR (sR (body))))))))))))))
def e0 (l_0a : Option Addr) (l_0l : Nat) (l_0c : Nat) (R : Ending → Mem → Prop) (m : Mem) : Prop :=
  l1  none 0 0 l_0a l_0l l_0c ((l_0l : Nat) : Int) 0 R m
noncomputable def e0A (R : Ending → Mem → Prop) : ACode := (.seq (.code (sL (body))) (.seq (.code (sL (sR (body)))) (.seq (.seq (.code (sL (sL (sR (sR (body)))))) (.block 0 (.cut (l1E fun out_3a out_3l out_3c x7a x7l x7c x8 x9 m => l1  out_3a out_3l out_3c x7a x7l x7c x8 x9 R m) (.loop (lP (bB (sR (sL (sR (sR (body))))))))))) (.code (sR (sR (sR (body))))))))
theorem k3_eq (K1 : Option Addr → Nat → Nat → Option Addr → Nat → Nat → Int → Int → Mem → Prop) (R : Ending → Mem → Prop) (out_3a : Option Addr) (out_3l : Nat) (out_3c : Nat) (p_5b : Nat) (p_5o : Nat) (x7a : Option Addr) (x7l : Nat) (x7c : Nat) (x8 : Int) (x9 : Int) (ρ : Env) (m : Mem) : k3 K1 out_3a out_3l out_3c p_5b p_5o x7a x7l x7c x8 x9 R m = acpt P od (panicR R) (k3A K1 R) (blockQ 1 (thenQ (acpt P od (panicR R) (.code (sR (sR (sR (lP (bB (sR (sL (sR (sR (body))))))))))) (thenQ (l1E K1) (blockQ 0 (thenQ (acpt P od (panicR R) (.code (sR (sR (sR (body))))) (bodyQ P fn R)) (bodyQ P fn R))))) (thenQ (l1E K1) (blockQ 0 (thenQ (acpt P od (panicR R) (.code (sR (sR (sR (body))))) (bodyQ P fn R)) (bodyQ P fn R)))))) (upd (upd (upd (upd (upd ρ 9 (.int .i64 x9)) 8 (.int .i64 x8)) 7 (.slice x7a x7l x7c)) 5 (.pointer (some ⟨p_5b, p_5o, none⟩))) 3 (.slice out_3a out_3l out_3c)) m := by kernel_rfl
theorem k3_er (K1 : Option Addr → Nat → Nat → Option Addr → Nat → Nat → Int → Int → Mem → Prop) (R : Ending → Mem → Prop) : (k3A K1 R).erase = sR (sR (bB (sL (sR (sR (lP (bB (sR (sL (sR (sR (body)))))))))))) := by kernel_rfl
theorem k3_ok (K1 : Option Addr → Nat → Nat → Option Addr → Nat → Nat → Int → Int → Mem → Prop) (R : Ending → Mem → Prop) (ρ : Env) (m : Mem) (h : (k3E fun out_3a out_3l out_3c p_5b p_5o x7a x7l x7c x8 x9 m => k3 K1 out_3a out_3l out_3c p_5b p_5o x7a x7l x7c x8 x9 R m) ρ m) : cpt P od (panicR R) (sR (sR (bB (sL (sR (sR (lP (bB (sR (sL (sR (sR (body))))))))))))) (blockQ 1 (thenQ (acpt P od (panicR R) (.code (sR (sR (sR (lP (bB (sR (sL (sR (sR (body))))))))))) (thenQ (l1E K1) (blockQ 0 (thenQ (acpt P od (panicR R) (.code (sR (sR (sR (body))))) (bodyQ P fn R)) (bodyQ P fn R))))) (thenQ (l1E K1) (blockQ 0 (thenQ (acpt P od (panicR R) (.code (sR (sR (sR (body))))) (bodyQ P fn R)) (bodyQ P fn R)))))) ρ m := by
  unfold k3E at h
  obtain ⟨out_3a, out_3l, out_3c, e3, h⟩ := h.ex
  obtain ⟨p_5b, p_5o, e5, h⟩ := h.ex
  obtain ⟨x7a, x7l, x7c, e7, h⟩ := h.ex
  obtain ⟨x8, e8, h⟩ := h.ex
  obtain ⟨x9, e9, h⟩ := h.ex
  rw [← upd_self e3, ← upd_self e5, ← upd_self e7, ← upd_self e8, ← upd_self e9]
  rw [← k3_er K1 R]
  refine acpt_sound (P := P) (k3A K1 R) _ _ _ True.intro ?_
  exact Eq.mp (k3_eq K1 R out_3a out_3l out_3c p_5b p_5o x7a x7l x7c x8 x9 ρ m) h
theorem k2_eq (K1 : Option Addr → Nat → Nat → Option Addr → Nat → Nat → Int → Int → Mem → Prop) (R : Ending → Mem → Prop) (out_3a : Option Addr) (out_3l : Nat) (out_3c : Nat) (p_5b : Nat) (p_5o : Nat) (k_6 : Int) (x7a : Option Addr) (x7l : Nat) (x7c : Nat) (x8 : Int) (x9 : Int) (x37 : Bool) (ρ : Env) (m : Mem) : k2 K1 out_3a out_3l out_3c p_5b p_5o k_6 x7a x7l x7c x8 x9 x37 R m = acpt P od (panicR R) (k2A K1 R) (thenQ (acpt P od (panicR R) (.cut (k3E fun out_3a out_3l out_3c p_5b p_5o x7a x7l x7c x8 x9 m => k3 K1 out_3a out_3l out_3c p_5b p_5o x7a x7l x7c x8 x9 R m) (sR (sR (bB (sL (sR (sR (lP (bB (sR (sL (sR (sR (body)))))))))))))) (blockQ 1 (thenQ (acpt P od (panicR R) (.code (sR (sR (sR (lP (bB (sR (sL (sR (sR (body))))))))))) (thenQ (l1E K1) (blockQ 0 (thenQ (acpt P od (panicR R) (.code (sR (sR (sR (body))))) (bodyQ P fn R)) (bodyQ P fn R))))) (thenQ (l1E K1) (blockQ 0 (thenQ (acpt P od (panicR R) (.code (sR (sR (sR (body))))) (bodyQ P fn R)) (bodyQ P fn R))))))) (blockQ 1 (thenQ (acpt P od (panicR R) (.code (sR (sR (sR (lP (bB (sR (sL (sR (sR (body))))))))))) (thenQ (l1E K1) (blockQ 0 (thenQ (acpt P od (panicR R) (.code (sR (sR (sR (body))))) (bodyQ P fn R)) (bodyQ P fn R))))) (thenQ (l1E K1) (blockQ 0 (thenQ (acpt P od (panicR R) (.code (sR (sR (sR (body))))) (bodyQ P fn R)) (bodyQ P fn R))))))) (upd (upd (upd (upd (upd (upd (upd ρ 37 (.bool x37)) 9 (.int .i64 x9)) 8 (.int .i64 x8)) 7 (.slice x7a x7l x7c)) 6 (.int .i64 k_6)) 5 (.pointer (some ⟨p_5b, p_5o, none⟩))) 3 (.slice out_3a out_3l out_3c)) m := by kernel_rfl
theorem k2_er (K1 : Option Addr → Nat → Nat → Option Addr → Nat → Nat → Int → Int → Mem → Prop) (R : Ending → Mem → Prop) : (k2A K1 R).erase = sR (sR (sL (sR (bB (sL (sR (sR (lP (bB (sR (sL (sR (sR (body)))))))))))))) := by kernel_rfl
theorem k2_ok (K1 : Option Addr → Nat → Nat → Option Addr → Nat → Nat → Int → Int → Mem → Prop) (R : Ending → Mem → Prop) (ρ : Env) (m : Mem) (h : (k2E fun out_3a out_3l out_3c p_5b p_5o k_6 x7a x7l x7c x8 x9 x37 m => k2 K1 out_3a out_3l out_3c p_5b p_5o k_6 x7a x7l x7c x8 x9 x37 R m) ρ m) : cpt P od (panicR R) (sR (sR (sL (sR (bB (sL (sR (sR (lP (bB (sR (sL (sR (sR (body))))))))))))))) (thenQ (acpt P od (panicR R) (.cut (k3E fun out_3a out_3l out_3c p_5b p_5o x7a x7l x7c x8 x9 m => k3 K1 out_3a out_3l out_3c p_5b p_5o x7a x7l x7c x8 x9 R m) (sR (sR (bB (sL (sR (sR (lP (bB (sR (sL (sR (sR (body)))))))))))))) (blockQ 1 (thenQ (acpt P od (panicR R) (.code (sR (sR (sR (lP (bB (sR (sL (sR (sR (body))))))))))) (thenQ (l1E K1) (blockQ 0 (thenQ (acpt P od (panicR R) (.code (sR (sR (sR (body))))) (bodyQ P fn R)) (bodyQ P fn R))))) (thenQ (l1E K1) (blockQ 0 (thenQ (acpt P od (panicR R) (.code (sR (sR (sR (body))))) (bodyQ P fn R)) (bodyQ P fn R))))))) (blockQ 1 (thenQ (acpt P od (panicR R) (.code (sR (sR (sR (lP (bB (sR (sL (sR (sR (body))))))))))) (thenQ (l1E K1) (blockQ 0 (thenQ (acpt P od (panicR R) (.code (sR (sR (sR (body))))) (bodyQ P fn R)) (bodyQ P fn R))))) (thenQ (l1E K1) (blockQ 0 (thenQ (acpt P od (panicR R) (.code (sR (sR (sR (body))))) (bodyQ P fn R)) (bodyQ P fn R))))))) ρ m := by
  unfold k2E at h
  obtain ⟨out_3a, out_3l, out_3c, e3, h⟩ := h.ex
  obtain ⟨p_5b, p_5o, e5, h⟩ := h.ex
  obtain ⟨k_6, e6, h⟩ := h.ex
  obtain ⟨x7a, x7l, x7c, e7, h⟩ := h.ex
  obtain ⟨x8, e8, h⟩ := h.ex
  obtain ⟨x9, e9, h⟩ := h.ex
  obtain ⟨x37, e37, h⟩ := h.ex
  rw [← upd_self e3, ← upd_self e5, ← upd_self e6, ← upd_self e7, ← upd_self e8, ← upd_self e9, ← upd_self e37]
  rw [← k2_er K1 R]
  refine acpt_sound (P := P) (k2A K1 R) _ _ _ True.intro ?_
  exact Eq.mp (k2_eq K1 R out_3a out_3l out_3c p_5b p_5o k_6 x7a x7l x7c x8 x9 x37 ρ m) h
theorem l1_eq  (K1 : Option Addr → Nat → Nat → Option Addr → Nat → Nat → Int → Int → Mem → Prop) (R : Ending → Mem → Prop) (out_3a : Option Addr) (out_3l : Nat) (out_3c : Nat) (x7a : Option Addr) (x7l : Nat) (x7c : Nat) (x8 : Int) (x9 : Int) (ρ : Env) (m : Mem) : l1B  K1 out_3a out_3l out_3c x7a x7l x7c x8 x9 R m = acpt P od (panicR R) (l1A  K1 R) (thenQ (l1E K1) (blockQ 0 (thenQ (acpt P od (panicR R) (.code (sR (sR (sR (body))))) (bodyQ P fn R)) (bodyQ P fn R)))) (upd (upd (upd (upd ρ 9 (.int .i64 x9)) 8 (.int .i64 x8)) 7 (.slice x7a x7l x7c)) 3 (.slice out_3a out_3l out_3c)) m := by kernel_rfl
theorem l1_er  (K1 : Option Addr → Nat → Nat → Option Addr → Nat → Nat → Int → Int → Mem → Prop) (R : Ending → Mem → Prop) : (l1A  K1 R).erase = lP (bB (sR (sL (sR (sR (body)))))) := by kernel_rfl
theorem l1_ok  (R : Ending → Mem → Prop) (ρ : Env) (m : Mem) (h : (l1E fun out_3a out_3l out_3c x7a x7l x7c x8 x9 m => l1  out_3a out_3l out_3c x7a x7l x7c x8 x9 R m) ρ m) : cpt P od (panicR R) (.loop (lP (bB (sR (sL (sR (sR (body)))))))) (blockQ 0 (thenQ (acpt P od (panicR R) (.code (sR (sR (sR (body))))) (bodyQ P fn R)) (bodyQ P fn R))) ρ m := by
  unfold l1E at h
  obtain ⟨out_3a, out_3l, out_3c, e3, h⟩ := h.ex
  obtain ⟨x7a, x7l, x7c, e7, h⟩ := h.ex
  obtain ⟨x8, e8, h⟩ := h.ex
  obtain ⟨x9, e9, h⟩ := h.ex
  obtain ⟨I, N, h0, hs⟩ := h
  refine ⟨fun N => l1E (I N), N, (by show l1E (I N) ρ m; unfold l1E; rw [e3, e7, e8, e9]; exact h0), ?_⟩
  clear h0 e3 e7 e8 e9
  intro N ρ m h
  unfold l1E at h
  obtain ⟨out_3a, out_3l, out_3c, e3, h⟩ := h.ex
  obtain ⟨x7a, x7l, x7c, e7, h⟩ := h.ex
  obtain ⟨x8, e8, h⟩ := h.ex
  obtain ⟨x9, e9, h⟩ := h.ex
  refine cpt_mono (P := P) (lP (bB (sR (sL (sR (sR (body))))))) (Q := thenQ (l1E fun out_3a out_3l out_3c x7a x7l x7c x8 x9 m => ∃ N1, N1 < N ∧ I N1 out_3a out_3l out_3c x7a x7l x7c x8 x9 m) (blockQ 0 (thenQ (acpt P od (panicR R) (.code (sR (sR (sR (body))))) (bodyQ P fn R)) (bodyQ P fn R)))) (fun e ρ m h => ?_) ρ m ?_
  · cases e with
    | normal =>
      have h : l1E (fun out_3a out_3l out_3c x7a x7l x7c x8 x9 m => ∃ N1, N1 < N ∧ I N1 out_3a out_3l out_3c x7a x7l x7c x8 x9 m) ρ m := h
      unfold l1E at h
      obtain ⟨out_3a, out_3l, out_3c, e3, h⟩ := h.ex
      obtain ⟨x7a, x7l, x7c, e7, h⟩ := h.ex
      obtain ⟨x8, e8, h⟩ := h.ex
      obtain ⟨x9, e9, h⟩ := h.ex
      obtain ⟨N1, hlt, h⟩ := h
      exact ⟨N1, hlt, (by show l1E (I N1) ρ m; unfold l1E; rw [e3, e7, e8, e9]; exact h)⟩
    | _ => exact h
  have hh := hs N out_3a out_3l out_3c x7a x7l x7c x8 x9 m h
  generalize (fun out_3a out_3l out_3c x7a x7l x7c x8 x9 m => ∃ N1, N1 < N ∧ I N1 out_3a out_3l out_3c x7a x7l x7c x8 x9 m : Option Addr → Nat → Nat → Option Addr → Nat → Nat → Int → Int → Mem → Prop) = K1 at hh ⊢
  rw [← upd_self e3, ← upd_self e7, ← upd_self e8, ← upd_self e9]
  rw [← l1_er  K1 R]
  refine acpt_sound (P := P) (l1A  K1 R) _ _ _ ⟨⟨⟨True.intro, ⟨⟨(fun ρ m h => k3_ok K1 R ρ m h), ⟨⟨(fun ρ m h => k2_ok K1 R ρ m h), True.intro⟩, True.intro⟩⟩, True.intro⟩⟩, True.intro⟩, True.intro⟩ ?_
  exact Eq.mp (l1_eq  K1 R out_3a out_3l out_3c x7a x7l x7c x8 x9 ρ m) hh
theorem e0_eq (l_0a : Option Addr) (l_0l : Nat) (l_0c : Nat) (R : Ending → Mem → Prop) (m : Mem) : e0 l_0a l_0l l_0c R m = acpt P od (panicR R) (e0A R) (bodyQ P fn R) (argE (#[.slice l_0a l_0l l_0c] : Array Value).toList) m := by kernel_rfl
theorem ok (l_0a : Option Addr) (l_0l : Nat) (l_0c : Nat) (R : Ending → Mem → Prop) (m : Mem) (h : e0 l_0a l_0l l_0c R m) : HC P id #[.slice l_0a l_0l l_0c] m R := by
  refine HC_of (fn := fn) (c := body) (od := od) (tb := tb) Go.Proofs.Try.func27 (by kernel_rfl) (by kernel_rfl) follows (by kernel_rfl) (of_decide_eq_true (by kernel_rfl)) ?_
  have he : (e0A R).erase = body := by kernel_rfl
  rw [← he]
  refine acpt_sound (P := P) (e0A R) _ _ _ ⟨⟨⟨True.intro, ⟨(fun ρ m h => l1_ok  R ρ m h), True.intro⟩⟩, True.intro⟩, True.intro⟩ ?_
  exact Eq.mp (e0_eq l_0a l_0l l_0c R m) h
end piece_joined

/-! ### eyot/lru.New[[]byte] -/
namespace lru_New_s_byte
noncomputable def fn : Func := Go.Proofs.Try.f28
noncomputable def body : Code := fn.body.getD .skip
def od : Nat → Ord := fun _ => .done
def tb : Nat → Tab := fun _ => (0, [], [])
def e0 (most_0 : Int) (R : Ending → Mem → Prop) (m : Mem) : Prop :=
  NewC m #[.int .i64 most_0, .slice none 0 0] T_lru_Cache_byte fun b5 m1 =>
  R (.returned (.pointer (some ⟨b5, 0, none⟩))) m1
noncomputable def e0A (R : Ending → Mem → Prop) : ACode := (.code (body))
theorem e0_eq (most_0 : Int) (R : Ending → Mem → Prop) (m : Mem) : e0 most_0 R m = acpt P od (panicR R) (e0A R) (bodyQ P fn R) (argE (#[.int .i64 most_0] : Array Value).toList) m := by kernel_rfl
theorem ok (most_0 : Int) (R : Ending → Mem → Prop) (m : Mem) (h : e0 most_0 R m) : HC P id #[.int .i64 most_0] m R := by
  refine HC_of (fn := fn) (c := body) (od := od) (tb := tb) Go.Proofs.Try.func28 (by kernel_rfl) (by kernel_rfl) follows (by kernel_rfl) (of_decide_eq_true (by kernel_rfl)) ?_
  have he : (e0A R).erase = body := by kernel_rfl
  rw [← he]
  refine acpt_sound (P := P) (e0A R) _ _ _ True.intro ?_
  exact Eq.mp (e0_eq most_0 R m) h
end lru_New_s_byte

/-! ### (*eyot/doc.Doc).none -/
namespace doc_Doc_none
noncomputable def fn : Func := Go.Proofs.Try.f29
noncomputable def body : Code := fn.body.getD .skip
def od : Nat → Ord := fun _ => .done
def tb : Nat → Tab := fun _ => (0, [], [])
def e0 (d_0 : Option Addr) (R : Ending → Mem → Prop) (m : Mem) : Prop :=
  Br d_0.isNone (
    R (.returned (.bool true)) m) (
    NilC d_0 (fun x7b x7o =>
      LdV m x7b x7o fun v =>
      UnP v fun x9 =>
      Br x9.isNone (
        R (.returned (.bool true)) m) (
        NilC d_0 (fun x14b x14o =>
          LdV m x14b (x14o + 1) fun v =>
          UnP v fun x16 =>
          R (.returned (.bool x16.isNone)) m) (R (.panicked (nilPanic P)) m))) (R (.panicked (nilPanic P)) m))
noncomputable def e0A (R : Ending → Mem → Prop) : ACode := (.code (body))
theorem e0_eq (d_0 : Option Addr) (R : Ending → Mem → Prop) (m : Mem) : e0 d_0 R m = acpt P od (panicR R) (e0A R) (bodyQ P fn R) (argE (#[.pointer d_0] : Array Value).toList) m := by kernel_rfl
theorem ok (d_0 : Option Addr) (R : Ending → Mem → Prop) (m : Mem) (h : e0 d_0 R m) : HC P id #[.pointer d_0] m R := by
  refine HC_of (fn := fn) (c := body) (od := od) (tb := tb) Go.Proofs.Try.func29 (by kernel_rfl) (by kernel_rfl) follows (by kernel_rfl) (of_decide_eq_true (by kernel_rfl)) ?_
  have he : (e0A R).erase = body := by kernel_rfl
  rw [← he]
  refine acpt_sound (P := P) (e0A R) _ _ _ True.intro ?_
  exact Eq.mp (e0_eq d_0 R m) h
end doc_Doc_none

/-! ### (*eyot/doc.Doc).Bytes$1 -/
namespace doc_Doc_Bytes_1
noncomputable def fn : Func := Go.Proofs.Try.f30
noncomputable def body : Code := fn.body.getD .skip
noncomputable def ops : Array Oper := rgOps (sL body)
def od : Nat → Ord := fun _ => .done
def tb : Nat → Tab := fun _ => (0, [], [])
def tnone (c0b : Nat) (c1b : Nat)  (K : Mem → Prop) (m : Mem) : Prop :=
  K m
theorem df_none (c0b : Nat) (c1b : Nat)  (K : Mem → Prop) (m : Mem) (h : tnone c0b c1b  K m) : DF P id #[.pointer (some ⟨c0b, 0, none⟩), .pointer (some ⟨c1b, 0, none⟩)] none m K := by
  refine DF_of (tb := tb) (od := od) (gn := fn) (id := 0) (d := 5) (ops := ops) (ol := ops.toList.tail) (rest := sR body) (tys := #[]) (ty := 20) (pos := "doc.go:44") (af := #[])
    Go.Proofs.Try.func30 (by kernel_rfl) follows (by kernel_rfl) (by kernel_rfl) (by kernel_rfl) (of_decide_eq_true (by kernel_rfl)) (by kernel_rfl) ?_
  have e : tnone c0b c1b  K m = hops P ops (fun ρ m => cpt P od (fun _ _ => False) (sR body) (doneQ K) ρ m) (fun _ _ => False) ops.toList.tail (upd (argE (#[.pointer (some ⟨c0b, 0, none⟩), .pointer (some ⟨c1b, 0, none⟩)] : Array Value).toList) 5 (recV none)) m := by kernel_rfl
  exact Eq.mp e h
def tsome (c0b : Nat) (c1b : Nat) (v : Int) (K : Mem → Prop) (m : Mem) : Prop :=
  St1 m c0b 0 (.slice none 0 0) fun m1 =>
  St1 m1 c1b 0 (.int .i64 v) fun m2 =>
  K m2
theorem df_some (c0b : Nat) (c1b : Nat) (v : Int) (K : Mem → Prop) (m : Mem) (h : tsome c0b c1b v K m) : DF P id #[.pointer (some ⟨c0b, 0, none⟩), .pointer (some ⟨c1b, 0, none⟩)] (some (.iface T_api_Errno (.int .i64 v))) m K := by
  refine DF_of (tb := tb) (od := od) (gn := fn) (id := 0) (d := 5) (ops := ops) (ol := ops.toList.tail) (rest := sR body) (tys := #[]) (ty := 20) (pos := "doc.go:44") (af := #[])
    Go.Proofs.Try.func30 (by kernel_rfl) follows (by kernel_rfl) (by kernel_rfl) (by kernel_rfl) (of_decide_eq_true (by kernel_rfl)) (by kernel_rfl) ?_
  have e : tsome c0b c1b v K m = hops P ops (fun ρ m => cpt P od (fun _ _ => False) (sR body) (doneQ K) ρ m) (fun _ _ => False) ops.toList.tail (upd (argE (#[.pointer (some ⟨c0b, 0, none⟩), .pointer (some ⟨c1b, 0, none⟩)] : Array Value).toList) 5 (recV (some (.iface T_api_Errno (.int .i64 v))))) m := by kernel_rfl
  exact Eq.mp e h
end doc_Doc_Bytes_1

/-! ### (*eyot/piece.Text).Added -/
namespace piece_Text_Added
noncomputable def fn : Func := Go.Proofs.Try.f31
noncomputable def body : Code := fn.body.getD .skip
def od : Nat → Ord := fun _ => .done
def tb : Nat → Tab := fun _ => (0, [], [])
def e0 (t_0 : Option Addr) (R : Ending → Mem → Prop) (m : Mem) : Prop :=
  Br t_0.isNone (
    R (.returned (.slice none 0 0)) m) (
    NilC t_0 (fun x6b x6o =>
      LdV m x6b (x6o + 1) fun v =>
      UnS v fun x8a x8l x8c =>
      HC P slices_Clone_s_byte_byte.id #[.slice x8a x8l x8c] m (Cont (fun v m1 =>
          UnS v fun x9a x9l x9c =>
          R (.returned (.slice x9a x9l x9c)) m1) (panicR R))) (R (.panicked (nilPanic P)) m))
noncomputable def e0A (R : Ending → Mem → Prop) : ACode := (.code (body))
theorem e0_eq (t_0 : Option Addr) (R : Ending → Mem → Prop) (m : Mem) : e0 t_0 R m = acpt P od (panicR R) (e0A R) (bodyQ P fn R) (argE (#[.pointer t_0] : Array Value).toList) m := by kernel_rfl
theorem ok (t_0 : Option Addr) (R : Ending → Mem → Prop) (m : Mem) (h : e0 t_0 R m) : HC P id #[.pointer t_0] m R := by
  refine HC_of (fn := fn) (c := body) (od := od) (tb := tb) Go.Proofs.Try.func31 (by kernel_rfl) (by kernel_rfl) follows (by kernel_rfl) (of_decide_eq_true (by kernel_rfl)) ?_
  have he : (e0A R).erase = body := by kernel_rfl
  rw [← he]
  refine acpt_sound (P := P) (e0A R) _ _ _ True.intro ?_
  exact Eq.mp (e0_eq t_0 R m) h
end piece_Text_Added

/-! ### (*eyot/piece.Text).Pieces -/
namespace piece_Text_Pieces
noncomputable def fn : Func := Go.Proofs.Try.f32
noncomputable def body : Code := fn.body.getD .skip
def od : Nat → Ord := fun _ => .done
def tb : Nat → Tab := fun _ => (0, [], [])
def e0 (t_0 : Option Addr) (R : Ending → Mem → Prop) (m : Mem) : Prop :=
  Br t_0.isNone (
    R (.returned (.slice none 0 0)) m) (
    NilC t_0 (fun x6b x6o =>
      LdV m x6b x6o fun v =>
      UnS v fun x8a x8l x8c =>
      HC P slices_Clone_s_api_Piece_api_Piece.id #[.slice x8a x8l x8c] m (Cont (fun v m1 =>
          UnS v fun x9a x9l x9c =>
          R (.returned (.slice x9a x9l x9c)) m1) (panicR R))) (R (.panicked (nilPanic P)) m))
noncomputable def e0A (R : Ending → Mem → Prop) : ACode := (.code (body))
theorem e0_eq (t_0 : Option Addr) (R : Ending → Mem → Prop) (m : Mem) : e0 t_0 R m = acpt P od (panicR R) (e0A R) (bodyQ P fn R) (argE (#[.pointer t_0] : Array Value).toList) m := by kernel_rfl
theorem ok (t_0 : Option Addr) (R : Ending → Mem → Prop) (m : Mem) (h : e0 t_0 R m) : HC P id #[.pointer t_0] m R := by
  refine HC_of (fn := fn) (c := body) (od := od) (tb := tb) Go.Proofs.Try.func32 (by kernel_rfl) (by kernel_rfl) follows (by kernel_rfl) (of_decide_eq_true (by kernel_rfl)) ?_
  have he : (e0A R).erase = body := by kernel_rfl
  rw [← he]
  refine acpt_sound (P := P) (e0A R) _ _ _ True.intro ?_
  exact Eq.mp (e0_eq t_0 R m) h
end piece_Text_Pieces

/-! ### eyot/doc.must -/
namespace doc_must
noncomputable def fn : Func := Go.Proofs.Try.f33
noncomputable def body : Code := fn.body.getD .skip
def od : Nat → Ord := fun _ => .done
def tb : Nat → Tab := fun _ => (0, [], [])
def e0 (b_0a : Option Addr) (b_0l : Nat) (b_0c : Nat) (e_1 : Int) (R : Ending → Mem → Prop) (m : Mem) : Prop :=
  Br (e_1 != 0) (
    R (.panicked [{ v := .iface T_api_Errno (.int .i64 e_1), recovered := false }]) m) (
    R (.returned (.slice b_0a b_0l b_0c)) m)
noncomputable def e0A (R : Ending → Mem → Prop) : ACode := (.code (body))
theorem e0_eq (b_0a : Option Addr) (b_0l : Nat) (b_0c : Nat) (e_1 : Int) (R : Ending → Mem → Prop) (m : Mem) : e0 b_0a b_0l b_0c e_1 R m = acpt P od (panicR R) (e0A R) (bodyQ P fn R) (argE (#[.slice b_0a b_0l b_0c, .int .i64 e_1] : Array Value).toList) m := by kernel_rfl
theorem ok (b_0a : Option Addr) (b_0l : Nat) (b_0c : Nat) (e_1 : Int) (R : Ending → Mem → Prop) (m : Mem) (h : e0 b_0a b_0l b_0c e_1 R m) : HC P id #[.slice b_0a b_0l b_0c, .int .i64 e_1] m R := by
  refine HC_of (fn := fn) (c := body) (od := od) (tb := tb) Go.Proofs.Try.func33 (by kernel_rfl) (by kernel_rfl) follows (by kernel_rfl) (of_decide_eq_true (by kernel_rfl)) ?_
  have he : (e0A R).erase = body := by kernel_rfl
  rw [← he]
  refine acpt_sound (P := P) (e0A R) _ _ _ True.intro ?_
  exact Eq.mp (e0_eq b_0a b_0l b_0c e_1 R m) h
end doc_must

/-! ### (*eyot/file.File).Bytes -/
namespace file_File_Bytes
noncomputable def fn : Func := Go.Proofs.Try.f34
noncomputable def fnR : Func := { fn with results := #[] }
noncomputable def body : Code := fn.body.getD .skip
def od : Nat → Ord := fun | 9 => ordL [(0, 1), (1, 3), (2, 3), (3, 3), (4, 3), (5, 3), (6, 3), (7, 3), (8, 3), (9, 3), (10, 3), (11, 3), (12, 3), (13, 3), (14, 3), (15, 3), (16, 3), (17, 2), (18, 2)] .done | _ => .done
def tb : Nat → Tab := fun | 9 => (393216, [0, 0, 0, 0, 0, 24, 60, 124, 0, 0, 0, 1536, 3840, 0, 8192, 32512, 65534, 131071, 262143], [(0, 64, 60), (0, 1024, 61), (0, 2, 62), (0, 512, 63), (0, 256, 64), (24, 13835058055282163712, 65), (36, 20752587082923245568, 66), (64, 36893488147419103232, 67), (0, 4, 68), (0, 512, 69), (0, 256, 70), (1536, 885443715538058477568, 71), (2304, 1328165573307087716352, 72), (0, 1024, 73), (8192, 4722366482869645213696, 74), (20480, 11805916207174113034240, 75), (32898, 18964405829278025908224, 76), (65537, 37779508323709465133056, 77), (262143, 75557863725914323419200, 0)]) | _ => (0, [], [])
def l2E (K : Option Addr → Int → Int → Nat → Nat → Nat → Nat → Int → Int → Mem → Prop) : Env → Mem → Prop := fun ρ m => UnP (ρ 0) fun x0 => UnI (ρ 1) .i64 fun x1 => UnI (ρ 2) .i64 fun x2 => UnPA (ρ 6) fun x6b x6o => UnPA (ρ 7) fun x7b x7o => UnI (ρ 8) .i64 fun x8 => UnI (ρ 9) .i64 fun x9 => K x0 x1 x2 x6b x6o x7b x7o x8 x9 m
def l2B  (K2 : Option Addr → Int → Int → Nat → Nat → Nat → Nat → Int → Int → Mem → Prop) (x0 : Option Addr) (x1 : Int) (x2 : Int) (x6b : Nat) (x6o : Nat) (x7b : Nat) (x7o : Nat) (x8 : Int) (x9 : Int) (R : Ending → Mem → Prop) (m : Mem) : Prop :=
  Br (decide ((IntKind.i64.wrap (x9 * x8)) < x2)) (
    Br (decide (x1 < x2)) (
      HC P file_File_page.id #[.pointer x0, .int .i64 x9] m (Cont (fun v m1 =>
          UnS v fun x58a x58l x58c =>
          Sub m1 fun r2 =>
          LdV r2 x6b x6o fun v =>
          UnS v fun x59a x59l x59c =>
          SlS x58a x58c (if 0 > (IntKind.i64.wrap (x1 - (IntKind.i64.wrap (x9 * x8)))) then 0 else IntKind.i64.wrap (x1 - (IntKind.i64.wrap (x9 * x8)))) (if ((x58l : Nat) : Int) < (IntKind.i64.wrap (x2 - (IntKind.i64.wrap (x9 * x8)))) then ((x58l : Nat) : Int) else IntKind.i64.wrap (x2 - (IntKind.i64.wrap (x9 * x8)))) 1 fun x75a x75l x75c =>
          BiN P .append #[T_sl_uint8, T_sl_uint8] T_sl_uint8 #[false, false] #[.slice x59a x59l x59c, .slice x75a x75l x75c] m1 (fun w m3 =>
            UnS w fun x76a x76l x76c =>
            St1 m3 x6b x6o (.slice x76a x76l x76c) fun m4 =>
            K2 x0 x1 x2 x6b x6o x7b x7o x8 (IntKind.i64.wrap (x9 + 1)) m4) (panicR R)) (panicR R))) (
      LdV m x6b x6o fun v =>
      UnS v fun x77a x77l x77c =>
      St1 m x6b x6o (.slice x77a x77l x77c) fun m1 =>
      St1 m1 x7b x7o (.int .i64 0) fun m2 =>
      R (.returned (.tuple #[])) m2)) (
    LdV m x6b x6o fun v =>
    UnS v fun x77a x77l x77c =>
    St1 m x6b x6o (.slice x77a x77l x77c) fun m1 =>
    St1 m1 x7b x7o (.int .i64 0) fun m2 =>
    R (.returned (.tuple #[])) m2)
def l2  (x0 : Option Addr) (x1 : Int) (x2 : Int) (x6b : Nat) (x6o : Nat) (x7b : Nat) (x7o : Nat) (x8 : Int) (x9 : Int) (R : Ending → Mem → Prop) (m : Mem) : Prop :=
  ∃ (I : Nat → Option Addr → Int → Int → Nat → Nat → Nat → Nat → Int → Int → Mem → Prop) (N : Nat), I N x0 x1 x2 x6b x6o x7b x7o x8 x9 m ∧ ∀ N x0 x1 x2 x6b x6o x7b x7o x8 x9 m, I N x0 x1 x2 x6b x6o x7b x7o x8 x9 m → l2B  (fun x0 x1 x2 x6b x6o x7b x7o x8 x9 m => ∃ N1, N1 < N ∧ I N1 x0 x1 x2 x6b x6o x7b x7o x8 x9 m) x0 x1 x2 x6b x6o x7b x7o x8 x9 R m
noncomputable def l2A  (K2 : Option Addr → Int → Int → Nat → Nat → Nat → Nat → Int → Int → Mem → Prop) (R : Ending → Mem → Prop) : ACode := (.code (lP (bB (sR (sL (sR (sR (sR (sR (body))))))))))
def k1E (K : Option Addr → Int → Int → Nat → Nat → Nat → Nat → Mem → Prop) : Env → Mem → Prop := fun ρ m => UnP (ρ 0) fun x0 => UnI (ρ 1) .i64 fun x1 => UnI (ρ 2) .i64 fun x2 => UnPA (ρ 6) fun x6b x6o => UnPA (ρ 7) fun x7b x7o => K x0 x1 x2 x6b x6o x7b x7o m
def k1  (x0 : Option Addr) (x1 : Int) (x2 : Int) (x6b : Nat) (x6o : Nat) (x7b : Nat) (x7o : Nat) (R : Ending → Mem → Prop) (m : Mem) : Prop :=
  NilC x0 (fun x37b x37o =>
    LdV m x37b x37o fun v =>
    UnP v fun x39 =>
    HC P page_Pages_Size.id #[.pointer x39] m (Cont (fun v m1 =>
        UnI v .i64 fun x40 =>
        NzI x40 (
          l2  x0 x1 x2 x6b x6o x7b x7o x40 (IntKind.i64.wrap (Int.tdiv x1 x40)) R m1)) (panicR R))) (R (.panicked (nilPanic P)) m)
noncomputable def k1A  (R : Ending → Mem → Prop) : ACode := (.seq (.code (sL (sR (sR (sR (body)))))) (.seq (.seq (.code (sL (sL (sR (sR (sR (sR (body)))))))) (.block 0 (.cut (l2E fun x0 x1 x2 x6b x6o x7b x7o x8 x9 m => l2  x0 x1 x2 x6b x6o x7b x7o x8 x9 R m) (.loop (lP (bB (sR (sL (sR (sR (sR (sR (body))))))))))))) (.code (sR (sR (sR (sR (sR (body)))))))))
theorem l2_eq  (K2 : Option Addr → Int → Int → Nat → Nat → Nat → Nat → Int → Int → Mem → Prop) (R : Ending → Mem → Prop) (x0 : Option Addr) (x1 : Int) (x2 : Int) (x6b : Nat) (x6o : Nat) (x7b : Nat) (x7o : Nat) (x8 : Int) (x9 : Int) (ρ : Env) (m : Mem) : l2B  K2 x0 x1 x2 x6b x6o x7b x7o x8 x9 R m = acpt P od (panicR R) (l2A  K2 R) (thenQ (l2E K2) (blockQ 0 (thenQ (acpt P od (panicR R) (.code (sR (sR (sR (sR (sR (body))))))) (bodyQ P fnR R)) (bodyQ P fnR R)))) (upd (upd (upd (upd (upd (upd (upd ρ 9 (.int .i64 x9)) 8 (.int .i64 x8)) 7 (.pointer (some ⟨x7b, x7o, none⟩))) 6 (.pointer (some ⟨x6b, x6o, none⟩))) 2 (.int .i64 x2)) 1 (.int .i64 x1)) 0 (.pointer x0)) m := by kernel_rfl
theorem l2_er  (K2 : Option Addr → Int → Int → Nat → Nat → Nat → Nat → Int → Int → Mem → Prop) (R : Ending → Mem → Prop) : (l2A  K2 R).erase = lP (bB (sR (sL (sR (sR (sR (sR (body)))))))) := by kernel_rfl
theorem l2_ok  (R : Ending → Mem → Prop) (ρ : Env) (m : Mem) (h : (l2E fun x0 x1 x2 x6b x6o x7b x7o x8 x9 m => l2  x0 x1 x2 x6b x6o x7b x7o x8 x9 R m) ρ m) : cpt P od (panicR R) (.loop (lP (bB (sR (sL (sR (sR (sR (sR (body)))))))))) (blockQ 0 (thenQ (acpt P od (panicR R) (.code (sR (sR (sR (sR (sR (body))))))) (bodyQ P fnR R)) (bodyQ P fnR R))) ρ m := by
  unfold l2E at h
  obtain ⟨x0, e0, h⟩ := h.ex
  obtain ⟨x1, e1, h⟩ := h.ex
  obtain ⟨x2, e2, h⟩ := h.ex
  obtain ⟨x6b, x6o, e6, h⟩ := h.ex
  obtain ⟨x7b, x7o, e7, h⟩ := h.ex
  obtain ⟨x8, e8, h⟩ := h.ex
  obtain ⟨x9, e9, h⟩ := h.ex
  obtain ⟨I, N, h0, hs⟩ := h
  refine ⟨fun N => l2E (I N), N, (by show l2E (I N) ρ m; unfold l2E; rw [e0, e1, e2, e6, e7, e8, e9]; exact h0), ?_⟩
  clear h0 e0 e1 e2 e6 e7 e8 e9
  intro N ρ m h
  unfold l2E at h
  obtain ⟨x0, e0, h⟩ := h.ex
  obtain ⟨x1, e1, h⟩ := h.ex
  obtain ⟨x2, e2, h⟩ := h.ex
  obtain ⟨x6b, x6o, e6, h⟩ := h.ex
  obtain ⟨x7b, x7o, e7, h⟩ := h.ex
  obtain ⟨x8, e8, h⟩ := h.ex
  obtain ⟨x9, e9, h⟩ := h.ex
  refine cpt_mono (P := P) (lP (bB (sR (sL (sR (sR (sR (sR (body))))))))) (Q := thenQ (l2E fun x0 x1 x2 x6b x6o x7b x7o x8 x9 m => ∃ N1, N1 < N ∧ I N1 x0 x1 x2 x6b x6o x7b x7o x8 x9 m) (blockQ 0 (thenQ (acpt P od (panicR R) (.code (sR (sR (sR (sR (sR (body))))))) (bodyQ P fnR R)) (bodyQ P fnR R)))) (fun e ρ m h => ?_) ρ m ?_
  · cases e with
    | normal =>
      have h : l2E (fun x0 x1 x2 x6b x6o x7b x7o x8 x9 m => ∃ N1, N1 < N ∧ I N1 x0 x1 x2 x6b x6o x7b x7o x8 x9 m) ρ m := h
      unfold l2E at h
      obtain ⟨x0, e0, h⟩ := h.ex
      obtain ⟨x1, e1, h⟩ := h.ex
      obtain ⟨x2, e2, h⟩ := h.ex
      obtain ⟨x6b, x6o, e6, h⟩ := h.ex
      obtain ⟨x7b, x7o, e7, h⟩ := h.ex
      obtain ⟨x8, e8, h⟩ := h.ex
      obtain ⟨x9, e9, h⟩ := h.ex
      obtain ⟨N1, hlt, h⟩ := h
      exact ⟨N1, hlt, (by show l2E (I N1) ρ m; unfold l2E; rw [e0, e1, e2, e6, e7, e8, e9]; exact h)⟩
    | _ => exact h
  have hh := hs N x0 x1 x2 x6b x6o x7b x7o x8 x9 m h
  generalize (fun x0 x1 x2 x6b x6o x7b x7o x8 x9 m => ∃ N1, N1 < N ∧ I N1 x0 x1 x2 x6b x6o x7b x7o x8 x9 m : Option Addr → Int → Int → Nat → Nat → Nat → Nat → Int → Int → Mem → Prop) = K2 at hh ⊢
  rw [← upd_self e0, ← upd_self e1, ← upd_self e2, ← upd_self e6, ← upd_self e7, ← upd_self e8, ← upd_self e9]
  rw [← l2_er  K2 R]
  refine acpt_sound (P := P) (l2A  K2 R) _ _ _ True.intro ?_
  exact Eq.mp (l2_eq  K2 R x0 x1 x2 x6b x6o x7b x7o x8 x9 ρ m) hh
theorem k1_eq  (R : Ending → Mem → Prop) (x0 : Option Addr) (x1 : Int) (x2 : Int) (x6b : Nat) (x6o : Nat) (x7b : Nat) (x7o : Nat) (ρ : Env) (m : Mem) : k1  x0 x1 x2 x6b x6o x7b x7o R m = acpt P od (panicR R) (k1A  R) (bodyQ P fnR R) (upd (upd (upd (upd (upd ρ 7 (.pointer (some ⟨x7b, x7o, none⟩))) 6 (.pointer (some ⟨x6b, x6o, none⟩))) 2 (.int .i64 x2)) 1 (.int .i64 x1)) 0 (.pointer x0)) m := by kernel_rfl
theorem k1_er  (R : Ending → Mem → Prop) : (k1A  R).erase = sR (sR (sR (body))) := by kernel_rfl
theorem k1_ok  (R : Ending → Mem → Prop) (ρ : Env) (m : Mem) (h : (k1E fun x0 x1 x2 x6b x6o x7b x7o m => k1  x0 x1 x2 x6b x6o x7b x7o R m) ρ m) : cpt P od (panicR R) (sR (sR (sR (body)))) (bodyQ P fnR R) ρ m := by
  unfold k1E at h
  obtain ⟨x0, e0, h⟩ := h.ex
  obtain ⟨x1, e1, h⟩ := h.ex
  obtain ⟨x2, e2, h⟩ := h.ex
  obtain ⟨x6b, x6o, e6, h⟩ := h.ex
  obtain ⟨x7b, x7o, e7, h⟩ := h.ex
  rw [← upd_self e0, ← upd_self e1, ← upd_self e2, ← upd_self e6, ← upd_self e7]
  rw [← k1_er  R]
  refine acpt_sound (P := P) (k1A  R) _ _ _ ⟨⟨True.intro, ⟨(fun ρ m h => l2_ok  R ρ m h), True.intro⟩⟩, True.intro⟩ ?_
  exact Eq.mp (k1_eq  R x0 x1 x2 x6b x6o x7b x7o ρ m) h
/-- Reading the results. -/
def out (d6b : Nat) (d6o : Nat) (d7b : Nat) (d7o : Nat) (R : Ending → Mem → Prop) (m : Mem) : Prop :=
  LdV m d6b d6o fun v =>
  UnS v fun res0a res0l res0c =>
  LdV m d7b d7o fun v =>
  UnI v .i64 fun res1 =>
  R (.returned (.tuple #[.slice res0a res0l res0c, .int .i64 res1])) m
def p0 (a0 : Option Addr) (a1 : Int) (a2 : Int) (R : Ending → Mem → Prop) (KK : Option Addr → Int → Int → Nat → Nat → Nat → Nat → Mem → Prop) (m : Mem) : Prop :=
  NewC m #[.slice none 0 0] T_sl_uint8 fun b6 m1 =>
  NewC m1 #[.int .i64 0] T_api_Errno fun b7 m2 =>
  Br a0.isNone (
    St1 m2 b6 0 (.slice none 0 0) fun m3 =>
    St1 m3 b7 0 (.int .i64 1) fun m4 =>
    LdV m4 b6 0 fun v =>
    UnS v fun res0a res0l res0c =>
    LdV m4 b7 0 fun v =>
    UnI v .i64 fun res1 =>
    R (.returned (.tuple #[.slice res0a res0l res0c, .int .i64 res1])) m4) (
    NilC a0 (fun x15b x15o =>
      LdV m2 x15b x15o fun v =>
      UnP v fun x17 =>
      Br x17.isNone (
        St1 m2 b6 0 (.slice none 0 0) fun m3 =>
        St1 m3 b7 0 (.int .i64 1) fun m4 =>
        LdV m4 b6 0 fun v =>
        UnS v fun res0a res0l res0c =>
        LdV m4 b7 0 fun v =>
        UnI v .i64 fun res1 =>
        R (.returned (.tuple #[.slice res0a res0l res0c, .int .i64 res1])) m4) (
        Br (decide (a1 < 0)) (
          St1 m2 b6 0 (.slice none 0 0) fun m3 =>
          St1 m3 b7 0 (.int .i64 1) fun m4 =>
          LdV m4 b6 0 fun v =>
          UnS v fun res0a res0l res0c =>
          LdV m4 b7 0 fun v =>
          UnI v .i64 fun res1 =>
          R (.returned (.tuple #[.slice res0a res0l res0c, .int .i64 res1])) m4) (
          Br (decide (a1 > a2)) (
            St1 m2 b6 0 (.slice none 0 0) fun m3 =>
            St1 m3 b7 0 (.int .i64 1) fun m4 =>
            LdV m4 b6 0 fun v =>
            UnS v fun res0a res0l res0c =>
            LdV m4 b7 0 fun v =>
            UnI v .i64 fun res1 =>
            R (.returned (.tuple #[.slice res0a res0l res0c, .int .i64 res1])) m4) (
            HC P file_File_Len.id #[.pointer a0] m2 (Cont (fun v m3 =>
                UnI v .i64 fun x32 =>
                Br (decide (a2 > x32)) (
                  St1 m3 b6 0 (.slice none 0 0) fun m4 =>
                  St1 m4 b7 0 (.int .i64 1) fun m5 =>
                  LdV m5 b6 0 fun v =>
                  UnS v fun res0a res0l res0c =>
                  LdV m5 b7 0 fun v =>
                  UnI v .i64 fun res1 =>
                  R (.returned (.tuple #[.slice res0a res0l res0c, .int .i64 res1])) m5) (
                  KK a0 a1 a2 b6 0 b7 0 m3)) (panicR R)))))) (R (.panicked (nilPanic P)) m2))
/-- The rest, its end told by the deferred call. -/
def rest0 (x0 : Option Addr) (x1 : Int) (x2 : Int) (x6b : Nat) (x6o : Nat) (x7b : Nat) (x7o : Nat) (R : Ending → Mem → Prop) (m : Mem) : Prop := k1 x0 x1 x2 x6b x6o x7b x7o (DefR P file_File_Bytes_1.id #[.pointer (some ⟨x6b, x6o, none⟩), .pointer (some ⟨x7b, x7o, none⟩)] (out x6b x6o x7b x7o R)) m
theorem p0_eq (a0 : Option Addr) (a1 : Int) (a2 : Int) (R : Ending → Mem → Prop) (KK : Option Addr → Int → Int → Nat → Nat → Nat → Nat → Mem → Prop) (m : Mem) : p0 a0 a1 a2 R KK m = cpt P od (panicR R) (sL (body)) (aheadQ P fn R (fun ρ m => cpt P od (panicR R) (sL (sR (body))) (aheadQ P fn R (k1E KK)) ρ m)) (argE (#[.pointer a0, .int .i64 a1, .int .i64 a2] : Array Value).toList) m := by kernel_rfl
theorem cok : codeOk P od tb 8 fn.ntmps (sR (sR (sR (body)))) = true := by kernel_rfl
theorem rest_eq (x0 : Option Addr) (x1 : Int) (x2 : Int) (x6b : Nat) (x6o : Nat) (x7b : Nat) (x7o : Nat) (R : Ending → Mem → Prop) (ρ : Env) (m : Mem) : rest0 x0 x1 x2 x6b x6o x7b x7o R m = (k1E fun ux0 ux1 ux2 ux6b ux6o ux7b ux7o m => k1 ux0 ux1 ux2 ux6b ux6o ux7b ux7o (DefR P file_File_Bytes_1.id #[.pointer (some ⟨x6b, x6o, none⟩), .pointer (some ⟨x7b, x7o, none⟩)] (out x6b x6o x7b x7o R)) m) (upd (upd (upd (upd (upd (upd ρ 7 (.pointer (some ⟨x7b, x7o, none⟩))) 6 (.pointer (some ⟨x6b, x6o, none⟩))) 2 (.int .i64 x2)) 1 (.int .i64 x1)) 0 (.pointer x0)) 35 (.func (.func 43) #[] #[.pointer (some ⟨x6b, x6o, none⟩), .pointer (some ⟨x7b, x7o, none⟩)])) m := by kernel_rfl
theorem rest_ok (x0 : Option Addr) (x1 : Int) (x2 : Int) (x6b : Nat) (x6o : Nat) (x7b : Nat) (x7o : Nat) (R : Ending → Mem → Prop) (ρ : Env) (m : Mem) (h : rest0 x0 x1 x2 x6b x6o x7b x7o R m) : cpt P od (panicR (DefR P file_File_Bytes_1.id #[.pointer (some ⟨x6b, x6o, none⟩), .pointer (some ⟨x7b, x7o, none⟩)] (out x6b x6o x7b x7o R))) (sR (sR (sR (body)))) (bodyQ P fnR (DefR P file_File_Bytes_1.id #[.pointer (some ⟨x6b, x6o, none⟩), .pointer (some ⟨x7b, x7o, none⟩)] (out x6b x6o x7b x7o R))) (upd (upd (upd (upd (upd (upd ρ 7 (.pointer (some ⟨x7b, x7o, none⟩))) 6 (.pointer (some ⟨x6b, x6o, none⟩))) 2 (.int .i64 x2)) 1 (.int .i64 x1)) 0 (.pointer x0)) 35 (.func (.func 43) #[] #[.pointer (some ⟨x6b, x6o, none⟩), .pointer (some ⟨x7b, x7o, none⟩)])) m := k1_ok (DefR P file_File_Bytes_1.id #[.pointer (some ⟨x6b, x6o, none⟩), .pointer (some ⟨x7b, x7o, none⟩)] (out x6b x6o x7b x7o R)) (upd (upd (upd (upd (upd (upd ρ 7 (.pointer (some ⟨x7b, x7o, none⟩))) 6 (.pointer (some ⟨x6b, x6o, none⟩))) 2 (.int .i64 x2)) 1 (.int .i64 x1)) 0 (.pointer x0)) 35 (.func (.func 43) #[] #[.pointer (some ⟨x6b, x6o, none⟩), .pointer (some ⟨x7b, x7o, none⟩)])) m (Eq.mp (rest_eq x0 x1 x2 x6b x6o x7b x7o R ρ m) h)
theorem rest_eq2 (x0 : Option Addr) (x1 : Int) (x2 : Int) (x6b : Nat) (x6o : Nat) (x7b : Nat) (x7o : Nat) (R : Ending → Mem → Prop) (ρ : Env) (m : Mem) : cpt P od (panicR (DefR P file_File_Bytes_1.id #[.pointer (some ⟨x6b, x6o, none⟩), .pointer (some ⟨x7b, x7o, none⟩)] (out x6b x6o x7b x7o R))) (sR (sR (sR (body)))) (bodyQ P fnR (DefR P file_File_Bytes_1.id #[.pointer (some ⟨x6b, x6o, none⟩), .pointer (some ⟨x7b, x7o, none⟩)] (out x6b x6o x7b x7o R))) (upd (upd (upd (upd (upd (upd ρ 7 (.pointer (some ⟨x7b, x7o, none⟩))) 6 (.pointer (some ⟨x6b, x6o, none⟩))) 2 (.int .i64 x2)) 1 (.int .i64 x1)) 0 (.pointer x0)) 35 (.func (.func 43) #[] #[.pointer (some ⟨x6b, x6o, none⟩), .pointer (some ⟨x7b, x7o, none⟩)])) m = restP P od fn (sR (sR (sR (body)))) 43 ((#[.tmp 6, .tmp 7] : Array Operand).map (evr (upd (upd (upd (upd (upd ρ 7 (.pointer (some ⟨x7b, x7o, none⟩))) 6 (.pointer (some ⟨x6b, x6o, none⟩))) 2 (.int .i64 x2)) 1 (.int .i64 x1)) 0 (.pointer x0)))) R (upd (upd (upd (upd (upd (upd ρ 7 (.pointer (some ⟨x7b, x7o, none⟩))) 6 (.pointer (some ⟨x6b, x6o, none⟩))) 2 (.int .i64 x2)) 1 (.int .i64 x1)) 0 (.pointer x0)) 35 (.func (.func 43) #[] ((#[.tmp 6, .tmp 7] : Array Operand).map (evr (upd (upd (upd (upd (upd ρ 7 (.pointer (some ⟨x7b, x7o, none⟩))) 6 (.pointer (some ⟨x6b, x6o, none⟩))) 2 (.int .i64 x2)) 1 (.int .i64 x1)) 0 (.pointer x0)))))) m := by kernel_rfl
theorem ok (a0 : Option Addr) (a1 : Int) (a2 : Int) (R : Ending → Mem → Prop) (m : Mem) (h : p0 a0 a1 a2 R (fun x0 x1 x2 x6b x6o x7b x7o m => rest0 x0 x1 x2 x6b x6o x7b x7o R m) m) : HC P id #[.pointer a0, .int .i64 a1, .int .i64 a2] m R := by
  have h := Eq.mp (p0_eq a0 a1 a2 R (fun x0 x1 x2 x6b x6o x7b x7o m => rest0 x0 x1 x2 x6b x6o x7b x7o R m) m) h
  refine HC_of_DW (fn := fn) (c := (.seq (sL (body)) (.seq (sL (sR (body))) (.seq (.region 3 #[⟨some 35, .makeFunc (.func 43) #[] #[.tmp 6, .tmp 7], 1, "file.go:47", #[], none⟩, ⟨none, .defer ⟨.value (.tmp 35), #[], #[]⟩, 0, "file.go:47", #[⟨0, .data⟩], none⟩] false) (sR (sR (sR (body)))))))) Go.Proofs.Try.func34 (by kernel_rfl) (by kernel_rfl) (of_decide_eq_true (by kernel_rfl)) ?_
  refine DW_seq (tb := tb) (od := od) follows (by kernel_rfl) ?_
  refine cpt_mono (P := P) (sL (body)) (Q := aheadQ P fn R (fun ρ m => cpt P od (panicR R) (sL (sR (body))) (aheadQ P fn R (k1E (fun x0 x1 x2 x6b x6o x7b x7o m => rest0 x0 x1 x2 x6b x6o x7b x7o R m))) ρ m)) (fun e ρ m h => ?_) _ _ h
  cases e with
  | normal =>
    refine DW_seq (tb := tb) (od := od) follows (by kernel_rfl) ?_
    refine cpt_mono (P := P) (sL (sR (body))) (Q := aheadQ P fn R (k1E (fun x0 x1 x2 x6b x6o x7b x7o m => rest0 x0 x1 x2 x6b x6o x7b x7o R m))) (fun e ρ m h => ?_) _ _ h
    cases e with
    | normal =>
      have h : k1E (fun x0 x1 x2 x6b x6o x7b x7o m => rest0 x0 x1 x2 x6b x6o x7b x7o R m) ρ m := h
      unfold k1E at h
      obtain ⟨x0, e0, h⟩ := h.ex
      obtain ⟨x1, e1, h⟩ := h.ex
      obtain ⟨x2, e2, h⟩ := h.ex
      obtain ⟨x6b, x6o, e6, h⟩ := h.ex
      obtain ⟨x7b, x7o, e7, h⟩ := h.ex
      rw [← upd_self e0, ← upd_self e1, ← upd_self e2, ← upd_self e6, ← upd_self e7]
      refine DW_defer (tb := tb) (od := od) (gn := Go.Proofs.Try.f43) (lo := 8) Go.Proofs.Try.func43 (by kernel_rfl) (by kernel_rfl) follows cok (by kernel_rfl) (by kernel_rfl) ?_
      exact Eq.mp (rest_eq2 x0 x1 x2 x6b x6o x7b x7o R ρ m) (rest_ok x0 x1 x2 x6b x6o x7b x7o R ρ m h)
    | _ => exact h
  | _ => exact h
end file_File_Bytes

/-! ### (*eyot/page.Pages).Count$1 -/
namespace page_Pages_Count_1
noncomputable def fn : Func := Go.Proofs.Try.f36
noncomputable def body : Code := fn.body.getD .skip
def od : Nat → Ord := fun | 1 => ordL [(0, 1), (1, 3), (2, 3), (3, 1), (4, 3), (5, 1), (6, 3), (7, 3), (8, 1), (9, 3), (10, 3), (11, 0), (12, 3), (13, 3), (14, 0), (15, 3), (16, 3)] .done | _ => .done
def tb : Nat → Tab := fun | 1 => (0, [0, 1, 3, 7, 15, 0, 32, 96, 224, 511, 1023, 0, 2048, 6144, 14336, 32767, 65535], [(0, 1, 3), (1, 4, 4), (2, 8, 5), (4, 16, 6), (8, 32, 7), (0, 1, 8), (32, 128, 9), (64, 256, 10), (128, 512, 11), (272, 1088, 12), (512, 2048, 13), (0, 1, 14), (2048, 8192, 15), (4096, 16384, 16), (8192, 32768, 17), (17408, 69632, 18), (65535, 131072, 2)]) | _ => (0, [], [])
def e0 (c0b : Nat) (c0o : Nat) (R : Ending → Mem → Prop) (m : Mem) : Prop :=
  Sub m fun r1 =>
  LdV r1 c0b c0o fun v =>
  UnP v fun x2 =>
  NilC x2 (fun x3b x3o =>
    LdV r1 x3b x3o fun v =>
    UnS v fun x5a x5l x5c =>
    LdV r1 c0b c0o fun v =>
    UnP v fun x7 =>
    NilC x7 (fun x8b x8o =>
      LdV r1 x8b (x8o + 1) fun v =>
      UnI v .i64 fun x10 =>
      LdV m c0b c0o fun v =>
      UnP v fun x13 =>
      NilC x13 (fun x14b x14o =>
        LdV m x14b (x14o + 1) fun v =>
        UnI v .i64 fun x16 =>
        NzI x16 (
          R (.returned (.int .i64 (IntKind.i64.wrap (Int.tdiv (IntKind.i64.wrap ((IntKind.i64.wrap (((x5l : Nat) : Int) + x10)) - 1)) x16)))) m)) (False)) (False)) (False)
noncomputable def e0A (R : Ending → Mem → Prop) : ACode := (.code (body))
theorem e0_eq (c0b : Nat) (c0o : Nat) (R : Ending → Mem → Prop) (m : Mem) : e0 c0b c0o R m = acpt P od (panicR R) (e0A R) (bodyQ P fn R) (argE (#[.pointer (some ⟨c0b, c0o, none⟩)] : Array Value).toList) m := by kernel_rfl
theorem ok (c0b : Nat) (c0o : Nat) (R : Ending → Mem → Prop) (m : Mem) (h : e0 c0b c0o R m) : HC P id #[.pointer (some ⟨c0b, c0o, none⟩)] m R := by
  refine HC_of (fn := fn) (c := body) (od := od) (tb := tb) Go.Proofs.Try.func36 (by kernel_rfl) (by kernel_rfl) follows (by kernel_rfl) (of_decide_eq_true (by kernel_rfl)) ?_
  have he : (e0A R).erase = body := by kernel_rfl
  rw [← he]
  refine acpt_sound (P := P) (e0A R) _ _ _ True.intro ?_
  exact Eq.mp (e0_eq c0b c0o R m) h
end page_Pages_Count_1

/-! ### (*eyot/page.Pages).Reads$1 -/
namespace page_Pages_Reads_1
noncomputable def fn : Func := Go.Proofs.Try.f38
noncomputable def body : Code := fn.body.getD .skip
def od : Nat → Ord := fun _ => .done
def tb : Nat → Tab := fun _ => (0, [], [])
def e0 (c0b : Nat) (c0o : Nat) (R : Ending → Mem → Prop) (m : Mem) : Prop :=
  LdV m c0b c0o fun v =>
  UnP v fun x2 =>
  NilC x2 (fun x3b x3o =>
    LdV m x3b (x3o + 3) fun v =>
    UnS v fun x5a x5l x5c =>
    HC P slices_Clone_s_int_int.id #[.slice x5a x5l x5c] m (Cont (fun v m1 =>
        UnS v fun x6a x6l x6c =>
        R (.returned (.slice x6a x6l x6c)) m1) (panicR R))) (R (.panicked (nilPanic P)) m)
noncomputable def e0A (R : Ending → Mem → Prop) : ACode := (.code (body))
theorem e0_eq (c0b : Nat) (c0o : Nat) (R : Ending → Mem → Prop) (m : Mem) : e0 c0b c0o R m = acpt P od (panicR R) (e0A R) (bodyQ P fn R) (argE (#[.pointer (some ⟨c0b, c0o, none⟩)] : Array Value).toList) m := by kernel_rfl
theorem ok (c0b : Nat) (c0o : Nat) (R : Ending → Mem → Prop) (m : Mem) (h : e0 c0b c0o R m) : HC P id #[.pointer (some ⟨c0b, c0o, none⟩)] m R := by
  refine HC_of (fn := fn) (c := body) (od := od) (tb := tb) Go.Proofs.Try.func38 (by kernel_rfl) (by kernel_rfl) follows (by kernel_rfl) (of_decide_eq_true (by kernel_rfl)) ?_
  have he : (e0A R).erase = body := by kernel_rfl
  rw [← he]
  refine acpt_sound (P := P) (e0A R) _ _ _ True.intro ?_
  exact Eq.mp (e0_eq c0b c0o R m) h
end page_Pages_Reads_1

/-! ### slices.Clone[[]int,int] -/
namespace slices_Clone_s_int_int
noncomputable def fn : Func := Go.Proofs.Try.f39
noncomputable def body : Code := fn.body.getD .skip
def od : Nat → Ord := fun _ => .done
def tb : Nat → Tab := fun _ => (0, [], [])
def e0 (s_0a : Option Addr) (s_0l : Nat) (s_0c : Nat) (R : Ending → Mem → Prop) (m : Mem) : Prop :=
  Br s_0a.isNone (
    R (.returned (.slice none 0 0)) m) (
    NewC m #[] T_int fun b5 m1 =>
    BiN P .append #[T_sl_int, T_sl_int] T_sl_int #[false, false] #[.slice (some ⟨b5, 0, none⟩) 0 0, .slice s_0a s_0l s_0c] m1 (fun w m2 =>
      UnS w fun x7a x7l x7c =>
      R (.returned (.slice x7a x7l x7c)) m2) (panicR R))
noncomputable def e0A (R : Ending → Mem → Prop) : ACode := (.code (body))
theorem e0_eq (s_0a : Option Addr) (s_0l : Nat) (s_0c : Nat) (R : Ending → Mem → Prop) (m : Mem) : e0 s_0a s_0l s_0c R m = acpt P od (panicR R) (e0A R) (bodyQ P fn R) (argE (#[.slice s_0a s_0l s_0c] : Array Value).toList) m := by kernel_rfl
theorem ok (s_0a : Option Addr) (s_0l : Nat) (s_0c : Nat) (R : Ending → Mem → Prop) (m : Mem) (h : e0 s_0a s_0l s_0c R m) : HC P id #[.slice s_0a s_0l s_0c] m R := by
  refine HC_of (fn := fn) (c := body) (od := od) (tb := tb) Go.Proofs.Try.func39 (by kernel_rfl) (by kernel_rfl) follows (by kernel_rfl) (of_decide_eq_true (by kernel_rfl)) ?_
  have he : (e0A R).erase = body := by kernel_rfl
  rw [← he]
  refine acpt_sound (P := P) (e0A R) _ _ _ True.intro ?_
  exact Eq.mp (e0_eq s_0a s_0l s_0c R m) h
end slices_Clone_s_int_int

/-! ### eyot/piece.size -/
namespace piece_size
noncomputable def fn : Func := Go.Proofs.Try.f40
noncomputable def body : Code := fn.body.getD .skip
def od : Nat → Ord := fun _ => .done
def tb : Nat → Tab := fun _ => (0, [], [])
def e0 (p_0_0 : Bool) (p_0_1 : Int) (p_0_2 : Int) (R : Ending → Mem → Prop) (m : Mem) : Prop :=
  NewC m #[.bool p_0_0, .int .i64 p_0_1, .int .i64 p_0_2] T_api_Piece fun b_p_1 m1 =>
  LdV m1 b_p_1 2 fun v =>
  UnI v .i64 fun x4 =>
  LdV m1 b_p_1 1 fun v =>
  UnI v .i64 fun x6 =>
  R (.returned (.int .i64 (IntKind.i64.wrap (x4 - x6)))) m1
noncomputable def e0A (R : Ending → Mem → Prop) : ACode := (.code (body))
theorem e0_eq (p_0_0 : Bool) (p_0_1 : Int) (p_0_2 : Int) (R : Ending → Mem → Prop) (m : Mem) : e0 p_0_0 p_0_1 p_0_2 R m = acpt P od (panicR R) (e0A R) (bodyQ P fn R) (argE (#[.agg #[.bool p_0_0, .int .i64 p_0_1, .int .i64 p_0_2]] : Array Value).toList) m := by kernel_rfl
theorem ok (p_0_0 : Bool) (p_0_1 : Int) (p_0_2 : Int) (R : Ending → Mem → Prop) (m : Mem) (h : e0 p_0_0 p_0_1 p_0_2 R m) : HC P id #[.agg #[.bool p_0_0, .int .i64 p_0_1, .int .i64 p_0_2]] m R := by
  refine HC_of (fn := fn) (c := body) (od := od) (tb := tb) Go.Proofs.Try.func40 (by kernel_rfl) (by kernel_rfl) follows (by kernel_rfl) (of_decide_eq_true (by kernel_rfl)) ?_
  have he : (e0A R).erase = body := by kernel_rfl
  rw [← he]
  refine acpt_sound (P := P) (e0A R) _ _ _ True.intro ?_
  exact Eq.mp (e0_eq p_0_0 p_0_1 p_0_2 R m) h
end piece_size

/-! ### slices.Clone[[]eyot/api.Piece,eyot/api.Piece] -/
namespace slices_Clone_s_api_Piece_api_Piece
noncomputable def fn : Func := Go.Proofs.Try.f41
noncomputable def body : Code := fn.body.getD .skip
def od : Nat → Ord := fun _ => .done
def tb : Nat → Tab := fun _ => (0, [], [])
def e0 (s_0a : Option Addr) (s_0l : Nat) (s_0c : Nat) (R : Ending → Mem → Prop) (m : Mem) : Prop :=
  Br s_0a.isNone (
    R (.returned (.slice none 0 0)) m) (
    NewC m #[] T_api_Piece fun b5 m1 =>
    BiN P .append #[T_sl_api_Piece, T_sl_api_Piece] T_sl_api_Piece #[false, false] #[.slice (some ⟨b5, 0, none⟩) 0 0, .slice s_0a s_0l s_0c] m1 (fun w m2 =>
      UnS w fun x7a x7l x7c =>
      R (.returned (.slice x7a x7l x7c)) m2) (panicR R))
noncomputable def e0A (R : Ending → Mem → Prop) : ACode := (.code (body))
theorem e0_eq (s_0a : Option Addr) (s_0l : Nat) (s_0c : Nat) (R : Ending → Mem → Prop) (m : Mem) : e0 s_0a s_0l s_0c R m = acpt P od (panicR R) (e0A R) (bodyQ P fn R) (argE (#[.slice s_0a s_0l s_0c] : Array Value).toList) m := by kernel_rfl
theorem ok (s_0a : Option Addr) (s_0l : Nat) (s_0c : Nat) (R : Ending → Mem → Prop) (m : Mem) (h : e0 s_0a s_0l s_0c R m) : HC P id #[.slice s_0a s_0l s_0c] m R := by
  refine HC_of (fn := fn) (c := body) (od := od) (tb := tb) Go.Proofs.Try.func41 (by kernel_rfl) (by kernel_rfl) follows (by kernel_rfl) (of_decide_eq_true (by kernel_rfl)) ?_
  have he : (e0A R).erase = body := by kernel_rfl
  rw [← he]
  refine acpt_sound (P := P) (e0A R) _ _ _ True.intro ?_
  exact Eq.mp (e0_eq s_0a s_0l s_0c R m) h
end slices_Clone_s_api_Piece_api_Piece

/-! ### (*eyot/file.File).Len -/
namespace file_File_Len
noncomputable def fn : Func := Go.Proofs.Try.f42
noncomputable def body : Code := fn.body.getD .skip
def od : Nat → Ord := fun _ => .done
def tb : Nat → Tab := fun _ => (0, [], [])
def e0 (f_0 : Option Addr) (R : Ending → Mem → Prop) (m : Mem) : Prop :=
  Br f_0.isNone (
    R (.returned (.int .i64 0)) m) (
    NilC f_0 (fun x6b x6o =>
      LdV m x6b x6o fun v =>
      UnP v fun x8 =>
      HC P page_Pages_Len.id #[.pointer x8] m (Cont (fun v m1 =>
          UnI v .i64 fun x9 =>
          R (.returned (.int .i64 x9)) m1) (panicR R))) (R (.panicked (nilPanic P)) m))
noncomputable def e0A (R : Ending → Mem → Prop) : ACode := (.code (body))
theorem e0_eq (f_0 : Option Addr) (R : Ending → Mem → Prop) (m : Mem) : e0 f_0 R m = acpt P od (panicR R) (e0A R) (bodyQ P fn R) (argE (#[.pointer f_0] : Array Value).toList) m := by kernel_rfl
theorem ok (f_0 : Option Addr) (R : Ending → Mem → Prop) (m : Mem) (h : e0 f_0 R m) : HC P id #[.pointer f_0] m R := by
  refine HC_of (fn := fn) (c := body) (od := od) (tb := tb) Go.Proofs.Try.func42 (by kernel_rfl) (by kernel_rfl) follows (by kernel_rfl) (of_decide_eq_true (by kernel_rfl)) ?_
  have he : (e0A R).erase = body := by kernel_rfl
  rw [← he]
  refine acpt_sound (P := P) (e0A R) _ _ _ True.intro ?_
  exact Eq.mp (e0_eq f_0 R m) h
end file_File_Len

/-! ### (*eyot/file.File).Bytes$1 -/
namespace file_File_Bytes_1
noncomputable def fn : Func := Go.Proofs.Try.f43
noncomputable def body : Code := fn.body.getD .skip
noncomputable def ops : Array Oper := rgOps (sL body)
def od : Nat → Ord := fun _ => .done
def tb : Nat → Tab := fun _ => (0, [], [])
def tnone (c0b : Nat) (c1b : Nat)  (K : Mem → Prop) (m : Mem) : Prop :=
  K m
theorem df_none (c0b : Nat) (c1b : Nat)  (K : Mem → Prop) (m : Mem) (h : tnone c0b c1b  K m) : DF P id #[.pointer (some ⟨c0b, 0, none⟩), .pointer (some ⟨c1b, 0, none⟩)] none m K := by
  refine DF_of (tb := tb) (od := od) (gn := fn) (id := 0) (d := 5) (ops := ops) (ol := ops.toList.tail) (rest := sR body) (tys := #[]) (ty := 20) (pos := "file.go:48") (af := #[])
    Go.Proofs.Try.func43 (by kernel_rfl) follows (by kernel_rfl) (by kernel_rfl) (by kernel_rfl) (of_decide_eq_true (by kernel_rfl)) (by kernel_rfl) ?_
  have e : tnone c0b c1b  K m = hops P ops (fun ρ m => cpt P od (fun _ _ => False) (sR body) (doneQ K) ρ m) (fun _ _ => False) ops.toList.tail (upd (argE (#[.pointer (some ⟨c0b, 0, none⟩), .pointer (some ⟨c1b, 0, none⟩)] : Array Value).toList) 5 (recV none)) m := by kernel_rfl
  exact Eq.mp e h
def tsome (c0b : Nat) (c1b : Nat) (v : Int) (K : Mem → Prop) (m : Mem) : Prop :=
  St1 m c0b 0 (.slice none 0 0) fun m1 =>
  St1 m1 c1b 0 (.int .i64 v) fun m2 =>
  K m2
theorem df_some (c0b : Nat) (c1b : Nat) (v : Int) (K : Mem → Prop) (m : Mem) (h : tsome c0b c1b v K m) : DF P id #[.pointer (some ⟨c0b, 0, none⟩), .pointer (some ⟨c1b, 0, none⟩)] (some (.iface T_api_Errno (.int .i64 v))) m K := by
  refine DF_of (tb := tb) (od := od) (gn := fn) (id := 0) (d := 5) (ops := ops) (ol := ops.toList.tail) (rest := sR body) (tys := #[]) (ty := 20) (pos := "file.go:48") (af := #[])
    Go.Proofs.Try.func43 (by kernel_rfl) follows (by kernel_rfl) (by kernel_rfl) (by kernel_rfl) (of_decide_eq_true (by kernel_rfl)) (by kernel_rfl) ?_
  have e : tsome c0b c1b v K m = hops P ops (fun ρ m => cpt P od (fun _ _ => False) (sR body) (doneQ K) ρ m) (fun _ _ => False) ops.toList.tail (upd (argE (#[.pointer (some ⟨c0b, 0, none⟩), .pointer (some ⟨c1b, 0, none⟩)] : Array Value).toList) 5 (recV (some (.iface T_api_Errno (.int .i64 v))))) m := by kernel_rfl
  exact Eq.mp e h
end file_File_Bytes_1

/-! ### (*eyot/page.Pages).Size -/
namespace page_Pages_Size
noncomputable def fn : Func := Go.Proofs.Try.f44
noncomputable def body : Code := fn.body.getD .skip
def od : Nat → Ord := fun _ => .done
def tb : Nat → Tab := fun _ => (0, [], [])
def e0 (p_0 : Option Addr) (R : Ending → Mem → Prop) (m : Mem) : Prop :=
  NewC m #[.pointer p_0] T_ptr_page_Pages fun b_p_1 m1 =>
  HC P page_safe_int.id #[.func (.func page_Pages_Size_1.id) #[] #[.pointer (some ⟨b_p_1, 0, none⟩)]] m1 (Cont (fun v m2 =>
      UnI v .i64 fun x4 =>
      R (.returned (.int .i64 x4)) m2) (panicR R))
noncomputable def e0A (R : Ending → Mem → Prop) : ACode := (.code (body))
theorem e0_eq (p_0 : Option Addr) (R : Ending → Mem → Prop) (m : Mem) : e0 p_0 R m = acpt P od (panicR R) (e0A R) (bodyQ P fn R) (argE (#[.pointer p_0] : Array Value).toList) m := by kernel_rfl
theorem ok (p_0 : Option Addr) (R : Ending → Mem → Prop) (m : Mem) (h : e0 p_0 R m) : HC P id #[.pointer p_0] m R := by
  refine HC_of (fn := fn) (c := body) (od := od) (tb := tb) Go.Proofs.Try.func44 (by kernel_rfl) (by kernel_rfl) follows (by kernel_rfl) (of_decide_eq_true (by kernel_rfl)) ?_
  have he : (e0A R).erase = body := by kernel_rfl
  rw [← he]
  refine acpt_sound (P := P) (e0A R) _ _ _ True.intro ?_
  exact Eq.mp (e0_eq p_0 R m) h
end page_Pages_Size

/-! ### (*eyot/file.File).page -/
namespace file_File_page
noncomputable def fn : Func := Go.Proofs.Try.f45
noncomputable def body : Code := fn.body.getD .skip
def od : Nat → Ord := fun _ => .done
def tb : Nat → Tab := fun _ => (0, [], [])
def e0 (f_0 : Option Addr) (i_1 : Int) (R : Ending → Mem → Prop) (m : Mem) : Prop :=
  NilC f_0 (fun x11b x11o =>
    LdV m x11b (x11o + 1) fun v =>
    UnP v fun x13 =>
    HC P lru_Cache_s_byte_Get.id #[.pointer x13, .int .i64 i_1] m (Cont (fun v m1 =>
        UnTup v fun us0 =>
        UnCons us0 fun w us1 =>
        UnS w fun x15_0a x15_0l x15_0c =>
        UnCons us1 fun w us2 =>
        UnB w fun x15_1 =>
        UnNil us2 (
          Br x15_1 (
            R (.returned (.slice x15_0a x15_0l x15_0c)) m1) (
            NilC f_0 (fun x22b x22o =>
              LdV m1 x22b x22o fun v =>
              UnP v fun x24 =>
              HC P page_Pages_Read.id #[.pointer x24, .int .i64 i_1] m1 (Cont (fun v m2 =>
                  UnTup v fun us0 =>
                  UnCons us0 fun w us1 =>
                  UnS w fun x26_0a x26_0l x26_0c =>
                  UnCons us1 fun w us2 =>
                  UnI w .i64 fun x26_1 =>
                  UnNil us2 (
                    Br (x26_1 != 0) (
                      R (.panicked [{ v := .iface T_api_Errno (.int .i64 x26_1), recovered := false }]) m2) (
                      NilC f_0 (fun x34b x34o =>
                        LdV m2 x34b (x34o + 1) fun v =>
                        UnP v fun x36 =>
                        HC P lru_Cache_s_byte_Put.id #[.pointer x36, .int .i64 i_1, .slice x26_0a x26_0l x26_0c] m2 (Cont (fun v m3 =>
                        UnTup v fun us0 =>
                        UnCons us0 fun w us1 =>
                        UnI w .i64 fun x39_0 =>
                        UnCons us1 fun w us2 =>
                        UnB w fun x39_1 =>
                        UnNil us2 (
                        R (.returned (.slice x26_0a x26_0l x26_0c)) m3)) (panicR R))) (R (.panicked (nilPanic P)) m2)))) (panicR R))) (R (.panicked (nilPanic P)) m1)))) (panicR R))) (R (.panicked (nilPanic P)) m)
noncomputable def e0A (R : Ending → Mem → Prop) : ACode := (.code (body))
theorem e0_eq (f_0 : Option Addr) (i_1 : Int) (R : Ending → Mem → Prop) (m : Mem) : e0 f_0 i_1 R m = acpt P od (panicR R) (e0A R) (bodyQ P fn R) (argE (#[.pointer f_0, .int .i64 i_1] : Array Value).toList) m := by kernel_rfl
theorem ok (f_0 : Option Addr) (i_1 : Int) (R : Ending → Mem → Prop) (m : Mem) (h : e0 f_0 i_1 R m) : HC P id #[.pointer f_0, .int .i64 i_1] m R := by
  refine HC_of (fn := fn) (c := body) (od := od) (tb := tb) Go.Proofs.Try.func45 (by kernel_rfl) (by kernel_rfl) follows (by kernel_rfl) (of_decide_eq_true (by kernel_rfl)) ?_
  have he : (e0A R).erase = body := by kernel_rfl
  rw [← he]
  refine acpt_sound (P := P) (e0A R) _ _ _ True.intro ?_
  exact Eq.mp (e0_eq f_0 i_1 R m) h
end file_File_page

/-! ### (*eyot/page.Pages).Len -/
namespace page_Pages_Len
noncomputable def fn : Func := Go.Proofs.Try.f48
noncomputable def body : Code := fn.body.getD .skip
def od : Nat → Ord := fun _ => .done
def tb : Nat → Tab := fun _ => (0, [], [])
def e0 (p_0 : Option Addr) (R : Ending → Mem → Prop) (m : Mem) : Prop :=
  NewC m #[.pointer p_0] T_ptr_page_Pages fun b_p_1 m1 =>
  HC P page_safe_int.id #[.func (.func page_Pages_Len_1.id) #[] #[.pointer (some ⟨b_p_1, 0, none⟩)]] m1 (Cont (fun v m2 =>
      UnI v .i64 fun x4 =>
      R (.returned (.int .i64 x4)) m2) (panicR R))
noncomputable def e0A (R : Ending → Mem → Prop) : ACode := (.code (body))
theorem e0_eq (p_0 : Option Addr) (R : Ending → Mem → Prop) (m : Mem) : e0 p_0 R m = acpt P od (panicR R) (e0A R) (bodyQ P fn R) (argE (#[.pointer p_0] : Array Value).toList) m := by kernel_rfl
theorem ok (p_0 : Option Addr) (R : Ending → Mem → Prop) (m : Mem) (h : e0 p_0 R m) : HC P id #[.pointer p_0] m R := by
  refine HC_of (fn := fn) (c := body) (od := od) (tb := tb) Go.Proofs.Try.func48 (by kernel_rfl) (by kernel_rfl) follows (by kernel_rfl) (of_decide_eq_true (by kernel_rfl)) ?_
  have he : (e0A R).erase = body := by kernel_rfl
  rw [← he]
  refine acpt_sound (P := P) (e0A R) _ _ _ True.intro ?_
  exact Eq.mp (e0_eq p_0 R m) h
end page_Pages_Len

/-! ### (*eyot/page.Pages).Size$1 -/
namespace page_Pages_Size_1
noncomputable def fn : Func := Go.Proofs.Try.f49
noncomputable def body : Code := fn.body.getD .skip
def od : Nat → Ord := fun _ => .done
def tb : Nat → Tab := fun _ => (0, [], [])
def e0 (c0b : Nat) (c0o : Nat) (R : Ending → Mem → Prop) (m : Mem) : Prop :=
  LdV m c0b c0o fun v =>
  UnP v fun x2 =>
  NilC x2 (fun x3b x3o =>
    LdV m x3b (x3o + 1) fun v =>
    UnI v .i64 fun x5 =>
    R (.returned (.int .i64 x5)) m) (R (.panicked (nilPanic P)) m)
noncomputable def e0A (R : Ending → Mem → Prop) : ACode := (.code (body))
theorem e0_eq (c0b : Nat) (c0o : Nat) (R : Ending → Mem → Prop) (m : Mem) : e0 c0b c0o R m = acpt P od (panicR R) (e0A R) (bodyQ P fn R) (argE (#[.pointer (some ⟨c0b, c0o, none⟩)] : Array Value).toList) m := by kernel_rfl
theorem ok (c0b : Nat) (c0o : Nat) (R : Ending → Mem → Prop) (m : Mem) (h : e0 c0b c0o R m) : HC P id #[.pointer (some ⟨c0b, c0o, none⟩)] m R := by
  refine HC_of (fn := fn) (c := body) (od := od) (tb := tb) Go.Proofs.Try.func49 (by kernel_rfl) (by kernel_rfl) follows (by kernel_rfl) (of_decide_eq_true (by kernel_rfl)) ?_
  have he : (e0A R).erase = body := by kernel_rfl
  rw [← he]
  refine acpt_sound (P := P) (e0A R) _ _ _ True.intro ?_
  exact Eq.mp (e0_eq c0b c0o R m) h
end page_Pages_Size_1

/-! ### (*eyot/lru.Cache[[]byte]).Get -/
namespace lru_Cache_s_byte_Get
noncomputable def fn : Func := Go.Proofs.Try.f50
noncomputable def body : Code := fn.body.getD .skip
def od : Nat → Ord := fun _ => .done
def tb : Nat → Tab := fun _ => (0, [], [])
def e0 (c_0 : Option Addr) (k_1 : Int) (R : Ending → Mem → Prop) (m : Mem) : Prop :=
  HC P lru_Cache_s_byte_at.id #[.pointer c_0, .int .i64 k_1] m (Cont (fun v m1 =>
      UnI v .i64 fun x11 =>
      Br (decide (x11 < 0)) (
        R (.returned (.tuple #[.slice none 0 0, .bool false])) m1) (
        NilC c_0 (fun x16b x16o =>
          LdV m1 x16b (x16o + 1) fun v =>
          UnS v fun x18a x18l x18c =>
          IxS x18a x18l x11 2 fun x20b x20o =>
          LdV m1 x20b x20o fun v =>
          UnI v .i64 fun x21_0 =>
          LdV m1 x20b (x20o + 1) fun v =>
          UnS v fun x21_1a x21_1l x21_1c =>
          NewC m1 #[.int .i64 0, .slice none 0 0] T_lru_entry_byte fun b_e_8 m2 =>
          St1 m2 b_e_8 0 (.int .i64 x21_0) fun m3 =>
          St1 m3 b_e_8 1 (.slice x21_1a x21_1l x21_1c) fun m4 =>
          NilC c_0 (fun x24b x24o =>
            LdV m4 x24b (x24o + 1) fun v =>
            UnS v fun x26a x26l x26c =>
            HC P slices_Delete_s_lru_entry_s_byte_lru_entry_s_byte.id #[.slice x26a x26l x26c, .int .i64 x11, .int .i64 (IntKind.i64.wrap (x11 + 1))] m4 (Cont (fun v m5 =>
                UnS v fun x30a x30l x30c =>
                NilC c_0 (fun x31b x31o =>
                  St1 m5 x31b (x31o + 1) (.slice x30a x30l x30c) fun m6 =>
                  LdV m6 b_e_8 0 fun v =>
                  UnI v .i64 fun x34_0 =>
                  LdV m6 b_e_8 1 fun v =>
                  UnS v fun x34_1a x34_1l x34_1c =>
                  HC P lru_Cache_s_byte_front.id #[.pointer c_0, .agg #[.int .i64 x34_0, .slice x34_1a x34_1l x34_1c]] m6 (Cont (fun v m7 =>
                      UnTup v fun us0 =>
                      UnNil us0 (
                        LdV m7 b_e_8 1 fun v =>
                        UnS v fun x37a x37l x37c =>
                        R (.returned (.tuple #[.slice x37a x37l x37c, .bool true])) m7)) (panicR R))) (R (.panicked (nilPanic P)) m5)) (panicR R))) (R (.panicked (nilPanic P)) m4)) (R (.panicked (nilPanic P)) m1))) (panicR R))
noncomputable def e0A (R : Ending → Mem → Prop) : ACode := (.code (body))
theorem e0_eq (c_0 : Option Addr) (k_1 : Int) (R : Ending → Mem → Prop) (m : Mem) : e0 c_0 k_1 R m = acpt P od (panicR R) (e0A R) (bodyQ P fn R) (argE (#[.pointer c_0, .int .i64 k_1] : Array Value).toList) m := by kernel_rfl
theorem ok (c_0 : Option Addr) (k_1 : Int) (R : Ending → Mem → Prop) (m : Mem) (h : e0 c_0 k_1 R m) : HC P id #[.pointer c_0, .int .i64 k_1] m R := by
  refine HC_of (fn := fn) (c := body) (od := od) (tb := tb) Go.Proofs.Try.func50 (by kernel_rfl) (by kernel_rfl) follows (by kernel_rfl) (of_decide_eq_true (by kernel_rfl)) ?_
  have he : (e0A R).erase = body := by kernel_rfl
  rw [← he]
  refine acpt_sound (P := P) (e0A R) _ _ _ True.intro ?_
  exact Eq.mp (e0_eq c_0 k_1 R m) h
end lru_Cache_s_byte_Get

/-! ### (*eyot/page.Pages).Read -/
namespace page_Pages_Read
noncomputable def fn : Func := Go.Proofs.Try.f51
noncomputable def body : Code := fn.body.getD .skip
def od : Nat → Ord := fun | 6 => ordL [(0, 3), (1, 3), (2, 3), (3, 1), (4, 3), (5, 3), (6, 3), (7, 3), (8, 1), (9, 3), (10, 3), (11, 3), (12, 3), (13, 3), (14, 3), (15, 1), (16, 3), (17, 3), (18, 3), (19, 3), (20, 0), (21, 3), (22, 3), (23, 3), (24, 2), (25, 3), (26, 3)] .done | _ => .done
def tb : Nat → Tab := fun | 6 => (16777216, [0, 1, 3, 7, 0, 0, 32, 96, 224, 496, 0, 1024, 0, 4096, 12288, 28672, 64512, 0, 131072, 393216, 917504, 1966080, 4193280, 8388607, 16777215, 33554431, 67108863], [(0, 1, 31), (1, 1073741824, 32), (2, 2147483648, 33), (4, 4294967296, 34), (0, 2, 35), (0, 1, 36), (32, 34359738368, 37), (64, 68719476736, 38), (128, 137438953472, 39), (272, 292057776128, 40), (0, 2, 41), (1024, 1099511627776, 42), (0, 1, 43), (4096, 4398046511104, 44), (8192, 8796093022208, 45), (16384, 17592186044416, 46), (34816, 37383395344384, 47), (0, 1, 48), (131072, 140737488355328, 49), (262144, 281474976710656, 50), (524288, 562949953421312, 51), (1048576, 1125899906842624, 52), (2162688, 2322168557862912, 53), (4194824, 4504157973118976, 54), (8388608, 9007199254740992, 55), (33554431, 18014398509481984, 5), (67108863, 0, 6)]) | _ => (0, [], [])
def e0 (p_0 : Option Addr) (i_1 : Int) (R : Ending → Mem → Prop) (m : Mem) : Prop :=
  Br (decide (i_1 < 0)) (
    R (.returned (.tuple #[.slice none 0 0, .int .i64 1])) m) (
    HC P page_Pages_Count.id #[.pointer p_0] m (Cont (fun v m1 =>
        UnI v .i64 fun x11 =>
        Br (decide (i_1 ≥ x11)) (
          R (.returned (.tuple #[.slice none 0 0, .int .i64 1])) m1) (
          NilC p_0 (fun x16b x16o =>
            LdV m1 x16b (x16o + 3) fun v =>
            UnS v fun x18a x18l x18c =>
            NewC m1 #[.int .i64 i_1] T_int fun b20 m2 =>
            BiN P .append #[T_sl_int, T_sl_int] T_sl_int #[false, false] #[.slice x18a x18l x18c, .slice (some ⟨b20, 0, none⟩) 1 1] m2 (fun w m3 =>
              UnS w fun x21a x21l x21c =>
              NilC p_0 (fun x22b x22o =>
                St1 m3 x22b (x22o + 3) (.slice x21a x21l x21c) fun m4 =>
                NilC p_0 (fun x25b x25o =>
                  LdV m4 x25b (x25o + 2) fun v =>
                  UnM v fun x27 =>
                  LookN P m4 T_map_int_bool (.map x27) (.int .i64 i_1) false fun v =>
                  UnB v fun x29 =>
                  Br x29 (
                    R (.returned (.tuple #[.slice none 0 0, .int .i64 11])) m4) (
                    Sub m4 fun r5 =>
                    NilC p_0 (fun x31b x31o =>
                      LdV r5 x31b x31o fun v =>
                      UnS v fun x33a x33l x33c =>
                      NilC p_0 (fun x36b x36o =>
                        LdV r5 x36b (x36o + 1) fun v =>
                        UnI v .i64 fun x38 =>
                        NilC p_0 (fun x43b x43o =>
                        LdV r5 x43b (x43o + 1) fun v =>
                        UnI v .i64 fun x45 =>
                        NilC p_0 (fun x48b x48o =>
                        LdV m4 x48b x48o fun v =>
                        UnS v fun x50a x50l x50c =>
                        SlS x33a x33c (IntKind.i64.wrap (i_1 * x38)) (if ((x50l : Nat) : Int) < (IntKind.i64.wrap ((IntKind.i64.wrap (i_1 + 1)) * x45)) then ((x50l : Nat) : Int) else IntKind.i64.wrap ((IntKind.i64.wrap (i_1 + 1)) * x45)) 1 fun x53a x53l x53c =>
                        HC P slices_Clone_s_byte_byte.id #[.slice x53a x53l x53c] m4 (Cont (fun v m6 =>
                        UnS v fun x54a x54l x54c =>
                        R (.returned (.tuple #[.slice x54a x54l x54c, .int .i64 0])) m6) (panicR R))) (False)) (False)) (False)) (False))) (R (.panicked (nilPanic P)) m4)) (R (.panicked (nilPanic P)) m3)) (panicR R)) (R (.panicked (nilPanic P)) m1))) (panicR R)))
noncomputable def e0A (R : Ending → Mem → Prop) : ACode := (.code (body))
theorem e0_eq (p_0 : Option Addr) (i_1 : Int) (R : Ending → Mem → Prop) (m : Mem) : e0 p_0 i_1 R m = acpt P od (panicR R) (e0A R) (bodyQ P fn R) (argE (#[.pointer p_0, .int .i64 i_1] : Array Value).toList) m := by kernel_rfl
theorem ok (p_0 : Option Addr) (i_1 : Int) (R : Ending → Mem → Prop) (m : Mem) (h : e0 p_0 i_1 R m) : HC P id #[.pointer p_0, .int .i64 i_1] m R := by
  refine HC_of (fn := fn) (c := body) (od := od) (tb := tb) Go.Proofs.Try.func51 (by kernel_rfl) (by kernel_rfl) follows (by kernel_rfl) (of_decide_eq_true (by kernel_rfl)) ?_
  have he : (e0A R).erase = body := by kernel_rfl
  rw [← he]
  refine acpt_sound (P := P) (e0A R) _ _ _ True.intro ?_
  exact Eq.mp (e0_eq p_0 i_1 R m) h
end page_Pages_Read

/-! ### (*eyot/lru.Cache[[]byte]).Put -/
namespace lru_Cache_s_byte_Put
noncomputable def fn : Func := Go.Proofs.Try.f52
noncomputable def body : Code := fn.body.getD .skip
def od : Nat → Ord := fun _ => .done
def tb : Nat → Tab := fun _ => (0, [], [])
def e0 (c_0 : Option Addr) (k_1 : Int) (v_2a : Option Addr) (v_2l : Nat) (v_2c : Nat) (R : Ending → Mem → Prop) (m : Mem) : Prop :=
  Br c_0.isNone (
    R (.returned (.tuple #[.int .i64 0, .bool false])) m) (
    HC P lru_Cache_s_byte_Drop.id #[.pointer c_0, .int .i64 k_1] m (Cont (fun v m1 =>
        UnB v fun x13 =>
        HC P lru_Cache_s_byte_front.id #[.pointer c_0, .agg #[.int .i64 k_1, .slice v_2a v_2l v_2c]] m1 (Cont (fun v m2 =>
            UnTup v fun us0 =>
            UnNil us0 (
              NilC c_0 (fun x20b x20o =>
                LdV m2 x20b (x20o + 1) fun v =>
                UnS v fun x22a x22l x22c =>
                NilC c_0 (fun x27b x27o =>
                  LdV m2 x27b x27o fun v =>
                  UnI v .i64 fun x29 =>
                  Br (decide ((IntKind.i64.wrap (((x22l : Nat) : Int) - 1)) < (if 1 > x29 then 1 else x29))) (
                    R (.returned (.tuple #[.int .i64 0, .bool false])) m2) (
                    NilC c_0 (fun x33b x33o =>
                      LdV m2 x33b (x33o + 1) fun v =>
                      UnS v fun x35a x35l x35c =>
                      IxS x35a x35l (IntKind.i64.wrap (((x22l : Nat) : Int) - 1)) 2 fun x37b x37o =>
                      LdV m2 x37b x37o fun v =>
                      UnI v .i64 fun x39 =>
                      NilC c_0 (fun x42b x42o =>
                        LdV m2 x42b (x42o + 1) fun v =>
                        UnS v fun x44a x44l x44c =>
                        SlS x44a x44c 0 (IntKind.i64.wrap (((x22l : Nat) : Int) - 1)) 2 fun x46a x46l x46c =>
                        NilC c_0 (fun x47b x47o =>
                        St1 m2 x47b (x47o + 1) (.slice x46a x46l x46c) fun m3 =>
                        R (.returned (.tuple #[.int .i64 x39, .bool true])) m3) (R (.panicked (nilPanic P)) m2)) (R (.panicked (nilPanic P)) m2)) (R (.panicked (nilPanic P)) m2))) (R (.panicked (nilPanic P)) m2)) (R (.panicked (nilPanic P)) m2))) (panicR R))) (panicR R)))
noncomputable def e0A (R : Ending → Mem → Prop) : ACode := (.code (body))
theorem e0_eq (c_0 : Option Addr) (k_1 : Int) (v_2a : Option Addr) (v_2l : Nat) (v_2c : Nat) (R : Ending → Mem → Prop) (m : Mem) : e0 c_0 k_1 v_2a v_2l v_2c R m = acpt P od (panicR R) (e0A R) (bodyQ P fn R) (argE (#[.pointer c_0, .int .i64 k_1, .slice v_2a v_2l v_2c] : Array Value).toList) m := by kernel_rfl
theorem ok (c_0 : Option Addr) (k_1 : Int) (v_2a : Option Addr) (v_2l : Nat) (v_2c : Nat) (R : Ending → Mem → Prop) (m : Mem) (h : e0 c_0 k_1 v_2a v_2l v_2c R m) : HC P id #[.pointer c_0, .int .i64 k_1, .slice v_2a v_2l v_2c] m R := by
  refine HC_of (fn := fn) (c := body) (od := od) (tb := tb) Go.Proofs.Try.func52 (by kernel_rfl) (by kernel_rfl) follows (by kernel_rfl) (of_decide_eq_true (by kernel_rfl)) ?_
  have he : (e0A R).erase = body := by kernel_rfl
  rw [← he]
  refine acpt_sound (P := P) (e0A R) _ _ _ True.intro ?_
  exact Eq.mp (e0_eq c_0 k_1 v_2a v_2l v_2c R m) h
end lru_Cache_s_byte_Put

/-! ### (*eyot/page.Pages).Len$1 -/
namespace page_Pages_Len_1
noncomputable def fn : Func := Go.Proofs.Try.f53
noncomputable def body : Code := fn.body.getD .skip
def od : Nat → Ord := fun _ => .done
def tb : Nat → Tab := fun _ => (0, [], [])
def e0 (c0b : Nat) (c0o : Nat) (R : Ending → Mem → Prop) (m : Mem) : Prop :=
  LdV m c0b c0o fun v =>
  UnP v fun x2 =>
  NilC x2 (fun x3b x3o =>
    LdV m x3b x3o fun v =>
    UnS v fun x5a x5l x5c =>
    R (.returned (.int .i64 ((x5l : Nat) : Int))) m) (R (.panicked (nilPanic P)) m)
noncomputable def e0A (R : Ending → Mem → Prop) : ACode := (.code (body))
theorem e0_eq (c0b : Nat) (c0o : Nat) (R : Ending → Mem → Prop) (m : Mem) : e0 c0b c0o R m = acpt P od (panicR R) (e0A R) (bodyQ P fn R) (argE (#[.pointer (some ⟨c0b, c0o, none⟩)] : Array Value).toList) m := by kernel_rfl
theorem ok (c0b : Nat) (c0o : Nat) (R : Ending → Mem → Prop) (m : Mem) (h : e0 c0b c0o R m) : HC P id #[.pointer (some ⟨c0b, c0o, none⟩)] m R := by
  refine HC_of (fn := fn) (c := body) (od := od) (tb := tb) Go.Proofs.Try.func53 (by kernel_rfl) (by kernel_rfl) follows (by kernel_rfl) (of_decide_eq_true (by kernel_rfl)) ?_
  have he : (e0A R).erase = body := by kernel_rfl
  rw [← he]
  refine acpt_sound (P := P) (e0A R) _ _ _ True.intro ?_
  exact Eq.mp (e0_eq c0b c0o R m) h
end page_Pages_Len_1

/-! ### (*eyot/lru.Cache[[]byte]).at -/
namespace lru_Cache_s_byte_at
noncomputable def fn : Func := Go.Proofs.Try.f54
noncomputable def body : Code := fn.body.getD .skip
def od : Nat → Ord := fun _ => .done
def tb : Nat → Tab := fun _ => (0, [], [])
def e0 (c_0 : Option Addr) (k_1 : Int) (R : Ending → Mem → Prop) (m : Mem) : Prop :=
  NewC m #[.int .i64 k_1] T_int fun b_k_3 m1 =>
  Br c_0.isNone (
    R (.returned (.int .i64 (-1))) m1) (
    NilC c_0 (fun x8b x8o =>
      LdV m1 x8b (x8o + 1) fun v =>
      UnS v fun x10a x10l x10c =>
      HC P slices_IndexFunc_s_lru_entry_s_byte_lru_entry_s_byte.id #[.slice x10a x10l x10c, .func (.func lru_Cache_s_byte_at_1.id) #[] #[.pointer (some ⟨b_k_3, 0, none⟩)]] m1 (Cont (fun v m2 =>
          UnI v .i64 fun x12 =>
          R (.returned (.int .i64 x12)) m2) (panicR R))) (R (.panicked (nilPanic P)) m1))
noncomputable def e0A (R : Ending → Mem → Prop) : ACode := (.code (body))
theorem e0_eq (c_0 : Option Addr) (k_1 : Int) (R : Ending → Mem → Prop) (m : Mem) : e0 c_0 k_1 R m = acpt P od (panicR R) (e0A R) (bodyQ P fn R) (argE (#[.pointer c_0, .int .i64 k_1] : Array Value).toList) m := by kernel_rfl
theorem ok (c_0 : Option Addr) (k_1 : Int) (R : Ending → Mem → Prop) (m : Mem) (h : e0 c_0 k_1 R m) : HC P id #[.pointer c_0, .int .i64 k_1] m R := by
  refine HC_of (fn := fn) (c := body) (od := od) (tb := tb) Go.Proofs.Try.func54 (by kernel_rfl) (by kernel_rfl) follows (by kernel_rfl) (of_decide_eq_true (by kernel_rfl)) ?_
  have he : (e0A R).erase = body := by kernel_rfl
  rw [← he]
  refine acpt_sound (P := P) (e0A R) _ _ _ True.intro ?_
  exact Eq.mp (e0_eq c_0 k_1 R m) h
end lru_Cache_s_byte_at

/-! ### slices.Delete[[]eyot/lru.entry[[]byte],eyot/lru.entry[[]byte]] -/
namespace slices_Delete_s_lru_entry_s_byte_lru_entry_s_byte
noncomputable def fn : Func := Go.Proofs.Try.f55
noncomputable def body : Code := fn.body.getD .skip
def od : Nat → Ord := fun | 5 => ordL [(0, 3), (1, 3), (2, 3), (3, 3), (4, 3), (5, 3), (6, 2), (7, 3)] .done | _ => .done
def tb : Nat → Tab := fun | 5 => (64, [0, 0, 3, 0, 0, 24, 63, 127], [(0, 1, 21), (0, 2, 22), (3, 3145728, 23), (0, 1, 24), (0, 4, 25), (24, 25165824, 26), (36, 37748736, 27), (127, 67108864, 1)]) | _ => (0, [], [])
def e0 (s_0a : Option Addr) (s_0l : Nat) (s_0c : Nat) (i_1 : Int) (j_2 : Int) (R : Ending → Mem → Prop) (m : Mem) : Prop :=
  Sl3N P m T_sl_lru_entry_byte (.slice s_0a s_0l s_0c) (.int .i64 i_1) (.int .i64 j_2) (.int .i64 ((s_0l : Nat) : Int)) fun v =>
  Br (i_1 == j_2) (
    R (.returned (.slice s_0a s_0l s_0c)) m) (
    Sub m fun r1 =>
    SlS s_0a s_0c 0 i_1 2 fun x22a x22l x22c =>
    SlS s_0a s_0c j_2 s_0l 2 fun x25a x25l x25c =>
    BiN P .append #[T_sl_lru_entry_byte, T_sl_lru_entry_byte] T_sl_lru_entry_byte #[false, false] #[.slice x22a x22l x22c, .slice x25a x25l x25c] m (fun w m2 =>
      UnS w fun x26a x26l x26c =>
      SlS x26a x26c ((x26l : Nat) : Int) ((s_0l : Nat) : Int) 2 fun x31a x31l x31c =>
      BiN P .clear #[T_sl_lru_entry_byte] T_ #[false] #[.slice x31a x31l x31c] m2 (fun w m3 =>
        UnTup w fun us0 =>
        UnNil us0 (
          R (.returned (.slice x26a x26l x26c)) m3)) (panicR R)) (panicR R))
noncomputable def e0A (R : Ending → Mem → Prop) : ACode := (.code (body))
theorem e0_eq (s_0a : Option Addr) (s_0l : Nat) (s_0c : Nat) (i_1 : Int) (j_2 : Int) (R : Ending → Mem → Prop) (m : Mem) : e0 s_0a s_0l s_0c i_1 j_2 R m = acpt P od (panicR R) (e0A R) (bodyQ P fn R) (argE (#[.slice s_0a s_0l s_0c, .int .i64 i_1, .int .i64 j_2] : Array Value).toList) m := by kernel_rfl
theorem ok (s_0a : Option Addr) (s_0l : Nat) (s_0c : Nat) (i_1 : Int) (j_2 : Int) (R : Ending → Mem → Prop) (m : Mem) (h : e0 s_0a s_0l s_0c i_1 j_2 R m) : HC P id #[.slice s_0a s_0l s_0c, .int .i64 i_1, .int .i64 j_2] m R := by
  refine HC_of (fn := fn) (c := body) (od := od) (tb := tb) Go.Proofs.Try.func55 (by kernel_rfl) (by kernel_rfl) follows (by kernel_rfl) (of_decide_eq_true (by kernel_rfl)) ?_
  have he : (e0A R).erase = body := by kernel_rfl
  rw [← he]
  refine acpt_sound (P := P) (e0A R) _ _ _ True.intro ?_
  exact Eq.mp (e0_eq s_0a s_0l s_0c i_1 j_2 R m) h
end slices_Delete_s_lru_entry_s_byte_lru_entry_s_byte

/-! ### (*eyot/lru.Cache[[]byte]).front -/
namespace lru_Cache_s_byte_front
noncomputable def fn : Func := Go.Proofs.Try.f56
noncomputable def body : Code := fn.body.getD .skip
def od : Nat → Ord := fun | 1 => ordL [(0, 3), (1, 3), (2, 3), (3, 3), (4, 1), (5, 0), (6, 0), (7, 2), (8, 3), (9, 3), (10, 2)] .done | _ => .done
def tb : Nat → Tab := fun | 1 => (1152, [0, 0, 2, 6, 14, 0, 32, 126, 255, 511, 1023], [(0, 1, 5), (0, 1, 6), (2, 32, 7), (4, 64, 8), (8, 128, 9), (0, 8, 10), (32, 512, 11), (80, 1280, 12), (255, 16, 13), (511, 4096, 14), (767, 10240, 0)]) | _ => (0, [], [])
def e0 (c_0 : Option Addr) (e_1_0 : Int) (e_1_1a : Option Addr) (e_1_1l : Nat) (e_1_1c : Nat) (R : Ending → Mem → Prop) (m : Mem) : Prop :=
  NewC m #[.int .i64 e_1_0, .slice e_1_1a e_1_1l e_1_1c] T_lru_entry_byte fun b_e_3 m1 =>
  Sub m1 fun r2 =>
  NilC c_0 (fun x6b x6o =>
    LdV r2 x6b (x6o + 1) fun v =>
    UnS v fun x8a x8l x8c =>
    LdV m1 b_e_3 0 fun v =>
    UnI v .i64 fun x9_0 =>
    LdV m1 b_e_3 1 fun v =>
    UnS v fun x9_1a x9_1l x9_1c =>
    NewC m1 #[.int .i64 x9_0, .slice x9_1a x9_1l x9_1c] T_lru_entry_byte fun b10 m3 =>
    Lk r2 m3 fun r4 =>
    HC P slices_Insert_s_lru_entry_s_byte_lru_entry_s_byte.id #[.slice x8a x8l x8c, .int .i64 0, .slice (some ⟨b10, 0, none⟩) 1 1] m3 (Cont (fun v m5 =>
        UnS v fun x11a x11l x11c =>
        NilC c_0 (fun x12b x12o =>
          St1 m5 x12b (x12o + 1) (.slice x11a x11l x11c) fun m6 =>
          R (.returned (.tuple #[])) m6) (False)) (panicR R))) (False)
noncomputable def e0A (R : Ending → Mem → Prop) : ACode := (.code (body))
theorem e0_eq (c_0 : Option Addr) (e_1_0 : Int) (e_1_1a : Option Addr) (e_1_1l : Nat) (e_1_1c : Nat) (R : Ending → Mem → Prop) (m : Mem) : e0 c_0 e_1_0 e_1_1a e_1_1l e_1_1c R m = acpt P od (panicR R) (e0A R) (bodyQ P fn R) (argE (#[.pointer c_0, .agg #[.int .i64 e_1_0, .slice e_1_1a e_1_1l e_1_1c]] : Array Value).toList) m := by kernel_rfl
theorem ok (c_0 : Option Addr) (e_1_0 : Int) (e_1_1a : Option Addr) (e_1_1l : Nat) (e_1_1c : Nat) (R : Ending → Mem → Prop) (m : Mem) (h : e0 c_0 e_1_0 e_1_1a e_1_1l e_1_1c R m) : HC P id #[.pointer c_0, .agg #[.int .i64 e_1_0, .slice e_1_1a e_1_1l e_1_1c]] m R := by
  refine HC_of (fn := fn) (c := body) (od := od) (tb := tb) Go.Proofs.Try.func56 (by kernel_rfl) (by kernel_rfl) follows (by kernel_rfl) (of_decide_eq_true (by kernel_rfl)) ?_
  have he : (e0A R).erase = body := by kernel_rfl
  rw [← he]
  refine acpt_sound (P := P) (e0A R) _ _ _ True.intro ?_
  exact Eq.mp (e0_eq c_0 e_1_0 e_1_1a e_1_1l e_1_1c R m) h
end lru_Cache_s_byte_front

/-! ### (*eyot/lru.Cache[[]byte]).Drop -/
namespace lru_Cache_s_byte_Drop
noncomputable def fn : Func := Go.Proofs.Try.f57
noncomputable def body : Code := fn.body.getD .skip
def od : Nat → Ord := fun _ => .done
def tb : Nat → Tab := fun _ => (0, [], [])
def e0 (c_0 : Option Addr) (k_1 : Int) (R : Ending → Mem → Prop) (m : Mem) : Prop :=
  HC P lru_Cache_s_byte_at.id #[.pointer c_0, .int .i64 k_1] m (Cont (fun v m1 =>
      UnI v .i64 fun x8 =>
      Br (decide (x8 < 0)) (
        R (.returned (.bool false)) m1) (
        NilC c_0 (fun x13b x13o =>
          LdV m1 x13b (x13o + 1) fun v =>
          UnS v fun x15a x15l x15c =>
          HC P slices_Delete_s_lru_entry_s_byte_lru_entry_s_byte.id #[.slice x15a x15l x15c, .int .i64 x8, .int .i64 (IntKind.i64.wrap (x8 + 1))] m1 (Cont (fun v m2 =>
              UnS v fun x19a x19l x19c =>
              NilC c_0 (fun x20b x20o =>
                St1 m2 x20b (x20o + 1) (.slice x19a x19l x19c) fun m3 =>
                R (.returned (.bool true)) m3) (R (.panicked (nilPanic P)) m2)) (panicR R))) (R (.panicked (nilPanic P)) m1))) (panicR R))
noncomputable def e0A (R : Ending → Mem → Prop) : ACode := (.code (body))
theorem e0_eq (c_0 : Option Addr) (k_1 : Int) (R : Ending → Mem → Prop) (m : Mem) : e0 c_0 k_1 R m = acpt P od (panicR R) (e0A R) (bodyQ P fn R) (argE (#[.pointer c_0, .int .i64 k_1] : Array Value).toList) m := by kernel_rfl
theorem ok (c_0 : Option Addr) (k_1 : Int) (R : Ending → Mem → Prop) (m : Mem) (h : e0 c_0 k_1 R m) : HC P id #[.pointer c_0, .int .i64 k_1] m R := by
  refine HC_of (fn := fn) (c := body) (od := od) (tb := tb) Go.Proofs.Try.func57 (by kernel_rfl) (by kernel_rfl) follows (by kernel_rfl) (of_decide_eq_true (by kernel_rfl)) ?_
  have he : (e0A R).erase = body := by kernel_rfl
  rw [← he]
  refine acpt_sound (P := P) (e0A R) _ _ _ True.intro ?_
  exact Eq.mp (e0_eq c_0 k_1 R m) h
end lru_Cache_s_byte_Drop

/-! ### slices.IndexFunc[[]eyot/lru.entry[[]byte],eyot/lru.entry[[]byte]] -/
namespace slices_IndexFunc_s_lru_entry_s_byte_lru_entry_s_byte
noncomputable def fn : Func := Go.Proofs.Try.f58
noncomputable def body : Code := fn.body.getD .skip
def od : Nat → Ord := fun _ => .done
def tb : Nat → Tab := fun _ => (0, [], [])
def l1E (K : Option Addr → Nat → Nat → Value → Int → Int → Mem → Prop) : Env → Mem → Prop := fun ρ m => UnS (ρ 0) fun s_0a s_0l s_0c => (fun f_1 => UnI (ρ 7) .i64 fun x7 => UnI (ρ 8) .i64 fun x8 => K s_0a s_0l s_0c f_1 x7 x8 m) (ρ 1)
def l1B  (K1 : Option Addr → Nat → Nat → Value → Int → Int → Mem → Prop) (s_0a : Option Addr) (s_0l : Nat) (s_0c : Nat) (f_1 : Value) (x7 : Int) (x8 : Int) (R : Ending → Mem → Prop) (m : Mem) : Prop :=
  Br (decide (x8 < x7)) (
    IxS s_0a s_0l x8 2 fun x14b x14o =>
    LdV m x14b x14o fun v =>
    UnI v .i64 fun x15_0 =>
    LdV m x14b (x14o + 1) fun v =>
    UnS v fun x15_1a x15_1l x15_1c =>
    CallV P f_1 #[.agg #[.int .i64 x15_0, .slice x15_1a x15_1l x15_1c]] m (Cont (fun v m1 =>
        UnB v fun x16 =>
        Br x16 (
          R (.returned (.int .i64 x8)) m1) (
          K1 s_0a s_0l s_0c f_1 x7 (IntKind.i64.wrap (x8 + 1)) m1)) (panicR R))) (
    R (.returned (.int .i64 (-1))) m)
def l1  (s_0a : Option Addr) (s_0l : Nat) (s_0c : Nat) (f_1 : Value) (x7 : Int) (x8 : Int) (R : Ending → Mem → Prop) (m : Mem) : Prop :=
  ∃ (I : Nat → Option Addr → Nat → Nat → Value → Int → Int → Mem → Prop) (N : Nat), I N s_0a s_0l s_0c f_1 x7 x8 m ∧ ∀ N s_0a s_0l s_0c f_1 x7 x8 m, I N s_0a s_0l s_0c f_1 x7 x8 m → l1B  (fun s_0a s_0l s_0c f_1 x7 x8 m => ∃ N1, N1 < N ∧ I N1 s_0a s_0l s_0c f_1 x7 x8 m) s_0a s_0l s_0c f_1 x7 x8 R m
noncomputable def l1A  (K1 : Option Addr → Nat → Nat → Value → Int → Int → Mem → Prop) (R : Ending → Mem → Prop) : ACode := (.code (lP (bB (sR (sL (sR (body)))))))
def e0 (s_0a : Option Addr) (s_0l : Nat) (s_0c : Nat) (f_1 : Value) (R : Ending → Mem → Prop) (m : Mem) : Prop :=
  l1  s_0a s_0l s_0c f_1 ((s_0l : Nat) : Int) 0 R m
noncomputable def e0A (R : Ending → Mem → Prop) : ACode := (.seq (.code (sL (body))) (.seq (.seq (.code (sL (sL (sR (body))))) (.block 0 (.cut (l1E fun s_0a s_0l s_0c f_1 x7 x8 m => l1  s_0a s_0l s_0c f_1 x7 x8 R m) (.loop (lP (bB (sR (sL (sR (body)))))))))) (.code (sR (sR (body))))))
theorem l1_eq  (K1 : Option Addr → Nat → Nat → Value → Int → Int → Mem → Prop) (R : Ending → Mem → Prop) (s_0a : Option Addr) (s_0l : Nat) (s_0c : Nat) (f_1 : Value) (x7 : Int) (x8 : Int) (ρ : Env) (m : Mem) : l1B  K1 s_0a s_0l s_0c f_1 x7 x8 R m = acpt P od (panicR R) (l1A  K1 R) (thenQ (l1E K1) (blockQ 0 (thenQ (acpt P od (panicR R) (.code (sR (sR (body)))) (bodyQ P fn R)) (bodyQ P fn R)))) (upd (upd (upd (upd ρ 8 (.int .i64 x8)) 7 (.int .i64 x7)) 1 (f_1)) 0 (.slice s_0a s_0l s_0c)) m := by kernel_rfl
theorem l1_er  (K1 : Option Addr → Nat → Nat → Value → Int → Int → Mem → Prop) (R : Ending → Mem → Prop) : (l1A  K1 R).erase = lP (bB (sR (sL (sR (body))))) := by kernel_rfl
theorem l1_ok  (R : Ending → Mem → Prop) (ρ : Env) (m : Mem) (h : (l1E fun s_0a s_0l s_0c f_1 x7 x8 m => l1  s_0a s_0l s_0c f_1 x7 x8 R m) ρ m) : cpt P od (panicR R) (.loop (lP (bB (sR (sL (sR (body))))))) (blockQ 0 (thenQ (acpt P od (panicR R) (.code (sR (sR (body)))) (bodyQ P fn R)) (bodyQ P fn R))) ρ m := by
  unfold l1E at h
  obtain ⟨s_0a, s_0l, s_0c, e0, h⟩ := h.ex
  generalize e1 : ρ 1 = f_1 at h
  try dsimp only at h
  obtain ⟨x7, e7, h⟩ := h.ex
  obtain ⟨x8, e8, h⟩ := h.ex
  obtain ⟨I, N, h0, hs⟩ := h
  refine ⟨fun N => l1E (I N), N, (by show l1E (I N) ρ m; unfold l1E; rw [e0, e1, e7, e8]; exact h0), ?_⟩
  clear h0 e0 e1 e7 e8
  intro N ρ m h
  unfold l1E at h
  obtain ⟨s_0a, s_0l, s_0c, e0, h⟩ := h.ex
  generalize e1 : ρ 1 = f_1 at h
  try dsimp only at h
  obtain ⟨x7, e7, h⟩ := h.ex
  obtain ⟨x8, e8, h⟩ := h.ex
  refine cpt_mono (P := P) (lP (bB (sR (sL (sR (body)))))) (Q := thenQ (l1E fun s_0a s_0l s_0c f_1 x7 x8 m => ∃ N1, N1 < N ∧ I N1 s_0a s_0l s_0c f_1 x7 x8 m) (blockQ 0 (thenQ (acpt P od (panicR R) (.code (sR (sR (body)))) (bodyQ P fn R)) (bodyQ P fn R)))) (fun e ρ m h => ?_) ρ m ?_
  · cases e with
    | normal =>
      have h : l1E (fun s_0a s_0l s_0c f_1 x7 x8 m => ∃ N1, N1 < N ∧ I N1 s_0a s_0l s_0c f_1 x7 x8 m) ρ m := h
      unfold l1E at h
      obtain ⟨s_0a, s_0l, s_0c, e0, h⟩ := h.ex
      generalize e1 : ρ 1 = f_1 at h
      try dsimp only at h
      obtain ⟨x7, e7, h⟩ := h.ex
      obtain ⟨x8, e8, h⟩ := h.ex
      obtain ⟨N1, hlt, h⟩ := h
      exact ⟨N1, hlt, (by show l1E (I N1) ρ m; unfold l1E; rw [e0, e1, e7, e8]; exact h)⟩
    | _ => exact h
  have hh := hs N s_0a s_0l s_0c f_1 x7 x8 m h
  generalize (fun s_0a s_0l s_0c f_1 x7 x8 m => ∃ N1, N1 < N ∧ I N1 s_0a s_0l s_0c f_1 x7 x8 m : Option Addr → Nat → Nat → Value → Int → Int → Mem → Prop) = K1 at hh ⊢
  rw [← upd_self e0, ← upd_self e1, ← upd_self e7, ← upd_self e8]
  rw [← l1_er  K1 R]
  refine acpt_sound (P := P) (l1A  K1 R) _ _ _ True.intro ?_
  exact Eq.mp (l1_eq  K1 R s_0a s_0l s_0c f_1 x7 x8 ρ m) hh
theorem e0_eq (s_0a : Option Addr) (s_0l : Nat) (s_0c : Nat) (f_1 : Value) (R : Ending → Mem → Prop) (m : Mem) : e0 s_0a s_0l s_0c f_1 R m = acpt P od (panicR R) (e0A R) (bodyQ P fn R) (argE (#[.slice s_0a s_0l s_0c, f_1] : Array Value).toList) m := by kernel_rfl
theorem ok (s_0a : Option Addr) (s_0l : Nat) (s_0c : Nat) (f_1 : Value) (R : Ending → Mem → Prop) (m : Mem) (h : e0 s_0a s_0l s_0c f_1 R m) : HC P id #[.slice s_0a s_0l s_0c, f_1] m R := by
  refine HC_of (fn := fn) (c := body) (od := od) (tb := tb) Go.Proofs.Try.func58 (by kernel_rfl) (by kernel_rfl) follows (by kernel_rfl) (of_decide_eq_true (by kernel_rfl)) ?_
  have he : (e0A R).erase = body := by kernel_rfl
  rw [← he]
  refine acpt_sound (P := P) (e0A R) _ _ _ ⟨⟨True.intro, ⟨(fun ρ m h => l1_ok  R ρ m h), True.intro⟩⟩, True.intro⟩ ?_
  exact Eq.mp (e0_eq s_0a s_0l s_0c f_1 R m) h
end slices_IndexFunc_s_lru_entry_s_byte_lru_entry_s_byte

/-! ### (*eyot/lru.Cache[[]byte]).at$1 -/
namespace lru_Cache_s_byte_at_1
noncomputable def fn : Func := Go.Proofs.Try.f59
noncomputable def body : Code := fn.body.getD .skip
def od : Nat → Ord := fun _ => .done
def tb : Nat → Tab := fun _ => (0, [], [])
def e0 (e_0_0 : Int) (e_0_1a : Option Addr) (e_0_1l : Nat) (e_0_1c : Nat) (c0b : Nat) (c0o : Nat) (R : Ending → Mem → Prop) (m : Mem) : Prop :=
  NewC m #[.int .i64 e_0_0, .slice e_0_1a e_0_1l e_0_1c] T_lru_entry_byte fun b_e_2 m1 =>
  LdV m1 b_e_2 0 fun v =>
  UnI v .i64 fun x5 =>
  LdV m1 c0b c0o fun v =>
  UnI v .i64 fun x6 =>
  R (.returned (.bool (x5 == x6))) m1
noncomputable def e0A (R : Ending → Mem → Prop) : ACode := (.code (body))
theorem e0_eq (e_0_0 : Int) (e_0_1a : Option Addr) (e_0_1l : Nat) (e_0_1c : Nat) (c0b : Nat) (c0o : Nat) (R : Ending → Mem → Prop) (m : Mem) : e0 e_0_0 e_0_1a e_0_1l e_0_1c c0b c0o R m = acpt P od (panicR R) (e0A R) (bodyQ P fn R) (argE (#[.agg #[.int .i64 e_0_0, .slice e_0_1a e_0_1l e_0_1c], .pointer (some ⟨c0b, c0o, none⟩)] : Array Value).toList) m := by kernel_rfl
theorem ok (e_0_0 : Int) (e_0_1a : Option Addr) (e_0_1l : Nat) (e_0_1c : Nat) (c0b : Nat) (c0o : Nat) (R : Ending → Mem → Prop) (m : Mem) (h : e0 e_0_0 e_0_1a e_0_1l e_0_1c c0b c0o R m) : HC P id #[.agg #[.int .i64 e_0_0, .slice e_0_1a e_0_1l e_0_1c], .pointer (some ⟨c0b, c0o, none⟩)] m R := by
  refine HC_of (fn := fn) (c := body) (od := od) (tb := tb) Go.Proofs.Try.func59 (by kernel_rfl) (by kernel_rfl) follows (by kernel_rfl) (of_decide_eq_true (by kernel_rfl)) ?_
  have he : (e0A R).erase = body := by kernel_rfl
  rw [← he]
  refine acpt_sound (P := P) (e0A R) _ _ _ True.intro ?_
  exact Eq.mp (e0_eq e_0_0 e_0_1a e_0_1l e_0_1c c0b c0o R m) h
end lru_Cache_s_byte_at_1

/-! ### slices.Insert[[]eyot/lru.entry[[]byte],eyot/lru.entry[[]byte]] -/
namespace slices_Insert_s_lru_entry_s_byte_lru_entry_s_byte
noncomputable def fn : Func := Go.Proofs.Try.f60
noncomputable def body : Code := fn.body.getD .skip
def od : Nat → Ord := fun | 11 => ordL [(0, 3), (1, 3), (2, 3), (3, 3), (4, 3), (5, 3), (6, 3), (7, 3), (8, 2)] .done | 15 => ordL [(0, 3), (1, 3), (2, 3), (3, 3), (4, 3), (5, 3), (6, 3), (7, 3), (8, 2)] .done | _ => .done
def tb : Nat → Tab := fun | 11 => (256, [0, 0, 0, 6, 15, 0, 0, 96, 255], [(0, 512, 47), (0, 2, 48), (0, 128, 49), (6, 422212465065984, 50), (9, 633318697598976, 51), (0, 1, 52), (0, 2, 53), (96, 6755399441055744, 54), (144, 10133099161583616, 55)]) | 15 => (256, [0, 0, 0, 6, 15, 0, 0, 96, 255], [(0, 1, 70), (0, 2, 71), (0, 128, 72), (6, 3541774862152233910272, 73), (9, 5312662293228350865408, 74), (0, 1, 75), (0, 2, 76), (96, 56668397794435742564352, 77), (144, 85002596691653613846528, 78)]) | _ => (0, [], [])
def e0 (a0a : Option Addr) (a0l : Nat) (a0c : Nat) (a1 : Int) (a2a : Option Addr) (a2l : Nat) (a2c : Nat) (R : Ending → Mem → Prop) (m : Mem) : Prop :=
  SlS a0a a0c a1 a0l 2 fun x12a x12l x12c =>
  Br (((a2l : Nat) : Int) == 0) (
    R (.returned (.slice a0a a0l a0c)) m) (
    Br (a1 == ((a0l : Nat) : Int)) (
      BiN P .append #[T_sl_lru_entry_byte, T_sl_lru_entry_byte] T_sl_lru_entry_byte #[false, false] #[.slice a0a a0l a0c, .slice a2a a2l a2c] m (fun w m1 =>
        UnS w fun x25a x25l x25c =>
        R (.returned (.slice x25a x25l x25c)) m1) (panicR R)) (
      Br (decide ((IntKind.i64.wrap (((a0l : Nat) : Int) + ((a2l : Nat) : Int))) > ((a0c : Nat) : Int))) (
        SlS a0a a0c 0 a1 2 fun x34a x34l x34c =>
        BiN P .append #[T_sl_lru_entry_byte, T_int] T_sl_lru_entry_byte #[false, false] #[.slice x34a x34l x34c, .int .i64 (IntKind.i64.wrap ((IntKind.i64.wrap (((a0l : Nat) : Int) + ((a2l : Nat) : Int))) - a1))] m (fun w m1 =>
          UnS w fun x40a x40l x40c =>
          SlS x40a x40c a1 x40l 2 fun x43a x43l x43c =>
          BiN P .copy #[T_sl_lru_entry_byte, T_sl_lru_entry_byte] T_int #[false, false] #[.slice x43a x43l x43c, .slice a2a a2l a2c] m1 (fun w m2 =>
            UnI w .i64 fun x45 =>
            Sub m2 fun r3 =>
            SlS x40a x40c (IntKind.i64.wrap (a1 + ((a2l : Nat) : Int))) x40l 2 fun x50a x50l x50c =>
            SlS a0a a0c a1 a0l 2 fun x53a x53l x53c =>
            BiN P .copy #[T_sl_lru_entry_byte, T_sl_lru_entry_byte] T_int #[false, false] #[.slice x50a x50l x50c, .slice x53a x53l x53c] m2 (fun w m4 =>
              UnI w .i64 fun x54 =>
              R (.returned (.slice x40a x40l x40c)) m4) (panicR R)) (panicR R)) (panicR R)) (
        SlS a0a a0c 0 (IntKind.i64.wrap (((a0l : Nat) : Int) + ((a2l : Nat) : Int))) 2 fun x60a x60l x60c =>
        SlS x60a x60c (IntKind.i64.wrap (a1 + ((a2l : Nat) : Int))) x60l 2 fun x66a x66l x66c =>
        HC P slices_overlaps_lru_entry_s_byte.id #[.slice a2a a2l a2c, .slice x66a x66l x66c] m (Cont (fun v m1 =>
            UnB v fun x67 =>
            Br (!x67) (
              Sub m1 fun r2 =>
              SlS x60a x60c (IntKind.i64.wrap (a1 + ((a2l : Nat) : Int))) x60l 2 fun x73a x73l x73c =>
              SlS x60a x60c a1 x60l 2 fun x76a x76l x76c =>
              BiN P .copy #[T_sl_lru_entry_byte, T_sl_lru_entry_byte] T_int #[false, false] #[.slice x73a x73l x73c, .slice x76a x76l x76c] m1 (fun w m3 =>
                UnI w .i64 fun x77 =>
                SlS x60a x60c a1 x60l 2 fun x80a x80l x80c =>
                BiN P .copy #[T_sl_lru_entry_byte, T_sl_lru_entry_byte] T_int #[false, false] #[.slice x80a x80l x80c, .slice a2a a2l a2c] m3 (fun w m4 =>
                  UnI w .i64 fun x82 =>
                  R (.returned (.slice x60a x60l x60c)) m4) (panicR R)) (panicR R)) (
              SlS x60a x60c ((a0l : Nat) : Int) x60l 2 fun x86a x86l x86c =>
              BiN P .copy #[T_sl_lru_entry_byte, T_sl_lru_entry_byte] T_int #[false, false] #[.slice x86a x86l x86c, .slice a2a a2l a2c] m1 (fun w m2 =>
                UnI w .i64 fun x88 =>
                SlS x60a x60c a1 x60l 2 fun x91a x91l x91c =>
                HC P slices_rotateRight_lru_entry_s_byte.id #[.slice x91a x91l x91c, .int .i64 ((a2l : Nat) : Int)] m2 (Cont (fun v m3 =>
                    UnTup v fun us0 =>
                    UnNil us0 (
                      R (.returned (.slice x60a x60l x60c)) m3)) (panicR R))) (panicR R))) (panicR R)))))
noncomputable def e0A (R : Ending → Mem → Prop) : ACode := (.code (body))
theorem e0_eq (a0a : Option Addr) (a0l : Nat) (a0c : Nat) (a1 : Int) (a2a : Option Addr) (a2l : Nat) (a2c : Nat) (R : Ending → Mem → Prop) (m : Mem) : e0 a0a a0l a0c a1 a2a a2l a2c R m = acpt P od (panicR R) (e0A R) (bodyQ P fn R) (argE (#[.slice a0a a0l a0c, .int .i64 a1, .slice a2a a2l a2c] : Array Value).toList) m := by kernel_rfl
theorem ok (a0a : Option Addr) (a0l : Nat) (a0c : Nat) (a1 : Int) (a2a : Option Addr) (a2l : Nat) (a2c : Nat) (R : Ending → Mem → Prop) (m : Mem) (h : e0 a0a a0l a0c a1 a2a a2l a2c R m) : HC P id #[.slice a0a a0l a0c, .int .i64 a1, .slice a2a a2l a2c] m R := by
  refine HC_of (fn := fn) (c := body) (od := od) (tb := tb) Go.Proofs.Try.func60 (by kernel_rfl) (by kernel_rfl) follows (by kernel_rfl) (of_decide_eq_true (by kernel_rfl)) ?_
  have he : (e0A R).erase = body := by kernel_rfl
  rw [← he]
  refine acpt_sound (P := P) (e0A R) _ _ _ True.intro ?_
  exact Eq.mp (e0_eq a0a a0l a0c a1 a2a a2l a2c R m) h
end slices_Insert_s_lru_entry_s_byte_lru_entry_s_byte

/-! ### slices.rotateRight[eyot/lru.entry[[]byte]] -/
namespace slices_rotateRight_lru_entry_s_byte
noncomputable def fn : Func := Go.Proofs.Try.f62
noncomputable def body : Code := fn.body.getD .skip
def od : Nat → Ord := fun _ => .done
def tb : Nat → Tab := fun _ => (0, [], [])
def e0 (s_0a : Option Addr) (s_0l : Nat) (s_0c : Nat) (r_1 : Int) (R : Ending → Mem → Prop) (m : Mem) : Prop :=
  HC P slices_rotateLeft_lru_entry_s_byte.id #[.slice s_0a s_0l s_0c, .int .i64 (IntKind.i64.wrap (((s_0l : Nat) : Int) - r_1))] m (Cont (fun v m1 =>
      UnTup v fun us0 =>
      UnNil us0 (
        R (.returned (.tuple #[])) m1)) (panicR R))
noncomputable def e0A (R : Ending → Mem → Prop) : ACode := (.code (body))
theorem e0_eq (s_0a : Option Addr) (s_0l : Nat) (s_0c : Nat) (r_1 : Int) (R : Ending → Mem → Prop) (m : Mem) : e0 s_0a s_0l s_0c r_1 R m = acpt P od (panicR R) (e0A R) (bodyQ P fn R) (argE (#[.slice s_0a s_0l s_0c, .int .i64 r_1] : Array Value).toList) m := by kernel_rfl
theorem ok (s_0a : Option Addr) (s_0l : Nat) (s_0c : Nat) (r_1 : Int) (R : Ending → Mem → Prop) (m : Mem) (h : e0 s_0a s_0l s_0c r_1 R m) : HC P id #[.slice s_0a s_0l s_0c, .int .i64 r_1] m R := by
  refine HC_of (fn := fn) (c := body) (od := od) (tb := tb) Go.Proofs.Try.func62 (by kernel_rfl) (by kernel_rfl) follows (by kernel_rfl) (of_decide_eq_true (by kernel_rfl)) ?_
  have he : (e0A R).erase = body := by kernel_rfl
  rw [← he]
  refine acpt_sound (P := P) (e0A R) _ _ _ True.intro ?_
  exact Eq.mp (e0_eq s_0a s_0l s_0c r_1 R m) h
end slices_rotateRight_lru_entry_s_byte

/-! ### slices.rotateLeft[eyot/lru.entry[[]byte]] -/
namespace slices_rotateLeft_lru_entry_s_byte
noncomputable def fn : Func := Go.Proofs.Try.f63
noncomputable def body : Code := fn.body.getD .skip
def od : Nat → Ord := fun _ => .done
def tb : Nat → Tab := fun _ => (0, [], [])
def e0 (s_0a : Option Addr) (s_0l : Nat) (s_0c : Nat) (r_1 : Int) (R : Ending → Mem → Prop) (m : Mem) : Prop :=
  SlS s_0a s_0c 0 r_1 2 fun x6a x6l x6c =>
  HC P slices_Reverse_s_lru_entry_s_byte_lru_entry_s_byte.id #[.slice x6a x6l x6c] m (Cont (fun v m1 =>
      UnTup v fun us0 =>
      UnNil us0 (
        SlS s_0a s_0c r_1 s_0l 2 fun x10a x10l x10c =>
        HC P slices_Reverse_s_lru_entry_s_byte_lru_entry_s_byte.id #[.slice x10a x10l x10c] m1 (Cont (fun v m2 =>
            UnTup v fun us0 =>
            UnNil us0 (
              HC P slices_Reverse_s_lru_entry_s_byte_lru_entry_s_byte.id #[.slice s_0a s_0l s_0c] m2 (Cont (fun v m3 =>
                  UnTup v fun us0 =>
                  UnNil us0 (
                    R (.returned (.tuple #[])) m3)) (panicR R)))) (panicR R)))) (panicR R))
noncomputable def e0A (R : Ending → Mem → Prop) : ACode := (.code (body))
theorem e0_eq (s_0a : Option Addr) (s_0l : Nat) (s_0c : Nat) (r_1 : Int) (R : Ending → Mem → Prop) (m : Mem) : e0 s_0a s_0l s_0c r_1 R m = acpt P od (panicR R) (e0A R) (bodyQ P fn R) (argE (#[.slice s_0a s_0l s_0c, .int .i64 r_1] : Array Value).toList) m := by kernel_rfl
theorem ok (s_0a : Option Addr) (s_0l : Nat) (s_0c : Nat) (r_1 : Int) (R : Ending → Mem → Prop) (m : Mem) (h : e0 s_0a s_0l s_0c r_1 R m) : HC P id #[.slice s_0a s_0l s_0c, .int .i64 r_1] m R := by
  refine HC_of (fn := fn) (c := body) (od := od) (tb := tb) Go.Proofs.Try.func63 (by kernel_rfl) (by kernel_rfl) follows (by kernel_rfl) (of_decide_eq_true (by kernel_rfl)) ?_
  have he : (e0A R).erase = body := by kernel_rfl
  rw [← he]
  refine acpt_sound (P := P) (e0A R) _ _ _ True.intro ?_
  exact Eq.mp (e0_eq s_0a s_0l s_0c r_1 R m) h
end slices_rotateLeft_lru_entry_s_byte

/-! ### slices.Reverse[[]eyot/lru.entry[[]byte],eyot/lru.entry[[]byte]] -/
namespace slices_Reverse_s_lru_entry_s_byte_lru_entry_s_byte
noncomputable def fn : Func := Go.Proofs.Try.f64
noncomputable def body : Code := fn.body.getD .skip
def od : Nat → Ord := fun | 3 => ordL [(0, 3), (1, 3), (2, 3), (3, 3), (4, 3), (5, 3), (6, 3), (7, 1), (8, 3), (9, 3), (10, 3), (11, 0), (12, 3), (13, 2), (14, 3), (15, 2)] .done | _ => .done
def tb : Nat → Tab := fun | 3 => (40960, [0, 0, 0, 0, 0, 0, 48, 112, 0, 0, 768, 1792, 4083, 8179, 16383, 32767], [(0, 1, 15), (0, 4, 16), (0, 1, 17), (0, 8, 18), (0, 1, 19), (0, 8, 20), (48, 786432, 21), (64, 1048576, 22), (0, 1, 23), (0, 4, 24), (768, 12582912, 25), (1024, 16777216, 26), (2291, 49152, 27), (6387, 69206016, 0), (16383, 196608, 28), (32767, 167772160, 0)]) | _ => (0, [], [])
def l1E (K : Option Addr → Nat → Nat → Int → Int → Mem → Prop) : Env → Mem → Prop := fun ρ m => UnS (ρ 0) fun s_0a s_0l s_0c => UnI (ρ 2) .i64 fun i_2 => UnI (ρ 3) .i64 fun j_3 => K s_0a s_0l s_0c i_2 j_3 m
def l1B  (K1 : Option Addr → Nat → Nat → Int → Int → Mem → Prop) (s_0a : Option Addr) (s_0l : Nat) (s_0c : Nat) (i_2 : Int) (j_3 : Int) (R : Ending → Mem → Prop) (m : Mem) : Prop :=
  Br (decide (i_2 < j_3)) (
    Sub m fun r1 =>
    IxS s_0a s_0l j_3 2 fun x20b x20o =>
    LdV r1 x20b x20o fun v =>
    UnI v .i64 fun x21_0 =>
    LdV r1 x20b (x20o + 1) fun v =>
    UnS v fun x21_1a x21_1l x21_1c =>
    IxS s_0a s_0l i_2 2 fun x24b x24o =>
    LdV m x24b x24o fun v =>
    UnI v .i64 fun x25_0 =>
    LdV m x24b (x24o + 1) fun v =>
    UnS v fun x25_1a x25_1l x25_1c =>
    IxS s_0a s_0l i_2 2 fun x26b x26o =>
    St1 m x26b x26o (.int .i64 x21_0) fun m2 =>
    St1 m2 x26b (x26o + 1) (.slice x21_1a x21_1l x21_1c) fun m3 =>
    IxS s_0a s_0l j_3 2 fun x27b x27o =>
    St1 m3 x27b x27o (.int .i64 x25_0) fun m4 =>
    St1 m4 x27b (x27o + 1) (.slice x25_1a x25_1l x25_1c) fun m5 =>
    K1 s_0a s_0l s_0c (IntKind.i64.wrap (i_2 + 1)) (IntKind.i64.wrap (j_3 - 1)) m5) (
    R (.returned (.tuple #[])) m)
def l1  (s_0a : Option Addr) (s_0l : Nat) (s_0c : Nat) (i_2 : Int) (j_3 : Int) (R : Ending → Mem → Prop) (m : Mem) : Prop :=
  ∃ (I : Nat → Option Addr → Nat → Nat → Int → Int → Mem → Prop) (N : Nat), I N s_0a s_0l s_0c i_2 j_3 m ∧ ∀ N s_0a s_0l s_0c i_2 j_3 m, I N s_0a s_0l s_0c i_2 j_3 m → l1B  (fun s_0a s_0l s_0c i_2 j_3 m => ∃ N1, N1 < N ∧ I N1 s_0a s_0l s_0c i_2 j_3 m) s_0a s_0l s_0c i_2 j_3 R m
noncomputable def l1A  (K1 : Option Addr → Nat → Nat → Int → Int → Mem → Prop) (R : Ending → Mem → Prop) : ACode := (.code (lP (bB (sR (body)))))
def e0 (s_0a : Option Addr) (s_0l : Nat) (s_0c : Nat) (R : Ending → Mem → Prop) (m : Mem) : Prop :=
  l1  s_0a s_0l s_0c 0 (IntKind.i64.wrap (((s_0l : Nat) : Int) - 1)) R m
noncomputable def e0A (R : Ending → Mem → Prop) : ACode := (.seq (.code (sL (body))) (.block 0 (.cut (l1E fun s_0a s_0l s_0c i_2 j_3 m => l1  s_0a s_0l s_0c i_2 j_3 R m) (.loop (lP (bB (sR (body))))))))
theorem l1_eq  (K1 : Option Addr → Nat → Nat → Int → Int → Mem → Prop) (R : Ending → Mem → Prop) (s_0a : Option Addr) (s_0l : Nat) (s_0c : Nat) (i_2 : Int) (j_3 : Int) (ρ : Env) (m : Mem) : l1B  K1 s_0a s_0l s_0c i_2 j_3 R m = acpt P od (panicR R) (l1A  K1 R) (thenQ (l1E K1) (blockQ 0 (bodyQ P fn R))) (upd (upd (upd ρ 3 (.int .i64 j_3)) 2 (.int .i64 i_2)) 0 (.slice s_0a s_0l s_0c)) m := by kernel_rfl
theorem l1_er  (K1 : Option Addr → Nat → Nat → Int → Int → Mem → Prop) (R : Ending → Mem → Prop) : (l1A  K1 R).erase = lP (bB (sR (body))) := by kernel_rfl
theorem l1_ok  (R : Ending → Mem → Prop) (ρ : Env) (m : Mem) (h : (l1E fun s_0a s_0l s_0c i_2 j_3 m => l1  s_0a s_0l s_0c i_2 j_3 R m) ρ m) : cpt P od (panicR R) (.loop (lP (bB (sR (body))))) (blockQ 0 (bodyQ P fn R)) ρ m := by
  unfold l1E at h
  obtain ⟨s_0a, s_0l, s_0c, e0, h⟩ := h.ex
  obtain ⟨i_2, e2, h⟩ := h.ex
  obtain ⟨j_3, e3, h⟩ := h.ex
  obtain ⟨I, N, h0, hs⟩ := h
  refine ⟨fun N => l1E (I N), N, (by show l1E (I N) ρ m; unfold l1E; rw [e0, e2, e3]; exact h0), ?_⟩
  clear h0 e0 e2 e3
  intro N ρ m h
  unfold l1E at h
  obtain ⟨s_0a, s_0l, s_0c, e0, h⟩ := h.ex
  obtain ⟨i_2, e2, h⟩ := h.ex
  obtain ⟨j_3, e3, h⟩ := h.ex
  refine cpt_mono (P := P) (lP (bB (sR (body)))) (Q := thenQ (l1E fun s_0a s_0l s_0c i_2 j_3 m => ∃ N1, N1 < N ∧ I N1 s_0a s_0l s_0c i_2 j_3 m) (blockQ 0 (bodyQ P fn R))) (fun e ρ m h => ?_) ρ m ?_
  · cases e with
    | normal =>
      have h : l1E (fun s_0a s_0l s_0c i_2 j_3 m => ∃ N1, N1 < N ∧ I N1 s_0a s_0l s_0c i_2 j_3 m) ρ m := h
      unfold l1E at h
      obtain ⟨s_0a, s_0l, s_0c, e0, h⟩ := h.ex
      obtain ⟨i_2, e2, h⟩ := h.ex
      obtain ⟨j_3, e3, h⟩ := h.ex
      obtain ⟨N1, hlt, h⟩ := h
      exact ⟨N1, hlt, (by show l1E (I N1) ρ m; unfold l1E; rw [e0, e2, e3]; exact h)⟩
    | _ => exact h
  have hh := hs N s_0a s_0l s_0c i_2 j_3 m h
  generalize (fun s_0a s_0l s_0c i_2 j_3 m => ∃ N1, N1 < N ∧ I N1 s_0a s_0l s_0c i_2 j_3 m : Option Addr → Nat → Nat → Int → Int → Mem → Prop) = K1 at hh ⊢
  rw [← upd_self e0, ← upd_self e2, ← upd_self e3]
  rw [← l1_er  K1 R]
  refine acpt_sound (P := P) (l1A  K1 R) _ _ _ True.intro ?_
  exact Eq.mp (l1_eq  K1 R s_0a s_0l s_0c i_2 j_3 ρ m) hh
theorem e0_eq (s_0a : Option Addr) (s_0l : Nat) (s_0c : Nat) (R : Ending → Mem → Prop) (m : Mem) : e0 s_0a s_0l s_0c R m = acpt P od (panicR R) (e0A R) (bodyQ P fn R) (argE (#[.slice s_0a s_0l s_0c] : Array Value).toList) m := by kernel_rfl
theorem ok (s_0a : Option Addr) (s_0l : Nat) (s_0c : Nat) (R : Ending → Mem → Prop) (m : Mem) (h : e0 s_0a s_0l s_0c R m) : HC P id #[.slice s_0a s_0l s_0c] m R := by
  refine HC_of (fn := fn) (c := body) (od := od) (tb := tb) Go.Proofs.Try.func64 (by kernel_rfl) (by kernel_rfl) follows (by kernel_rfl) (of_decide_eq_true (by kernel_rfl)) ?_
  have he : (e0A R).erase = body := by kernel_rfl
  rw [← he]
  refine acpt_sound (P := P) (e0A R) _ _ _ ⟨(fun ρ m h => l1_ok  R ρ m h), True.intro⟩ ?_
  exact Eq.mp (e0_eq s_0a s_0l s_0c R m) h
end slices_Reverse_s_lru_entry_s_byte_lru_entry_s_byte

end
end Go.E
