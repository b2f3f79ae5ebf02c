/- Printed by this project's own gen.py: more shallow forms. -/
import Derived.Test.YtjicfgageihahaaG4
set_option linter.unusedVariables false
set_option maxRecDepth 100000
namespace Go.E
open Go.H
noncomputable section
/-! ### slices.Insert[[]eyot/lru.entry[int],eyot/lru.entry[int]] -/
namespace slices_Insert_s_lru_entry_int_lru_entry_int
noncomputable def fn : Func := Go.Proofs.Try.f41
noncomputable def body : Code := fn.body.getD .skip
def od : Nat → Ord := fun | 11 => ordL [(0, 3), (1, 3), (2, 3), (3, 3), (4, 3), (5, 3), (6, 3), (7, 3), (8, 2)] .done | 15 => ordL [(0, 3), (1, 3), (2, 3), (3, 3), (4, 3), (5, 3), (6, 3), (7, 3), (8, 2)] .done | _ => .done
def tb : Nat → Tab := fun | 11 => (256, [0, 0, 0, 6, 15, 0, 0, 96, 255], [(0, 512, 47), (0, 2, 48), (0, 128, 49), (6, 422212465065984, 50), (9, 633318697598976, 51), (0, 1, 52), (0, 2, 53), (96, 6755399441055744, 54), (144, 10133099161583616, 55)]) | 15 => (256, [0, 0, 0, 6, 15, 0, 0, 96, 255], [(0, 1, 70), (0, 2, 71), (0, 128, 72), (6, 3541774862152233910272, 73), (9, 5312662293228350865408, 74), (0, 1, 75), (0, 2, 76), (96, 56668397794435742564352, 77), (144, 85002596691653613846528, 78)]) | _ => (0, [], [])
def e0 (a0a : Option Addr) (a0l : Nat) (a0c : Nat) (a1 : Int) (a2a : Option Addr) (a2l : Nat) (a2c : Nat) (R : Ending → Mem → Prop) (m : Mem) : Prop :=
  SlS a0a a0c a1 a0l 2 fun x12a x12l x12c =>
  Br (((a2l : Nat) : Int) == 0) (
    R (.returned (.slice a0a a0l a0c)) m) (
    Br (a1 == ((a0l : Nat) : Int)) (
      BiN P .append #[T_sl_lru_entry_int, T_sl_lru_entry_int] T_sl_lru_entry_int #[false, false] #[.slice a0a a0l a0c, .slice a2a a2l a2c] m (fun w m1 =>
        UnS w fun x25a x25l x25c =>
        R (.returned (.slice x25a x25l x25c)) m1) (panicR R)) (
      Br (decide ((IntKind.i64.wrap (((a0l : Nat) : Int) + ((a2l : Nat) : Int))) > ((a0c : Nat) : Int))) (
        SlS a0a a0c 0 a1 2 fun x34a x34l x34c =>
        BiN P .append #[T_sl_lru_entry_int, T_int] T_sl_lru_entry_int #[false, false] #[.slice x34a x34l x34c, .int .i64 (IntKind.i64.wrap ((IntKind.i64.wrap (((a0l : Nat) : Int) + ((a2l : Nat) : Int))) - a1))] m (fun w m1 =>
          UnS w fun x40a x40l x40c =>
          SlS x40a x40c a1 x40l 2 fun x43a x43l x43c =>
          BiN P .copy #[T_sl_lru_entry_int, T_sl_lru_entry_int] T_int #[false, false] #[.slice x43a x43l x43c, .slice a2a a2l a2c] m1 (fun w m2 =>
            UnI w .i64 fun x45 =>
            Sub m2 fun r3 =>
            SlS x40a x40c (IntKind.i64.wrap (a1 + ((a2l : Nat) : Int))) x40l 2 fun x50a x50l x50c =>
            SlS a0a a0c a1 a0l 2 fun x53a x53l x53c =>
            BiN P .copy #[T_sl_lru_entry_int, T_sl_lru_entry_int] T_int #[false, false] #[.slice x50a x50l x50c, .slice x53a x53l x53c] m2 (fun w m4 =>
              UnI w .i64 fun x54 =>
              R (.returned (.slice x40a x40l x40c)) m4) (panicR R)) (panicR R)) (panicR R)) (
        SlS a0a a0c 0 (IntKind.i64.wrap (((a0l : Nat) : Int) + ((a2l : Nat) : Int))) 2 fun x60a x60l x60c =>
        SlS x60a x60c (IntKind.i64.wrap (a1 + ((a2l : Nat) : Int))) x60l 2 fun x66a x66l x66c =>
        HC P slices_overlaps_lru_entry_int.id #[.slice a2a a2l a2c, .slice x66a x66l x66c] m (Cont (fun v m1 =>
            UnB v fun x67 =>
            Br (!x67) (
              Sub m1 fun r2 =>
              SlS x60a x60c (IntKind.i64.wrap (a1 + ((a2l : Nat) : Int))) x60l 2 fun x73a x73l x73c =>
              SlS x60a x60c a1 x60l 2 fun x76a x76l x76c =>
              BiN P .copy #[T_sl_lru_entry_int, T_sl_lru_entry_int] T_int #[false, false] #[.slice x73a x73l x73c, .slice x76a x76l x76c] m1 (fun w m3 =>
                UnI w .i64 fun x77 =>
                SlS x60a x60c a1 x60l 2 fun x80a x80l x80c =>
                BiN P .copy #[T_sl_lru_entry_int, T_sl_lru_entry_int] T_int #[false, false] #[.slice x80a x80l x80c, .slice a2a a2l a2c] m3 (fun w m4 =>
                  UnI w .i64 fun x82 =>
                  R (.returned (.slice x60a x60l x60c)) m4) (panicR R)) (panicR R)) (
              SlS x60a x60c ((a0l : Nat) : Int) x60l 2 fun x86a x86l x86c =>
              BiN P .copy #[T_sl_lru_entry_int, T_sl_lru_entry_int] T_int #[false, false] #[.slice x86a x86l x86c, .slice a2a a2l a2c] m1 (fun w m2 =>
                UnI w .i64 fun x88 =>
                SlS x60a x60c a1 x60l 2 fun x91a x91l x91c =>
                HC P slices_rotateRight_lru_entry_int.id #[.slice x91a x91l x91c, .int .i64 ((a2l : Nat) : Int)] m2 (Cont (fun v m3 =>
                    UnTup v fun us0 =>
                    UnNil us0 (
                      R (.returned (.slice x60a x60l x60c)) m3)) (panicR R))) (panicR R))) (panicR R)))))
noncomputable def e0A (R : Ending → Mem → Prop) : ACode := (.code (body))
theorem e0_eq (a0a : Option Addr) (a0l : Nat) (a0c : Nat) (a1 : Int) (a2a : Option Addr) (a2l : Nat) (a2c : Nat) (R : Ending → Mem → Prop) (m : Mem) : e0 a0a a0l a0c a1 a2a a2l a2c R m = acpt P od (panicR R) (e0A R) (bodyQ P fn R) (argE (#[.slice a0a a0l a0c, .int .i64 a1, .slice a2a a2l a2c] : Array Value).toList) m := by kernel_rfl
theorem ok (a0a : Option Addr) (a0l : Nat) (a0c : Nat) (a1 : Int) (a2a : Option Addr) (a2l : Nat) (a2c : Nat) (R : Ending → Mem → Prop) (m : Mem) (h : e0 a0a a0l a0c a1 a2a a2l a2c R m) : HC P id #[.slice a0a a0l a0c, .int .i64 a1, .slice a2a a2l a2c] m R := by
  refine HC_of (fn := fn) (c := body) (od := od) (tb := tb) Go.Proofs.Try.func41 (by kernel_rfl) (by kernel_rfl) follows (by kernel_rfl) (of_decide_eq_true (by kernel_rfl)) ?_
  have he : (e0A R).erase = body := by kernel_rfl
  rw [← he]
  refine acpt_sound (P := P) (e0A R) _ _ _ True.intro ?_
  exact Eq.mp (e0_eq a0a a0l a0c a1 a2a a2l a2c R m) h
end slices_Insert_s_lru_entry_int_lru_entry_int

/-! ### slices.Insert[[]eyot/lru.entry[[2]int],eyot/lru.entry[[2]int]] -/
namespace slices_Insert_s_lru_entry_2_int_lru_entry_2_int
noncomputable def fn : Func := Go.Proofs.Try.f42
noncomputable def body : Code := fn.body.getD .skip
def od : Nat → Ord := fun | 11 => ordL [(0, 3), (1, 3), (2, 3), (3, 3), (4, 3), (5, 3), (6, 3), (7, 3), (8, 2)] .done | 15 => ordL [(0, 3), (1, 3), (2, 3), (3, 3), (4, 3), (5, 3), (6, 3), (7, 3), (8, 2)] .done | _ => .done
def tb : Nat → Tab := fun | 11 => (256, [0, 0, 0, 6, 15, 0, 0, 96, 255], [(0, 512, 47), (0, 2, 48), (0, 128, 49), (6, 422212465065984, 50), (9, 633318697598976, 51), (0, 1, 52), (0, 2, 53), (96, 6755399441055744, 54), (144, 10133099161583616, 55)]) | 15 => (256, [0, 0, 0, 6, 15, 0, 0, 96, 255], [(0, 1, 70), (0, 2, 71), (0, 128, 72), (6, 3541774862152233910272, 73), (9, 5312662293228350865408, 74), (0, 1, 75), (0, 2, 76), (96, 56668397794435742564352, 77), (144, 85002596691653613846528, 78)]) | _ => (0, [], [])
def e0 (a0a : Option Addr) (a0l : Nat) (a0c : Nat) (a1 : Int) (a2a : Option Addr) (a2l : Nat) (a2c : Nat) (R : Ending → Mem → Prop) (m : Mem) : Prop :=
  SlS a0a a0c a1 a0l 3 fun x12a x12l x12c =>
  Br (((a2l : Nat) : Int) == 0) (
    R (.returned (.slice a0a a0l a0c)) m) (
    Br (a1 == ((a0l : Nat) : Int)) (
      BiN P .append #[T_sl_lru_entry_2_int, T_sl_lru_entry_2_int] T_sl_lru_entry_2_int #[false, false] #[.slice a0a a0l a0c, .slice a2a a2l a2c] m (fun w m1 =>
        UnS w fun x25a x25l x25c =>
        R (.returned (.slice x25a x25l x25c)) m1) (panicR R)) (
      Br (decide ((IntKind.i64.wrap (((a0l : Nat) : Int) + ((a2l : Nat) : Int))) > ((a0c : Nat) : Int))) (
        SlS a0a a0c 0 a1 3 fun x34a x34l x34c =>
        BiN P .append #[T_sl_lru_entry_2_int, T_int] T_sl_lru_entry_2_int #[false, false] #[.slice x34a x34l x34c, .int .i64 (IntKind.i64.wrap ((IntKind.i64.wrap (((a0l : Nat) : Int) + ((a2l : Nat) : Int))) - a1))] m (fun w m1 =>
          UnS w fun x40a x40l x40c =>
          SlS x40a x40c a1 x40l 3 fun x43a x43l x43c =>
          BiN P .copy #[T_sl_lru_entry_2_int, T_sl_lru_entry_2_int] T_int #[false, false] #[.slice x43a x43l x43c, .slice a2a a2l a2c] m1 (fun w m2 =>
            UnI w .i64 fun x45 =>
            Sub m2 fun r3 =>
            SlS x40a x40c (IntKind.i64.wrap (a1 + ((a2l : Nat) : Int))) x40l 3 fun x50a x50l x50c =>
            SlS a0a a0c a1 a0l 3 fun x53a x53l x53c =>
            BiN P .copy #[T_sl_lru_entry_2_int, T_sl_lru_entry_2_int] T_int #[false, false] #[.slice x50a x50l x50c, .slice x53a x53l x53c] m2 (fun w m4 =>
              UnI w .i64 fun x54 =>
              R (.returned (.slice x40a x40l x40c)) m4) (panicR R)) (panicR R)) (panicR R)) (
        SlS a0a a0c 0 (IntKind.i64.wrap (((a0l : Nat) : Int) + ((a2l : Nat) : Int))) 3 fun x60a x60l x60c =>
        SlS x60a x60c (IntKind.i64.wrap (a1 + ((a2l : Nat) : Int))) x60l 3 fun x66a x66l x66c =>
        HC P slices_overlaps_lru_entry_2_int.id #[.slice a2a a2l a2c, .slice x66a x66l x66c] m (Cont (fun v m1 =>
            UnB v fun x67 =>
            Br (!x67) (
              Sub m1 fun r2 =>
              SlS x60a x60c (IntKind.i64.wrap (a1 + ((a2l : Nat) : Int))) x60l 3 fun x73a x73l x73c =>
              SlS x60a x60c a1 x60l 3 fun x76a x76l x76c =>
              BiN P .copy #[T_sl_lru_entry_2_int, T_sl_lru_entry_2_int] T_int #[false, false] #[.slice x73a x73l x73c, .slice x76a x76l x76c] m1 (fun w m3 =>
                UnI w .i64 fun x77 =>
                SlS x60a x60c a1 x60l 3 fun x80a x80l x80c =>
                BiN P .copy #[T_sl_lru_entry_2_int, T_sl_lru_entry_2_int] T_int #[false, false] #[.slice x80a x80l x80c, .slice a2a a2l a2c] m3 (fun w m4 =>
                  UnI w .i64 fun x82 =>
                  R (.returned (.slice x60a x60l x60c)) m4) (panicR R)) (panicR R)) (
              SlS x60a x60c ((a0l : Nat) : Int) x60l 3 fun x86a x86l x86c =>
              BiN P .copy #[T_sl_lru_entry_2_int, T_sl_lru_entry_2_int] T_int #[false, false] #[.slice x86a x86l x86c, .slice a2a a2l a2c] m1 (fun w m2 =>
                UnI w .i64 fun x88 =>
                SlS x60a x60c a1 x60l 3 fun x91a x91l x91c =>
                HC P slices_rotateRight_lru_entry_2_int.id #[.slice x91a x91l x91c, .int .i64 ((a2l : Nat) : Int)] m2 (Cont (fun v m3 =>
                    UnTup v fun us0 =>
                    UnNil us0 (
                      R (.returned (.slice x60a x60l x60c)) m3)) (panicR R))) (panicR R))) (panicR R)))))
noncomputable def e0A (R : Ending → Mem → Prop) : ACode := (.code (body))
theorem e0_eq (a0a : Option Addr) (a0l : Nat) (a0c : Nat) (a1 : Int) (a2a : Option Addr) (a2l : Nat) (a2c : Nat) (R : Ending → Mem → Prop) (m : Mem) : e0 a0a a0l a0c a1 a2a a2l a2c R m = acpt P od (panicR R) (e0A R) (bodyQ P fn R) (argE (#[.slice a0a a0l a0c, .int .i64 a1, .slice a2a a2l a2c] : Array Value).toList) m := by kernel_rfl
theorem ok (a0a : Option Addr) (a0l : Nat) (a0c : Nat) (a1 : Int) (a2a : Option Addr) (a2l : Nat) (a2c : Nat) (R : Ending → Mem → Prop) (m : Mem) (h : e0 a0a a0l a0c a1 a2a a2l a2c R m) : HC P id #[.slice a0a a0l a0c, .int .i64 a1, .slice a2a a2l a2c] m R := by
  refine HC_of (fn := fn) (c := body) (od := od) (tb := tb) Go.Proofs.Try.func42 (by kernel_rfl) (by kernel_rfl) follows (by kernel_rfl) (of_decide_eq_true (by kernel_rfl)) ?_
  have he : (e0A R).erase = body := by kernel_rfl
  rw [← he]
  refine acpt_sound (P := P) (e0A R) _ _ _ True.intro ?_
  exact Eq.mp (e0_eq a0a a0l a0c a1 a2a a2l a2c R m) h
end slices_Insert_s_lru_entry_2_int_lru_entry_2_int

/-! ### slices.IndexFunc[[]eyot/lru.entry[[2]int],eyot/lru.entry[[2]int]] -/
namespace slices_IndexFunc_s_lru_entry_2_int_lru_entry_2_int
noncomputable def fn : Func := Go.Proofs.Try.f43
noncomputable def body : Code := fn.body.getD .skip
def od : Nat → Ord := fun _ => .done
def tb : Nat → Tab := fun _ => (0, [], [])
def l1E (K : Option Addr → Nat → Nat → Value → Int → Int → Mem → Prop) : Env → Mem → Prop := fun ρ m => UnS (ρ 0) fun s_0a s_0l s_0c => (fun f_1 => UnI (ρ 7) .i64 fun x7 => UnI (ρ 8) .i64 fun x8 => K s_0a s_0l s_0c f_1 x7 x8 m) (ρ 1)
def l1B  (K1 : Option Addr → Nat → Nat → Value → Int → Int → Mem → Prop) (s_0a : Option Addr) (s_0l : Nat) (s_0c : Nat) (f_1 : Value) (x7 : Int) (x8 : Int) (R : Ending → Mem → Prop) (m : Mem) : Prop :=
  Br (decide (x8 < x7)) (
    IxS s_0a s_0l x8 3 fun x14b x14o =>
    LdV m x14b x14o fun v =>
    UnI v .i64 fun x15_0 =>
    LdV m x14b (x14o + 1) fun v =>
    UnI v .i64 fun x15_1 =>
    LdV m x14b (x14o + 2) fun v =>
    UnI v .i64 fun x15_2 =>
    CallV P f_1 #[.agg #[.int .i64 x15_0, .int .i64 x15_1, .int .i64 x15_2]] m (Cont (fun v m1 =>
        UnB v fun x16 =>
        Br x16 (
          R (.returned (.int .i64 x8)) m1) (
          K1 s_0a s_0l s_0c f_1 x7 (IntKind.i64.wrap (x8 + 1)) m1)) (panicR R))) (
    R (.returned (.int .i64 (-1))) m)
def l1  (s_0a : Option Addr) (s_0l : Nat) (s_0c : Nat) (f_1 : Value) (x7 : Int) (x8 : Int) (R : Ending → Mem → Prop) (m : Mem) : Prop :=
  ∃ (I : Nat → Option Addr → Nat → Nat → Value → Int → Int → Mem → Prop) (N : Nat), I N s_0a s_0l s_0c f_1 x7 x8 m ∧ ∀ N s_0a s_0l s_0c f_1 x7 x8 m, I N s_0a s_0l s_0c f_1 x7 x8 m → l1B  (fun s_0a s_0l s_0c f_1 x7 x8 m => ∃ N1, N1 < N ∧ I N1 s_0a s_0l s_0c f_1 x7 x8 m) s_0a s_0l s_0c f_1 x7 x8 R m
noncomputable def l1A  (K1 : Option Addr → Nat → Nat → Value → Int → Int → Mem → Prop) (R : Ending → Mem → Prop) : ACode := (.code (lP (bB (sR (sL (sR (body)))))))
def e0 (s_0a : Option Addr) (s_0l : Nat) (s_0c : Nat) (f_1 : Value) (R : Ending → Mem → Prop) (m : Mem) : Prop :=
  l1  s_0a s_0l s_0c f_1 ((s_0l : Nat) : Int) 0 R m
noncomputable def e0A (R : Ending → Mem → Prop) : ACode := (.seq (.code (sL (body))) (.seq (.seq (.code (sL (sL (sR (body))))) (.block 0 (.cut (l1E fun s_0a s_0l s_0c f_1 x7 x8 m => l1  s_0a s_0l s_0c f_1 x7 x8 R m) (.loop (lP (bB (sR (sL (sR (body)))))))))) (.code (sR (sR (body))))))
theorem l1_eq  (K1 : Option Addr → Nat → Nat → Value → Int → Int → Mem → Prop) (R : Ending → Mem → Prop) (s_0a : Option Addr) (s_0l : Nat) (s_0c : Nat) (f_1 : Value) (x7 : Int) (x8 : Int) (ρ : Env) (m : Mem) : l1B  K1 s_0a s_0l s_0c f_1 x7 x8 R m = acpt P od (panicR R) (l1A  K1 R) (thenQ (l1E K1) (blockQ 0 (thenQ (acpt P od (panicR R) (.code (sR (sR (body)))) (bodyQ P fn R)) (bodyQ P fn R)))) (upd (upd (upd (upd ρ 8 (.int .i64 x8)) 7 (.int .i64 x7)) 1 (f_1)) 0 (.slice s_0a s_0l s_0c)) m := by kernel_rfl
theorem l1_er  (K1 : Option Addr → Nat → Nat → Value → Int → Int → Mem → Prop) (R : Ending → Mem → Prop) : (l1A  K1 R).erase = lP (bB (sR (sL (sR (body))))) := by kernel_rfl
theorem l1_ok  (R : Ending → Mem → Prop) (ρ : Env) (m : Mem) (h : (l1E fun s_0a s_0l s_0c f_1 x7 x8 m => l1  s_0a s_0l s_0c f_1 x7 x8 R m) ρ m) : cpt P od (panicR R) (.loop (lP (bB (sR (sL (sR (body))))))) (blockQ 0 (thenQ (acpt P od (panicR R) (.code (sR (sR (body)))) (bodyQ P fn R)) (bodyQ P fn R))) ρ m := by
  unfold l1E at h
  obtain ⟨s_0a, s_0l, s_0c, e0, h⟩ := h.ex
  generalize e1 : ρ 1 = f_1 at h
  try dsimp only at h
  obtain ⟨x7, e7, h⟩ := h.ex
  obtain ⟨x8, e8, h⟩ := h.ex
  obtain ⟨I, N, h0, hs⟩ := h
  refine ⟨fun N => l1E (I N), N, (by show l1E (I N) ρ m; unfold l1E; rw [e0, e1, e7, e8]; exact h0), ?_⟩
  clear h0 e0 e1 e7 e8
  intro N ρ m h
  unfold l1E at h
  obtain ⟨s_0a, s_0l, s_0c, e0, h⟩ := h.ex
  generalize e1 : ρ 1 = f_1 at h
  try dsimp only at h
  obtain ⟨x7, e7, h⟩ := h.ex
  obtain ⟨x8, e8, h⟩ := h.ex
  refine cpt_mono (P := P) (lP (bB (sR (sL (sR (body)))))) (Q := thenQ (l1E fun s_0a s_0l s_0c f_1 x7 x8 m => ∃ N1, N1 < N ∧ I N1 s_0a s_0l s_0c f_1 x7 x8 m) (blockQ 0 (thenQ (acpt P od (panicR R) (.code (sR (sR (body)))) (bodyQ P fn R)) (bodyQ P fn R)))) (fun e ρ m h => ?_) ρ m ?_
  · cases e with
    | normal =>
      have h : l1E (fun s_0a s_0l s_0c f_1 x7 x8 m => ∃ N1, N1 < N ∧ I N1 s_0a s_0l s_0c f_1 x7 x8 m) ρ m := h
      unfold l1E at h
      obtain ⟨s_0a, s_0l, s_0c, e0, h⟩ := h.ex
      generalize e1 : ρ 1 = f_1 at h
      try dsimp only at h
      obtain ⟨x7, e7, h⟩ := h.ex
      obtain ⟨x8, e8, h⟩ := h.ex
      obtain ⟨N1, hlt, h⟩ := h
      exact ⟨N1, hlt, (by show l1E (I N1) ρ m; unfold l1E; rw [e0, e1, e7, e8]; exact h)⟩
    | _ => exact h
  have hh := hs N s_0a s_0l s_0c f_1 x7 x8 m h
  generalize (fun s_0a s_0l s_0c f_1 x7 x8 m => ∃ N1, N1 < N ∧ I N1 s_0a s_0l s_0c f_1 x7 x8 m : Option Addr → Nat → Nat → Value → Int → Int → Mem → Prop) = K1 at hh ⊢
  rw [← upd_self e0, ← upd_self e1, ← upd_self e7, ← upd_self e8]
  rw [← l1_er  K1 R]
  refine acpt_sound (P := P) (l1A  K1 R) _ _ _ True.intro ?_
  exact Eq.mp (l1_eq  K1 R s_0a s_0l s_0c f_1 x7 x8 ρ m) hh
theorem e0_eq (s_0a : Option Addr) (s_0l : Nat) (s_0c : Nat) (f_1 : Value) (R : Ending → Mem → Prop) (m : Mem) : e0 s_0a s_0l s_0c f_1 R m = acpt P od (panicR R) (e0A R) (bodyQ P fn R) (argE (#[.slice s_0a s_0l s_0c, f_1] : Array Value).toList) m := by kernel_rfl
theorem ok (s_0a : Option Addr) (s_0l : Nat) (s_0c : Nat) (f_1 : Value) (R : Ending → Mem → Prop) (m : Mem) (h : e0 s_0a s_0l s_0c f_1 R m) : HC P id #[.slice s_0a s_0l s_0c, f_1] m R := by
  refine HC_of (fn := fn) (c := body) (od := od) (tb := tb) Go.Proofs.Try.func43 (by kernel_rfl) (by kernel_rfl) follows (by kernel_rfl) (of_decide_eq_true (by kernel_rfl)) ?_
  have he : (e0A R).erase = body := by kernel_rfl
  rw [← he]
  refine acpt_sound (P := P) (e0A R) _ _ _ ⟨⟨True.intro, ⟨(fun ρ m h => l1_ok  R ρ m h), True.intro⟩⟩, True.intro⟩ ?_
  exact Eq.mp (e0_eq s_0a s_0l s_0c f_1 R m) h
end slices_IndexFunc_s_lru_entry_2_int_lru_entry_2_int

/-! ### (*eyot/lru.Cache[[2]int]).at$1 -/
namespace lru_Cache_2_int_at_1
noncomputable def fn : Func := Go.Proofs.Try.f44
noncomputable def body : Code := fn.body.getD .skip
def od : Nat → Ord := fun _ => .done
def tb : Nat → Tab := fun _ => (0, [], [])
def e0 (e_0_0 : Int) (e_0_1 : Int) (e_0_2 : Int) (c0b : Nat) (c0o : Nat) (R : Ending → Mem → Prop) (m : Mem) : Prop :=
  NewC m #[.int .i64 e_0_0, .int .i64 e_0_1, .int .i64 e_0_2] T_lru_entry_2_int fun b_e_2 m1 =>
  LdV m1 b_e_2 0 fun v =>
  UnI v .i64 fun x5 =>
  LdV m1 c0b c0o fun v =>
  UnI v .i64 fun x6 =>
  R (.returned (.bool (x5 == x6))) m1
noncomputable def e0A (R : Ending → Mem → Prop) : ACode := (.code (body))
theorem e0_eq (e_0_0 : Int) (e_0_1 : Int) (e_0_2 : Int) (c0b : Nat) (c0o : Nat) (R : Ending → Mem → Prop) (m : Mem) : e0 e_0_0 e_0_1 e_0_2 c0b c0o R m = acpt P od (panicR R) (e0A R) (bodyQ P fn R) (argE (#[.agg #[.int .i64 e_0_0, .int .i64 e_0_1, .int .i64 e_0_2], .pointer (some ⟨c0b, c0o, none⟩)] : Array Value).toList) m := by kernel_rfl
theorem ok (e_0_0 : Int) (e_0_1 : Int) (e_0_2 : Int) (c0b : Nat) (c0o : Nat) (R : Ending → Mem → Prop) (m : Mem) (h : e0 e_0_0 e_0_1 e_0_2 c0b c0o R m) : HC P id #[.agg #[.int .i64 e_0_0, .int .i64 e_0_1, .int .i64 e_0_2], .pointer (some ⟨c0b, c0o, none⟩)] m R := by
  refine HC_of (fn := fn) (c := body) (od := od) (tb := tb) Go.Proofs.Try.func44 (by kernel_rfl) (by kernel_rfl) follows (by kernel_rfl) (of_decide_eq_true (by kernel_rfl)) ?_
  have he : (e0A R).erase = body := by kernel_rfl
  rw [← he]
  refine acpt_sound (P := P) (e0A R) _ _ _ True.intro ?_
  exact Eq.mp (e0_eq e_0_0 e_0_1 e_0_2 c0b c0o R m) h
end lru_Cache_2_int_at_1

/-! ### slices.IndexFunc[[]eyot/lru.entry[string],eyot/lru.entry[string]] -/
namespace slices_IndexFunc_s_lru_entry_string_lru_entry_string
noncomputable def fn : Func := Go.Proofs.Try.f45
noncomputable def body : Code := fn.body.getD .skip
def od : Nat → Ord := fun _ => .done
def tb : Nat → Tab := fun _ => (0, [], [])
def l1E (K : Option Addr → Nat → Nat → Value → Int → Int → Mem → Prop) : Env → Mem → Prop := fun ρ m => UnS (ρ 0) fun s_0a s_0l s_0c => (fun f_1 => UnI (ρ 7) .i64 fun x7 => UnI (ρ 8) .i64 fun x8 => K s_0a s_0l s_0c f_1 x7 x8 m) (ρ 1)
def l1B  (K1 : Option Addr → Nat → Nat → Value → Int → Int → Mem → Prop) (s_0a : Option Addr) (s_0l : Nat) (s_0c : Nat) (f_1 : Value) (x7 : Int) (x8 : Int) (R : Ending → Mem → Prop) (m : Mem) : Prop :=
  Br (decide (x8 < x7)) (
    IxS s_0a s_0l x8 2 fun x14b x14o =>
    LdV m x14b x14o fun v =>
    UnI v .i64 fun x15_0 =>
    LdV m x14b (x14o + 1) fun v =>
    UnStr v fun x15_1 =>
    CallV P f_1 #[.agg #[.int .i64 x15_0, .string x15_1]] m (Cont (fun v m1 =>
        UnB v fun x16 =>
        Br x16 (
          R (.returned (.int .i64 x8)) m1) (
          K1 s_0a s_0l s_0c f_1 x7 (IntKind.i64.wrap (x8 + 1)) m1)) (panicR R))) (
    R (.returned (.int .i64 (-1))) m)
def l1  (s_0a : Option Addr) (s_0l : Nat) (s_0c : Nat) (f_1 : Value) (x7 : Int) (x8 : Int) (R : Ending → Mem → Prop) (m : Mem) : Prop :=
  ∃ (I : Nat → Option Addr → Nat → Nat → Value → Int → Int → Mem → Prop) (N : Nat), I N s_0a s_0l s_0c f_1 x7 x8 m ∧ ∀ N s_0a s_0l s_0c f_1 x7 x8 m, I N s_0a s_0l s_0c f_1 x7 x8 m → l1B  (fun s_0a s_0l s_0c f_1 x7 x8 m => ∃ N1, N1 < N ∧ I N1 s_0a s_0l s_0c f_1 x7 x8 m) s_0a s_0l s_0c f_1 x7 x8 R m
noncomputable def l1A  (K1 : Option Addr → Nat → Nat → Value → Int → Int → Mem → Prop) (R : Ending → Mem → Prop) : ACode := (.code (lP (bB (sR (sL (sR (body)))))))
def e0 (s_0a : Option Addr) (s_0l : Nat) (s_0c : Nat) (f_1 : Value) (R : Ending → Mem → Prop) (m : Mem) : Prop :=
  l1  s_0a s_0l s_0c f_1 ((s_0l : Nat) : Int) 0 R m
noncomputable def e0A (R : Ending → Mem → Prop) : ACode := (.seq (.code (sL (body))) (.seq (.seq (.code (sL (sL (sR (body))))) (.block 0 (.cut (l1E fun s_0a s_0l s_0c f_1 x7 x8 m => l1  s_0a s_0l s_0c f_1 x7 x8 R m) (.loop (lP (bB (sR (sL (sR (body)))))))))) (.code (sR (sR (body))))))
theorem l1_eq  (K1 : Option Addr → Nat → Nat → Value → Int → Int → Mem → Prop) (R : Ending → Mem → Prop) (s_0a : Option Addr) (s_0l : Nat) (s_0c : Nat) (f_1 : Value) (x7 : Int) (x8 : Int) (ρ : Env) (m : Mem) : l1B  K1 s_0a s_0l s_0c f_1 x7 x8 R m = acpt P od (panicR R) (l1A  K1 R) (thenQ (l1E K1) (blockQ 0 (thenQ (acpt P od (panicR R) (.code (sR (sR (body)))) (bodyQ P fn R)) (bodyQ P fn R)))) (upd (upd (upd (upd ρ 8 (.int .i64 x8)) 7 (.int .i64 x7)) 1 (f_1)) 0 (.slice s_0a s_0l s_0c)) m := by kernel_rfl
theorem l1_er  (K1 : Option Addr → Nat → Nat → Value → Int → Int → Mem → Prop) (R : Ending → Mem → Prop) : (l1A  K1 R).erase = lP (bB (sR (sL (sR (body))))) := by kernel_rfl
theorem l1_ok  (R : Ending → Mem → Prop) (ρ : Env) (m : Mem) (h : (l1E fun s_0a s_0l s_0c f_1 x7 x8 m => l1  s_0a s_0l s_0c f_1 x7 x8 R m) ρ m) : cpt P od (panicR R) (.loop (lP (bB (sR (sL (sR (body))))))) (blockQ 0 (thenQ (acpt P od (panicR R) (.code (sR (sR (body)))) (bodyQ P fn R)) (bodyQ P fn R))) ρ m := by
  unfold l1E at h
  obtain ⟨s_0a, s_0l, s_0c, e0, h⟩ := h.ex
  generalize e1 : ρ 1 = f_1 at h
  try dsimp only at h
  obtain ⟨x7, e7, h⟩ := h.ex
  obtain ⟨x8, e8, h⟩ := h.ex
  obtain ⟨I, N, h0, hs⟩ := h
  refine ⟨fun N => l1E (I N), N, (by show l1E (I N) ρ m; unfold l1E; rw [e0, e1, e7, e8]; exact h0), ?_⟩
  clear h0 e0 e1 e7 e8
  intro N ρ m h
  unfold l1E at h
  obtain ⟨s_0a, s_0l, s_0c, e0, h⟩ := h.ex
  generalize e1 : ρ 1 = f_1 at h
  try dsimp only at h
  obtain ⟨x7, e7, h⟩ := h.ex
  obtain ⟨x8, e8, h⟩ := h.ex
  refine cpt_mono (P := P) (lP (bB (sR (sL (sR (body)))))) (Q := thenQ (l1E fun s_0a s_0l s_0c f_1 x7 x8 m => ∃ N1, N1 < N ∧ I N1 s_0a s_0l s_0c f_1 x7 x8 m) (blockQ 0 (thenQ (acpt P od (panicR R) (.code (sR (sR (body)))) (bodyQ P fn R)) (bodyQ P fn R)))) (fun e ρ m h => ?_) ρ m ?_
  · cases e with
    | normal =>
      have h : l1E (fun s_0a s_0l s_0c f_1 x7 x8 m => ∃ N1, N1 < N ∧ I N1 s_0a s_0l s_0c f_1 x7 x8 m) ρ m := h
      unfold l1E at h
      obtain ⟨s_0a, s_0l, s_0c, e0, h⟩ := h.ex
      generalize e1 : ρ 1 = f_1 at h
      try dsimp only at h
      obtain ⟨x7, e7, h⟩ := h.ex
      obtain ⟨x8, e8, h⟩ := h.ex
      obtain ⟨N1, hlt, h⟩ := h
      exact ⟨N1, hlt, (by show l1E (I N1) ρ m; unfold l1E; rw [e0, e1, e7, e8]; exact h)⟩
    | _ => exact h
  have hh := hs N s_0a s_0l s_0c f_1 x7 x8 m h
  generalize (fun s_0a s_0l s_0c f_1 x7 x8 m => ∃ N1, N1 < N ∧ I N1 s_0a s_0l s_0c f_1 x7 x8 m : Option Addr → Nat → Nat → Value → Int → Int → Mem → Prop) = K1 at hh ⊢
  rw [← upd_self e0, ← upd_self e1, ← upd_self e7, ← upd_self e8]
  rw [← l1_er  K1 R]
  refine acpt_sound (P := P) (l1A  K1 R) _ _ _ True.intro ?_
  exact Eq.mp (l1_eq  K1 R s_0a s_0l s_0c f_1 x7 x8 ρ m) hh
theorem e0_eq (s_0a : Option Addr) (s_0l : Nat) (s_0c : Nat) (f_1 : Value) (R : Ending → Mem → Prop) (m : Mem) : e0 s_0a s_0l s_0c f_1 R m = acpt P od (panicR R) (e0A R) (bodyQ P fn R) (argE (#[.slice s_0a s_0l s_0c, f_1] : Array Value).toList) m := by kernel_rfl
theorem ok (s_0a : Option Addr) (s_0l : Nat) (s_0c : Nat) (f_1 : Value) (R : Ending → Mem → Prop) (m : Mem) (h : e0 s_0a s_0l s_0c f_1 R m) : HC P id #[.slice s_0a s_0l s_0c, f_1] m R := by
  refine HC_of (fn := fn) (c := body) (od := od) (tb := tb) Go.Proofs.Try.func45 (by kernel_rfl) (by kernel_rfl) follows (by kernel_rfl) (of_decide_eq_true (by kernel_rfl)) ?_
  have he : (e0A R).erase = body := by kernel_rfl
  rw [← he]
  refine acpt_sound (P := P) (e0A R) _ _ _ ⟨⟨True.intro, ⟨(fun ρ m h => l1_ok  R ρ m h), True.intro⟩⟩, True.intro⟩ ?_
  exact Eq.mp (e0_eq s_0a s_0l s_0c f_1 R m) h
end slices_IndexFunc_s_lru_entry_string_lru_entry_string

/-! ### (*eyot/lru.Cache[string]).at$1 -/
namespace lru_Cache_string_at_1
noncomputable def fn : Func := Go.Proofs.Try.f46
noncomputable def body : Code := fn.body.getD .skip
def od : Nat → Ord := fun _ => .done
def tb : Nat → Tab := fun _ => (0, [], [])
def e0 (e_0_0 : Int) (e_0_1 : ByteArray) (c0b : Nat) (c0o : Nat) (R : Ending → Mem → Prop) (m : Mem) : Prop :=
  NewC m #[.int .i64 e_0_0, .string e_0_1] T_lru_entry_string fun b_e_2 m1 =>
  LdV m1 b_e_2 0 fun v =>
  UnI v .i64 fun x5 =>
  LdV m1 c0b c0o fun v =>
  UnI v .i64 fun x6 =>
  R (.returned (.bool (x5 == x6))) m1
noncomputable def e0A (R : Ending → Mem → Prop) : ACode := (.code (body))
theorem e0_eq (e_0_0 : Int) (e_0_1 : ByteArray) (c0b : Nat) (c0o : Nat) (R : Ending → Mem → Prop) (m : Mem) : e0 e_0_0 e_0_1 c0b c0o R m = acpt P od (panicR R) (e0A R) (bodyQ P fn R) (argE (#[.agg #[.int .i64 e_0_0, .string e_0_1], .pointer (some ⟨c0b, c0o, none⟩)] : Array Value).toList) m := by kernel_rfl
theorem ok (e_0_0 : Int) (e_0_1 : ByteArray) (c0b : Nat) (c0o : Nat) (R : Ending → Mem → Prop) (m : Mem) (h : e0 e_0_0 e_0_1 c0b c0o R m) : HC P id #[.agg #[.int .i64 e_0_0, .string e_0_1], .pointer (some ⟨c0b, c0o, none⟩)] m R := by
  refine HC_of (fn := fn) (c := body) (od := od) (tb := tb) Go.Proofs.Try.func46 (by kernel_rfl) (by kernel_rfl) follows (by kernel_rfl) (of_decide_eq_true (by kernel_rfl)) ?_
  have he : (e0A R).erase = body := by kernel_rfl
  rw [← he]
  refine acpt_sound (P := P) (e0A R) _ _ _ True.intro ?_
  exact Eq.mp (e0_eq e_0_0 e_0_1 c0b c0o R m) h
end lru_Cache_string_at_1

/-! ### slices.Insert[[]eyot/lru.entry[string],eyot/lru.entry[string]] -/
namespace slices_Insert_s_lru_entry_string_lru_entry_string
noncomputable def fn : Func := Go.Proofs.Try.f47
noncomputable def body : Code := fn.body.getD .skip
def od : Nat → Ord := fun | 11 => ordL [(0, 3), (1, 3), (2, 3), (3, 3), (4, 3), (5, 3), (6, 3), (7, 3), (8, 2)] .done | 15 => ordL [(0, 3), (1, 3), (2, 3), (3, 3), (4, 3), (5, 3), (6, 3), (7, 3), (8, 2)] .done | _ => .done
def tb : Nat → Tab := fun | 11 => (256, [0, 0, 0, 6, 15, 0, 0, 96, 255], [(0, 512, 47), (0, 2, 48), (0, 128, 49), (6, 422212465065984, 50), (9, 633318697598976, 51), (0, 1, 52), (0, 2, 53), (96, 6755399441055744, 54), (144, 10133099161583616, 55)]) | 15 => (256, [0, 0, 0, 6, 15, 0, 0, 96, 255], [(0, 1, 70), (0, 2, 71), (0, 128, 72), (6, 3541774862152233910272, 73), (9, 5312662293228350865408, 74), (0, 1, 75), (0, 2, 76), (96, 56668397794435742564352, 77), (144, 85002596691653613846528, 78)]) | _ => (0, [], [])
def e0 (a0a : Option Addr) (a0l : Nat) (a0c : Nat) (a1 : Int) (a2a : Option Addr) (a2l : Nat) (a2c : Nat) (R : Ending → Mem → Prop) (m : Mem) : Prop :=
  SlS a0a a0c a1 a0l 2 fun x12a x12l x12c =>
  Br (((a2l : Nat) : Int) == 0) (
    R (.returned (.slice a0a a0l a0c)) m) (
    Br (a1 == ((a0l : Nat) : Int)) (
      BiN P .append #[T_sl_lru_entry_string, T_sl_lru_entry_string] T_sl_lru_entry_string #[false, false] #[.slice a0a a0l a0c, .slice a2a a2l a2c] m (fun w m1 =>
        UnS w fun x25a x25l x25c =>
        R (.returned (.slice x25a x25l x25c)) m1) (panicR R)) (
      Br (decide ((IntKind.i64.wrap (((a0l : Nat) : Int) + ((a2l : Nat) : Int))) > ((a0c : Nat) : Int))) (
        SlS a0a a0c 0 a1 2 fun x34a x34l x34c =>
        BiN P .append #[T_sl_lru_entry_string, T_int] T_sl_lru_entry_string #[false, false] #[.slice x34a x34l x34c, .int .i64 (IntKind.i64.wrap ((IntKind.i64.wrap (((a0l : Nat) : Int) + ((a2l : Nat) : Int))) - a1))] m (fun w m1 =>
          UnS w fun x40a x40l x40c =>
          SlS x40a x40c a1 x40l 2 fun x43a x43l x43c =>
          BiN P .copy #[T_sl_lru_entry_string, T_sl_lru_entry_string] T_int #[false, false] #[.slice x43a x43l x43c, .slice a2a a2l a2c] m1 (fun w m2 =>
            UnI w .i64 fun x45 =>
            Sub m2 fun r3 =>
            SlS x40a x40c (IntKind.i64.wrap (a1 + ((a2l : Nat) : Int))) x40l 2 fun x50a x50l x50c =>
            SlS a0a a0c a1 a0l 2 fun x53a x53l x53c =>
            BiN P .copy #[T_sl_lru_entry_string, T_sl_lru_entry_string] T_int #[false, false] #[.slice x50a x50l x50c, .slice x53a x53l x53c] m2 (fun w m4 =>
              UnI w .i64 fun x54 =>
              R (.returned (.slice x40a x40l x40c)) m4) (panicR R)) (panicR R)) (panicR R)) (
        SlS a0a a0c 0 (IntKind.i64.wrap (((a0l : Nat) : Int) + ((a2l : Nat) : Int))) 2 fun x60a x60l x60c =>
        SlS x60a x60c (IntKind.i64.wrap (a1 + ((a2l : Nat) : Int))) x60l 2 fun x66a x66l x66c =>
        HC P slices_overlaps_lru_entry_string.id #[.slice a2a a2l a2c, .slice x66a x66l x66c] m (Cont (fun v m1 =>
            UnB v fun x67 =>
            Br (!x67) (
              Sub m1 fun r2 =>
              SlS x60a x60c (IntKind.i64.wrap (a1 + ((a2l : Nat) : Int))) x60l 2 fun x73a x73l x73c =>
              SlS x60a x60c a1 x60l 2 fun x76a x76l x76c =>
              BiN P .copy #[T_sl_lru_entry_string, T_sl_lru_entry_string] T_int #[false, false] #[.slice x73a x73l x73c, .slice x76a x76l x76c] m1 (fun w m3 =>
                UnI w .i64 fun x77 =>
                SlS x60a x60c a1 x60l 2 fun x80a x80l x80c =>
                BiN P .copy #[T_sl_lru_entry_string, T_sl_lru_entry_string] T_int #[false, false] #[.slice x80a x80l x80c, .slice a2a a2l a2c] m3 (fun w m4 =>
                  UnI w .i64 fun x82 =>
                  R (.returned (.slice x60a x60l x60c)) m4) (panicR R)) (panicR R)) (
              SlS x60a x60c ((a0l : Nat) : Int) x60l 2 fun x86a x86l x86c =>
              BiN P .copy #[T_sl_lru_entry_string, T_sl_lru_entry_string] T_int #[false, false] #[.slice x86a x86l x86c, .slice a2a a2l a2c] m1 (fun w m2 =>
                UnI w .i64 fun x88 =>
                SlS x60a x60c a1 x60l 2 fun x91a x91l x91c =>
                HC P slices_rotateRight_lru_entry_string.id #[.slice x91a x91l x91c, .int .i64 ((a2l : Nat) : Int)] m2 (Cont (fun v m3 =>
                    UnTup v fun us0 =>
                    UnNil us0 (
                      R (.returned (.slice x60a x60l x60c)) m3)) (panicR R))) (panicR R))) (panicR R)))))
noncomputable def e0A (R : Ending → Mem → Prop) : ACode := (.code (body))
theorem e0_eq (a0a : Option Addr) (a0l : Nat) (a0c : Nat) (a1 : Int) (a2a : Option Addr) (a2l : Nat) (a2c : Nat) (R : Ending → Mem → Prop) (m : Mem) : e0 a0a a0l a0c a1 a2a a2l a2c R m = acpt P od (panicR R) (e0A R) (bodyQ P fn R) (argE (#[.slice a0a a0l a0c, .int .i64 a1, .slice a2a a2l a2c] : Array Value).toList) m := by kernel_rfl
theorem ok (a0a : Option Addr) (a0l : Nat) (a0c : Nat) (a1 : Int) (a2a : Option Addr) (a2l : Nat) (a2c : Nat) (R : Ending → Mem → Prop) (m : Mem) (h : e0 a0a a0l a0c a1 a2a a2l a2c R m) : HC P id #[.slice a0a a0l a0c, .int .i64 a1, .slice a2a a2l a2c] m R := by
  refine HC_of (fn := fn) (c := body) (od := od) (tb := tb) Go.Proofs.Try.func47 (by kernel_rfl) (by kernel_rfl) follows (by kernel_rfl) (of_decide_eq_true (by kernel_rfl)) ?_
  have he : (e0A R).erase = body := by kernel_rfl
  rw [← he]
  refine acpt_sound (P := P) (e0A R) _ _ _ True.intro ?_
  exact Eq.mp (e0_eq a0a a0l a0c a1 a2a a2l a2c R m) h
end slices_Insert_s_lru_entry_string_lru_entry_string

/-! ### slices.rotateRight[eyot/lru.entry[int]] -/
namespace slices_rotateRight_lru_entry_int
noncomputable def fn : Func := Go.Proofs.Try.f49
noncomputable def body : Code := fn.body.getD .skip
def od : Nat → Ord := fun _ => .done
def tb : Nat → Tab := fun _ => (0, [], [])
def e0 (s_0a : Option Addr) (s_0l : Nat) (s_0c : Nat) (r_1 : Int) (R : Ending → Mem → Prop) (m : Mem) : Prop :=
  HC P slices_rotateLeft_lru_entry_int.id #[.slice s_0a s_0l s_0c, .int .i64 (IntKind.i64.wrap (((s_0l : Nat) : Int) - r_1))] m (Cont (fun v m1 =>
      UnTup v fun us0 =>
      UnNil us0 (
        R (.returned (.tuple #[])) m1)) (panicR R))
noncomputable def e0A (R : Ending → Mem → Prop) : ACode := (.code (body))
theorem e0_eq (s_0a : Option Addr) (s_0l : Nat) (s_0c : Nat) (r_1 : Int) (R : Ending → Mem → Prop) (m : Mem) : e0 s_0a s_0l s_0c r_1 R m = acpt P od (panicR R) (e0A R) (bodyQ P fn R) (argE (#[.slice s_0a s_0l s_0c, .int .i64 r_1] : Array Value).toList) m := by kernel_rfl
theorem ok (s_0a : Option Addr) (s_0l : Nat) (s_0c : Nat) (r_1 : Int) (R : Ending → Mem → Prop) (m : Mem) (h : e0 s_0a s_0l s_0c r_1 R m) : HC P id #[.slice s_0a s_0l s_0c, .int .i64 r_1] m R := by
  refine HC_of (fn := fn) (c := body) (od := od) (tb := tb) Go.Proofs.Try.func49 (by kernel_rfl) (by kernel_rfl) follows (by kernel_rfl) (of_decide_eq_true (by kernel_rfl)) ?_
  have he : (e0A R).erase = body := by kernel_rfl
  rw [← he]
  refine acpt_sound (P := P) (e0A R) _ _ _ True.intro ?_
  exact Eq.mp (e0_eq s_0a s_0l s_0c r_1 R m) h
end slices_rotateRight_lru_entry_int

/-! ### slices.rotateRight[eyot/lru.entry[[2]int]] -/
namespace slices_rotateRight_lru_entry_2_int
noncomputable def fn : Func := Go.Proofs.Try.f51
noncomputable def body : Code := fn.body.getD .skip
def od : Nat → Ord := fun _ => .done
def tb : Nat → Tab := fun _ => (0, [], [])
def e0 (s_0a : Option Addr) (s_0l : Nat) (s_0c : Nat) (r_1 : Int) (R : Ending → Mem → Prop) (m : Mem) : Prop :=
  HC P slices_rotateLeft_lru_entry_2_int.id #[.slice s_0a s_0l s_0c, .int .i64 (IntKind.i64.wrap (((s_0l : Nat) : Int) - r_1))] m (Cont (fun v m1 =>
      UnTup v fun us0 =>
      UnNil us0 (
        R (.returned (.tuple #[])) m1)) (panicR R))
noncomputable def e0A (R : Ending → Mem → Prop) : ACode := (.code (body))
theorem e0_eq (s_0a : Option Addr) (s_0l : Nat) (s_0c : Nat) (r_1 : Int) (R : Ending → Mem → Prop) (m : Mem) : e0 s_0a s_0l s_0c r_1 R m = acpt P od (panicR R) (e0A R) (bodyQ P fn R) (argE (#[.slice s_0a s_0l s_0c, .int .i64 r_1] : Array Value).toList) m := by kernel_rfl
theorem ok (s_0a : Option Addr) (s_0l : Nat) (s_0c : Nat) (r_1 : Int) (R : Ending → Mem → Prop) (m : Mem) (h : e0 s_0a s_0l s_0c r_1 R m) : HC P id #[.slice s_0a s_0l s_0c, .int .i64 r_1] m R := by
  refine HC_of (fn := fn) (c := body) (od := od) (tb := tb) Go.Proofs.Try.func51 (by kernel_rfl) (by kernel_rfl) follows (by kernel_rfl) (of_decide_eq_true (by kernel_rfl)) ?_
  have he : (e0A R).erase = body := by kernel_rfl
  rw [← he]
  refine acpt_sound (P := P) (e0A R) _ _ _ True.intro ?_
  exact Eq.mp (e0_eq s_0a s_0l s_0c r_1 R m) h
end slices_rotateRight_lru_entry_2_int

/-! ### slices.rotateRight[eyot/lru.entry[string]] -/
namespace slices_rotateRight_lru_entry_string
noncomputable def fn : Func := Go.Proofs.Try.f53
noncomputable def body : Code := fn.body.getD .skip
def od : Nat → Ord := fun _ => .done
def tb : Nat → Tab := fun _ => (0, [], [])
def e0 (s_0a : Option Addr) (s_0l : Nat) (s_0c : Nat) (r_1 : Int) (R : Ending → Mem → Prop) (m : Mem) : Prop :=
  HC P slices_rotateLeft_lru_entry_string.id #[.slice s_0a s_0l s_0c, .int .i64 (IntKind.i64.wrap (((s_0l : Nat) : Int) - r_1))] m (Cont (fun v m1 =>
      UnTup v fun us0 =>
      UnNil us0 (
        R (.returned (.tuple #[])) m1)) (panicR R))
noncomputable def e0A (R : Ending → Mem → Prop) : ACode := (.code (body))
theorem e0_eq (s_0a : Option Addr) (s_0l : Nat) (s_0c : Nat) (r_1 : Int) (R : Ending → Mem → Prop) (m : Mem) : e0 s_0a s_0l s_0c r_1 R m = acpt P od (panicR R) (e0A R) (bodyQ P fn R) (argE (#[.slice s_0a s_0l s_0c, .int .i64 r_1] : Array Value).toList) m := by kernel_rfl
theorem ok (s_0a : Option Addr) (s_0l : Nat) (s_0c : Nat) (r_1 : Int) (R : Ending → Mem → Prop) (m : Mem) (h : e0 s_0a s_0l s_0c r_1 R m) : HC P id #[.slice s_0a s_0l s_0c, .int .i64 r_1] m R := by
  refine HC_of (fn := fn) (c := body) (od := od) (tb := tb) Go.Proofs.Try.func53 (by kernel_rfl) (by kernel_rfl) follows (by kernel_rfl) (of_decide_eq_true (by kernel_rfl)) ?_
  have he : (e0A R).erase = body := by kernel_rfl
  rw [← he]
  refine acpt_sound (P := P) (e0A R) _ _ _ True.intro ?_
  exact Eq.mp (e0_eq s_0a s_0l s_0c r_1 R m) h
end slices_rotateRight_lru_entry_string

/-! ### slices.rotateLeft[eyot/lru.entry[int]] -/
namespace slices_rotateLeft_lru_entry_int
noncomputable def fn : Func := Go.Proofs.Try.f54
noncomputable def body : Code := fn.body.getD .skip
def od : Nat → Ord := fun _ => .done
def tb : Nat → Tab := fun _ => (0, [], [])
def e0 (s_0a : Option Addr) (s_0l : Nat) (s_0c : Nat) (r_1 : Int) (R : Ending → Mem → Prop) (m : Mem) : Prop :=
  SlS s_0a s_0c 0 r_1 2 fun x6a x6l x6c =>
  HC P slices_Reverse_s_lru_entry_int_lru_entry_int.id #[.slice x6a x6l x6c] m (Cont (fun v m1 =>
      UnTup v fun us0 =>
      UnNil us0 (
        SlS s_0a s_0c r_1 s_0l 2 fun x10a x10l x10c =>
        HC P slices_Reverse_s_lru_entry_int_lru_entry_int.id #[.slice x10a x10l x10c] m1 (Cont (fun v m2 =>
            UnTup v fun us0 =>
            UnNil us0 (
              HC P slices_Reverse_s_lru_entry_int_lru_entry_int.id #[.slice s_0a s_0l s_0c] m2 (Cont (fun v m3 =>
                  UnTup v fun us0 =>
                  UnNil us0 (
                    R (.returned (.tuple #[])) m3)) (panicR R)))) (panicR R)))) (panicR R))
noncomputable def e0A (R : Ending → Mem → Prop) : ACode := (.code (body))
theorem e0_eq (s_0a : Option Addr) (s_0l : Nat) (s_0c : Nat) (r_1 : Int) (R : Ending → Mem → Prop) (m : Mem) : e0 s_0a s_0l s_0c r_1 R m = acpt P od (panicR R) (e0A R) (bodyQ P fn R) (argE (#[.slice s_0a s_0l s_0c, .int .i64 r_1] : Array Value).toList) m := by kernel_rfl
theorem ok (s_0a : Option Addr) (s_0l : Nat) (s_0c : Nat) (r_1 : Int) (R : Ending → Mem → Prop) (m : Mem) (h : e0 s_0a s_0l s_0c r_1 R m) : HC P id #[.slice s_0a s_0l s_0c, .int .i64 r_1] m R := by
  refine HC_of (fn := fn) (c := body) (od := od) (tb := tb) Go.Proofs.Try.func54 (by kernel_rfl) (by kernel_rfl) follows (by kernel_rfl) (of_decide_eq_true (by kernel_rfl)) ?_
  have he : (e0A R).erase = body := by kernel_rfl
  rw [← he]
  refine acpt_sound (P := P) (e0A R) _ _ _ True.intro ?_
  exact Eq.mp (e0_eq s_0a s_0l s_0c r_1 R m) h
end slices_rotateLeft_lru_entry_int

/-! ### slices.rotateLeft[eyot/lru.entry[[2]int]] -/
namespace slices_rotateLeft_lru_entry_2_int
noncomputable def fn : Func := Go.Proofs.Try.f55
noncomputable def body : Code := fn.body.getD .skip
def od : Nat → Ord := fun _ => .done
def tb : Nat → Tab := fun _ => (0, [], [])
def e0 (s_0a : Option Addr) (s_0l : Nat) (s_0c : Nat) (r_1 : Int) (R : Ending → Mem → Prop) (m : Mem) : Prop :=
  SlS s_0a s_0c 0 r_1 3 fun x6a x6l x6c =>
  HC P slices_Reverse_s_lru_entry_2_int_lru_entry_2_int.id #[.slice x6a x6l x6c] m (Cont (fun v m1 =>
      UnTup v fun us0 =>
      UnNil us0 (
        SlS s_0a s_0c r_1 s_0l 3 fun x10a x10l x10c =>
        HC P slices_Reverse_s_lru_entry_2_int_lru_entry_2_int.id #[.slice x10a x10l x10c] m1 (Cont (fun v m2 =>
            UnTup v fun us0 =>
            UnNil us0 (
              HC P slices_Reverse_s_lru_entry_2_int_lru_entry_2_int.id #[.slice s_0a s_0l s_0c] m2 (Cont (fun v m3 =>
                  UnTup v fun us0 =>
                  UnNil us0 (
                    R (.returned (.tuple #[])) m3)) (panicR R)))) (panicR R)))) (panicR R))
noncomputable def e0A (R : Ending → Mem → Prop) : ACode := (.code (body))
theorem e0_eq (s_0a : Option Addr) (s_0l : Nat) (s_0c : Nat) (r_1 : Int) (R : Ending → Mem → Prop) (m : Mem) : e0 s_0a s_0l s_0c r_1 R m = acpt P od (panicR R) (e0A R) (bodyQ P fn R) (argE (#[.slice s_0a s_0l s_0c, .int .i64 r_1] : Array Value).toList) m := by kernel_rfl
theorem ok (s_0a : Option Addr) (s_0l : Nat) (s_0c : Nat) (r_1 : Int) (R : Ending → Mem → Prop) (m : Mem) (h : e0 s_0a s_0l s_0c r_1 R m) : HC P id #[.slice s_0a s_0l s_0c, .int .i64 r_1] m R := by
  refine HC_of (fn := fn) (c := body) (od := od) (tb := tb) Go.Proofs.Try.func55 (by kernel_rfl) (by kernel_rfl) follows (by kernel_rfl) (of_decide_eq_true (by kernel_rfl)) ?_
  have he : (e0A R).erase = body := by kernel_rfl
  rw [← he]
  refine acpt_sound (P := P) (e0A R) _ _ _ True.intro ?_
  exact Eq.mp (e0_eq s_0a s_0l s_0c r_1 R m) h
end slices_rotateLeft_lru_entry_2_int

/-! ### slices.rotateLeft[eyot/lru.entry[string]] -/
namespace slices_rotateLeft_lru_entry_string
noncomputable def fn : Func := Go.Proofs.Try.f56
noncomputable def body : Code := fn.body.getD .skip
def od : Nat → Ord := fun _ => .done
def tb : Nat → Tab := fun _ => (0, [], [])
def e0 (s_0a : Option Addr) (s_0l : Nat) (s_0c : Nat) (r_1 : Int) (R : Ending → Mem → Prop) (m : Mem) : Prop :=
  SlS s_0a s_0c 0 r_1 2 fun x6a x6l x6c =>
  HC P slices_Reverse_s_lru_entry_string_lru_entry_string.id #[.slice x6a x6l x6c] m (Cont (fun v m1 =>
      UnTup v fun us0 =>
      UnNil us0 (
        SlS s_0a s_0c r_1 s_0l 2 fun x10a x10l x10c =>
        HC P slices_Reverse_s_lru_entry_string_lru_entry_string.id #[.slice x10a x10l x10c] m1 (Cont (fun v m2 =>
            UnTup v fun us0 =>
            UnNil us0 (
              HC P slices_Reverse_s_lru_entry_string_lru_entry_string.id #[.slice s_0a s_0l s_0c] m2 (Cont (fun v m3 =>
                  UnTup v fun us0 =>
                  UnNil us0 (
                    R (.returned (.tuple #[])) m3)) (panicR R)))) (panicR R)))) (panicR R))
noncomputable def e0A (R : Ending → Mem → Prop) : ACode := (.code (body))
theorem e0_eq (s_0a : Option Addr) (s_0l : Nat) (s_0c : Nat) (r_1 : Int) (R : Ending → Mem → Prop) (m : Mem) : e0 s_0a s_0l s_0c r_1 R m = acpt P od (panicR R) (e0A R) (bodyQ P fn R) (argE (#[.slice s_0a s_0l s_0c, .int .i64 r_1] : Array Value).toList) m := by kernel_rfl
theorem ok (s_0a : Option Addr) (s_0l : Nat) (s_0c : Nat) (r_1 : Int) (R : Ending → Mem → Prop) (m : Mem) (h : e0 s_0a s_0l s_0c r_1 R m) : HC P id #[.slice s_0a s_0l s_0c, .int .i64 r_1] m R := by
  refine HC_of (fn := fn) (c := body) (od := od) (tb := tb) Go.Proofs.Try.func56 (by kernel_rfl) (by kernel_rfl) follows (by kernel_rfl) (of_decide_eq_true (by kernel_rfl)) ?_
  have he : (e0A R).erase = body := by kernel_rfl
  rw [← he]
  refine acpt_sound (P := P) (e0A R) _ _ _ True.intro ?_
  exact Eq.mp (e0_eq s_0a s_0l s_0c r_1 R m) h
end slices_rotateLeft_lru_entry_string

/-! ### slices.Reverse[[]eyot/lru.entry[int],eyot/lru.entry[int]] -/
namespace slices_Reverse_s_lru_entry_int_lru_entry_int
noncomputable def fn : Func := Go.Proofs.Try.f57
noncomputable def body : Code := fn.body.getD .skip
def od : Nat → Ord := fun | 3 => ordL [(0, 3), (1, 3), (2, 3), (3, 3), (4, 3), (5, 3), (6, 3), (7, 1), (8, 3), (9, 3), (10, 3), (11, 0), (12, 3), (13, 2), (14, 3), (15, 2)] .done | _ => .done
def tb : Nat → Tab := fun | 3 => (40960, [0, 0, 0, 0, 0, 0, 48, 112, 0, 0, 768, 1792, 4083, 8179, 16383, 32767], [(0, 1, 15), (0, 4, 16), (0, 1, 17), (0, 8, 18), (0, 1, 19), (0, 8, 20), (48, 786432, 21), (64, 1048576, 22), (0, 1, 23), (0, 4, 24), (768, 12582912, 25), (1024, 16777216, 26), (2291, 49152, 27), (6387, 69206016, 0), (16383, 196608, 28), (32767, 167772160, 0)]) | _ => (0, [], [])
def l1E (K : Option Addr → Nat → Nat → Int → Int → Mem → Prop) : Env → Mem → Prop := fun ρ m => UnS (ρ 0) fun s_0a s_0l s_0c => UnI (ρ 2) .i64 fun i_2 => UnI (ρ 3) .i64 fun j_3 => K s_0a s_0l s_0c i_2 j_3 m
def l1B  (K1 : Option Addr → Nat → Nat → Int → Int → Mem → Prop) (s_0a : Option Addr) (s_0l : Nat) (s_0c : Nat) (i_2 : Int) (j_3 : Int) (R : Ending → Mem → Prop) (m : Mem) : Prop :=
  Br (decide (i_2 < j_3)) (
    Sub m fun r1 =>
    IxS s_0a s_0l j_3 2 fun x20b x20o =>
    LdV r1 x20b x20o fun v =>
    UnI v .i64 fun x21_0 =>
    LdV r1 x20b (x20o + 1) fun v =>
    UnI v .i64 fun x21_1 =>
    IxS s_0a s_0l i_2 2 fun x24b x24o =>
    LdV m x24b x24o fun v =>
    UnI v .i64 fun x25_0 =>
    LdV m x24b (x24o + 1) fun v =>
    UnI v .i64 fun x25_1 =>
    IxS s_0a s_0l i_2 2 fun x26b x26o =>
    St1 m x26b x26o (.int .i64 x21_0) fun m2 =>
    St1 m2 x26b (x26o + 1) (.int .i64 x21_1) fun m3 =>
    IxS s_0a s_0l j_3 2 fun x27b x27o =>
    St1 m3 x27b x27o (.int .i64 x25_0) fun m4 =>
    St1 m4 x27b (x27o + 1) (.int .i64 x25_1) fun m5 =>
    K1 s_0a s_0l s_0c (IntKind.i64.wrap (i_2 + 1)) (IntKind.i64.wrap (j_3 - 1)) m5) (
    R (.returned (.tuple #[])) m)
def l1  (s_0a : Option Addr) (s_0l : Nat) (s_0c : Nat) (i_2 : Int) (j_3 : Int) (R : Ending → Mem → Prop) (m : Mem) : Prop :=
  ∃ (I : Nat → Option Addr → Nat → Nat → Int → Int → Mem → Prop) (N : Nat), I N s_0a s_0l s_0c i_2 j_3 m ∧ ∀ N s_0a s_0l s_0c i_2 j_3 m, I N s_0a s_0l s_0c i_2 j_3 m → l1B  (fun s_0a s_0l s_0c i_2 j_3 m => ∃ N1, N1 < N ∧ I N1 s_0a s_0l s_0c i_2 j_3 m) s_0a s_0l s_0c i_2 j_3 R m
noncomputable def l1A  (K1 : Option Addr → Nat → Nat → Int → Int → Mem → Prop) (R : Ending → Mem → Prop) : ACode := (.code (lP (bB (sR (body)))))
def e0 (s_0a : Option Addr) (s_0l : Nat) (s_0c : Nat) (R : Ending → Mem → Prop) (m : Mem) : Prop :=
  l1  s_0a s_0l s_0c 0 (IntKind.i64.wrap (((s_0l : Nat) : Int) - 1)) R m
noncomputable def e0A (R : Ending → Mem → Prop) : ACode := (.seq (.code (sL (body))) (.block 0 (.cut (l1E fun s_0a s_0l s_0c i_2 j_3 m => l1  s_0a s_0l s_0c i_2 j_3 R m) (.loop (lP (bB (sR (body))))))))
theorem l1_eq  (K1 : Option Addr → Nat → Nat → Int → Int → Mem → Prop) (R : Ending → Mem → Prop) (s_0a : Option Addr) (s_0l : Nat) (s_0c : Nat) (i_2 : Int) (j_3 : Int) (ρ : Env) (m : Mem) : l1B  K1 s_0a s_0l s_0c i_2 j_3 R m = acpt P od (panicR R) (l1A  K1 R) (thenQ (l1E K1) (blockQ 0 (bodyQ P fn R))) (upd (upd (upd ρ 3 (.int .i64 j_3)) 2 (.int .i64 i_2)) 0 (.slice s_0a s_0l s_0c)) m := by kernel_rfl
theorem l1_er  (K1 : Option Addr → Nat → Nat → Int → Int → Mem → Prop) (R : Ending → Mem → Prop) : (l1A  K1 R).erase = lP (bB (sR (body))) := by kernel_rfl
theorem l1_ok  (R : Ending → Mem → Prop) (ρ : Env) (m : Mem) (h : (l1E fun s_0a s_0l s_0c i_2 j_3 m => l1  s_0a s_0l s_0c i_2 j_3 R m) ρ m) : cpt P od (panicR R) (.loop (lP (bB (sR (body))))) (blockQ 0 (bodyQ P fn R)) ρ m := by
  unfold l1E at h
  obtain ⟨s_0a, s_0l, s_0c, e0, h⟩ := h.ex
  obtain ⟨i_2, e2, h⟩ := h.ex
  obtain ⟨j_3, e3, h⟩ := h.ex
  obtain ⟨I, N, h0, hs⟩ := h
  refine ⟨fun N => l1E (I N), N, (by show l1E (I N) ρ m; unfold l1E; rw [e0, e2, e3]; exact h0), ?_⟩
  clear h0 e0 e2 e3
  intro N ρ m h
  unfold l1E at h
  obtain ⟨s_0a, s_0l, s_0c, e0, h⟩ := h.ex
  obtain ⟨i_2, e2, h⟩ := h.ex
  obtain ⟨j_3, e3, h⟩ := h.ex
  refine cpt_mono (P := P) (lP (bB (sR (body)))) (Q := thenQ (l1E fun s_0a s_0l s_0c i_2 j_3 m => ∃ N1, N1 < N ∧ I N1 s_0a s_0l s_0c i_2 j_3 m) (blockQ 0 (bodyQ P fn R))) (fun e ρ m h => ?_) ρ m ?_
  · cases e with
    | normal =>
      have h : l1E (fun s_0a s_0l s_0c i_2 j_3 m => ∃ N1, N1 < N ∧ I N1 s_0a s_0l s_0c i_2 j_3 m) ρ m := h
      unfold l1E at h
      obtain ⟨s_0a, s_0l, s_0c, e0, h⟩ := h.ex
      obtain ⟨i_2, e2, h⟩ := h.ex
      obtain ⟨j_3, e3, h⟩ := h.ex
      obtain ⟨N1, hlt, h⟩ := h
      exact ⟨N1, hlt, (by show l1E (I N1) ρ m; unfold l1E; rw [e0, e2, e3]; exact h)⟩
    | _ => exact h
  have hh := hs N s_0a s_0l s_0c i_2 j_3 m h
  generalize (fun s_0a s_0l s_0c i_2 j_3 m => ∃ N1, N1 < N ∧ I N1 s_0a s_0l s_0c i_2 j_3 m : Option Addr → Nat → Nat → Int → Int → Mem → Prop) = K1 at hh ⊢
  rw [← upd_self e0, ← upd_self e2, ← upd_self e3]
  rw [← l1_er  K1 R]
  refine acpt_sound (P := P) (l1A  K1 R) _ _ _ True.intro ?_
  exact Eq.mp (l1_eq  K1 R s_0a s_0l s_0c i_2 j_3 ρ m) hh
theorem e0_eq (s_0a : Option Addr) (s_0l : Nat) (s_0c : Nat) (R : Ending → Mem → Prop) (m : Mem) : e0 s_0a s_0l s_0c R m = acpt P od (panicR R) (e0A R) (bodyQ P fn R) (argE (#[.slice s_0a s_0l s_0c] : Array Value).toList) m := by kernel_rfl
theorem ok (s_0a : Option Addr) (s_0l : Nat) (s_0c : Nat) (R : Ending → Mem → Prop) (m : Mem) (h : e0 s_0a s_0l s_0c R m) : HC P id #[.slice s_0a s_0l s_0c] m R := by
  refine HC_of (fn := fn) (c := body) (od := od) (tb := tb) Go.Proofs.Try.func57 (by kernel_rfl) (by kernel_rfl) follows (by kernel_rfl) (of_decide_eq_true (by kernel_rfl)) ?_
  have he : (e0A R).erase = body := by kernel_rfl
  rw [← he]
  refine acpt_sound (P := P) (e0A R) _ _ _ ⟨(fun ρ m h => l1_ok  R ρ m h), True.intro⟩ ?_
  exact Eq.mp (e0_eq s_0a s_0l s_0c R m) h
end slices_Reverse_s_lru_entry_int_lru_entry_int

/-! ### slices.Reverse[[]eyot/lru.entry[[2]int],eyot/lru.entry[[2]int]] -/
namespace slices_Reverse_s_lru_entry_2_int_lru_entry_2_int
noncomputable def fn : Func := Go.Proofs.Try.f58
noncomputable def body : Code := fn.body.getD .skip
def od : Nat → Ord := fun | 3 => ordL [(0, 3), (1, 3), (2, 3), (3, 3), (4, 3), (5, 3), (6, 3), (7, 1), (8, 3), (9, 3), (10, 3), (11, 0), (12, 3), (13, 2), (14, 3), (15, 2)] .done | _ => .done
def tb : Nat → Tab := fun | 3 => (40960, [0, 0, 0, 0, 0, 0, 48, 112, 0, 0, 768, 1792, 4083, 8179, 16383, 32767], [(0, 1, 15), (0, 4, 16), (0, 1, 17), (0, 8, 18), (0, 1, 19), (0, 8, 20), (48, 786432, 21), (64, 1048576, 22), (0, 1, 23), (0, 4, 24), (768, 12582912, 25), (1024, 16777216, 26), (2291, 49152, 27), (6387, 69206016, 0), (16383, 196608, 28), (32767, 167772160, 0)]) | _ => (0, [], [])
def l1E (K : Option Addr → Nat → Nat → Int → Int → Mem → Prop) : Env → Mem → Prop := fun ρ m => UnS (ρ 0) fun s_0a s_0l s_0c => UnI (ρ 2) .i64 fun i_2 => UnI (ρ 3) .i64 fun j_3 => K s_0a s_0l s_0c i_2 j_3 m
def l1B  (K1 : Option Addr → Nat → Nat → Int → Int → Mem → Prop) (s_0a : Option Addr) (s_0l : Nat) (s_0c : Nat) (i_2 : Int) (j_3 : Int) (R : Ending → Mem → Prop) (m : Mem) : Prop :=
  Br (decide (i_2 < j_3)) (
    Sub m fun r1 =>
    IxS s_0a s_0l j_3 3 fun x20b x20o =>
    LdV r1 x20b x20o fun v =>
    UnI v .i64 fun x21_0 =>
    LdV r1 x20b (x20o + 1) fun v =>
    UnI v .i64 fun x21_1 =>
    LdV r1 x20b (x20o + 2) fun v =>
    UnI v .i64 fun x21_2 =>
    IxS s_0a s_0l i_2 3 fun x24b x24o =>
    LdV m x24b x24o fun v =>
    UnI v .i64 fun x25_0 =>
    LdV m x24b (x24o + 1) fun v =>
    UnI v .i64 fun x25_1 =>
    LdV m x24b (x24o + 2) fun v =>
    UnI v .i64 fun x25_2 =>
    IxS s_0a s_0l i_2 3 fun x26b x26o =>
    St1 m x26b x26o (.int .i64 x21_0) fun m2 =>
    St1 m2 x26b (x26o + 1) (.int .i64 x21_1) fun m3 =>
    St1 m3 x26b (x26o + 2) (.int .i64 x21_2) fun m4 =>
    IxS s_0a s_0l j_3 3 fun x27b x27o =>
    St1 m4 x27b x27o (.int .i64 x25_0) fun m5 =>
    St1 m5 x27b (x27o + 1) (.int .i64 x25_1) fun m6 =>
    St1 m6 x27b (x27o + 2) (.int .i64 x25_2) fun m7 =>
    K1 s_0a s_0l s_0c (IntKind.i64.wrap (i_2 + 1)) (IntKind.i64.wrap (j_3 - 1)) m7) (
    R (.returned (.tuple #[])) m)
def l1  (s_0a : Option Addr) (s_0l : Nat) (s_0c : Nat) (i_2 : Int) (j_3 : Int) (R : Ending → Mem → Prop) (m : Mem) : Prop :=
  ∃ (I : Nat → Option Addr → Nat → Nat → Int → Int → Mem → Prop) (N : Nat), I N s_0a s_0l s_0c i_2 j_3 m ∧ ∀ N s_0a s_0l s_0c i_2 j_3 m, I N s_0a s_0l s_0c i_2 j_3 m → l1B  (fun s_0a s_0l s_0c i_2 j_3 m => ∃ N1, N1 < N ∧ I N1 s_0a s_0l s_0c i_2 j_3 m) s_0a s_0l s_0c i_2 j_3 R m
noncomputable def l1A  (K1 : Option Addr → Nat → Nat → Int → Int → Mem → Prop) (R : Ending → Mem → Prop) : ACode := (.code (lP (bB (sR (body)))))
def e0 (s_0a : Option Addr) (s_0l : Nat) (s_0c : Nat) (R : Ending → Mem → Prop) (m : Mem) : Prop :=
  l1  s_0a s_0l s_0c 0 (IntKind.i64.wrap (((s_0l : Nat) : Int) - 1)) R m
noncomputable def e0A (R : Ending → Mem → Prop) : ACode := (.seq (.code (sL (body))) (.block 0 (.cut (l1E fun s_0a s_0l s_0c i_2 j_3 m => l1  s_0a s_0l s_0c i_2 j_3 R m) (.loop (lP (bB (sR (body))))))))
theorem l1_eq  (K1 : Option Addr → Nat → Nat → Int → Int → Mem → Prop) (R : Ending → Mem → Prop) (s_0a : Option Addr) (s_0l : Nat) (s_0c : Nat) (i_2 : Int) (j_3 : Int) (ρ : Env) (m : Mem) : l1B  K1 s_0a s_0l s_0c i_2 j_3 R m = acpt P od (panicR R) (l1A  K1 R) (thenQ (l1E K1) (blockQ 0 (bodyQ P fn R))) (upd (upd (upd ρ 3 (.int .i64 j_3)) 2 (.int .i64 i_2)) 0 (.slice s_0a s_0l s_0c)) m := by kernel_rfl
theorem l1_er  (K1 : Option Addr → Nat → Nat → Int → Int → Mem → Prop) (R : Ending → Mem → Prop) : (l1A  K1 R).erase = lP (bB (sR (body))) := by kernel_rfl
theorem l1_ok  (R : Ending → Mem → Prop) (ρ : Env) (m : Mem) (h : (l1E fun s_0a s_0l s_0c i_2 j_3 m => l1  s_0a s_0l s_0c i_2 j_3 R m) ρ m) : cpt P od (panicR R) (.loop (lP (bB (sR (body))))) (blockQ 0 (bodyQ P fn R)) ρ m := by
  unfold l1E at h
  obtain ⟨s_0a, s_0l, s_0c, e0, h⟩ := h.ex
  obtain ⟨i_2, e2, h⟩ := h.ex
  obtain ⟨j_3, e3, h⟩ := h.ex
  obtain ⟨I, N, h0, hs⟩ := h
  refine ⟨fun N => l1E (I N), N, (by show l1E (I N) ρ m; unfold l1E; rw [e0, e2, e3]; exact h0), ?_⟩
  clear h0 e0 e2 e3
  intro N ρ m h
  unfold l1E at h
  obtain ⟨s_0a, s_0l, s_0c, e0, h⟩ := h.ex
  obtain ⟨i_2, e2, h⟩ := h.ex
  obtain ⟨j_3, e3, h⟩ := h.ex
  refine cpt_mono (P := P) (lP (bB (sR (body)))) (Q := thenQ (l1E fun s_0a s_0l s_0c i_2 j_3 m => ∃ N1, N1 < N ∧ I N1 s_0a s_0l s_0c i_2 j_3 m) (blockQ 0 (bodyQ P fn R))) (fun e ρ m h => ?_) ρ m ?_
  · cases e with
    | normal =>
      have h : l1E (fun s_0a s_0l s_0c i_2 j_3 m => ∃ N1, N1 < N ∧ I N1 s_0a s_0l s_0c i_2 j_3 m) ρ m := h
      unfold l1E at h
      obtain ⟨s_0a, s_0l, s_0c, e0, h⟩ := h.ex
      obtain ⟨i_2, e2, h⟩ := h.ex
      obtain ⟨j_3, e3, h⟩ := h.ex
      obtain ⟨N1, hlt, h⟩ := h
      exact ⟨N1, hlt, (by show l1E (I N1) ρ m; unfold l1E; rw [e0, e2, e3]; exact h)⟩
    | _ => exact h
  have hh := hs N s_0a s_0l s_0c i_2 j_3 m h
  generalize (fun s_0a s_0l s_0c i_2 j_3 m => ∃ N1, N1 < N ∧ I N1 s_0a s_0l s_0c i_2 j_3 m : Option Addr → Nat → Nat → Int → Int → Mem → Prop) = K1 at hh ⊢
  rw [← upd_self e0, ← upd_self e2, ← upd_self e3]
  rw [← l1_er  K1 R]
  refine acpt_sound (P := P) (l1A  K1 R) _ _ _ True.intro ?_
  exact Eq.mp (l1_eq  K1 R s_0a s_0l s_0c i_2 j_3 ρ m) hh
theorem e0_eq (s_0a : Option Addr) (s_0l : Nat) (s_0c : Nat) (R : Ending → Mem → Prop) (m : Mem) : e0 s_0a s_0l s_0c R m = acpt P od (panicR R) (e0A R) (bodyQ P fn R) (argE (#[.slice s_0a s_0l s_0c] : Array Value).toList) m := by kernel_rfl
theorem ok (s_0a : Option Addr) (s_0l : Nat) (s_0c : Nat) (R : Ending → Mem → Prop) (m : Mem) (h : e0 s_0a s_0l s_0c R m) : HC P id #[.slice s_0a s_0l s_0c] m R := by
  refine HC_of (fn := fn) (c := body) (od := od) (tb := tb) Go.Proofs.Try.func58 (by kernel_rfl) (by kernel_rfl) follows (by kernel_rfl) (of_decide_eq_true (by kernel_rfl)) ?_
  have he : (e0A R).erase = body := by kernel_rfl
  rw [← he]
  refine acpt_sound (P := P) (e0A R) _ _ _ ⟨(fun ρ m h => l1_ok  R ρ m h), True.intro⟩ ?_
  exact Eq.mp (e0_eq s_0a s_0l s_0c R m) h
end slices_Reverse_s_lru_entry_2_int_lru_entry_2_int

/-! ### slices.Reverse[[]eyot/lru.entry[string],eyot/lru.entry[string]] -/
namespace slices_Reverse_s_lru_entry_string_lru_entry_string
noncomputable def fn : Func := Go.Proofs.Try.f59
noncomputable def body : Code := fn.body.getD .skip
def od : Nat → Ord := fun | 3 => ordL [(0, 3), (1, 3), (2, 3), (3, 3), (4, 3), (5, 3), (6, 3), (7, 1), (8, 3), (9, 3), (10, 3), (11, 0), (12, 3), (13, 2), (14, 3), (15, 2)] .done | _ => .done
def tb : Nat → Tab := fun | 3 => (40960, [0, 0, 0, 0, 0, 0, 48, 112, 0, 0, 768, 1792, 4083, 8179, 16383, 32767], [(0, 1, 15), (0, 4, 16), (0, 1, 17), (0, 8, 18), (0, 1, 19), (0, 8, 20), (48, 786432, 21), (64, 1048576, 22), (0, 1, 23), (0, 4, 24), (768, 12582912, 25), (1024, 16777216, 26), (2291, 49152, 27), (6387, 69206016, 0), (16383, 196608, 28), (32767, 167772160, 0)]) | _ => (0, [], [])
def l1E (K : Option Addr → Nat → Nat → Int → Int → Mem → Prop) : Env → Mem → Prop := fun ρ m => UnS (ρ 0) fun s_0a s_0l s_0c => UnI (ρ 2) .i64 fun i_2 => UnI (ρ 3) .i64 fun j_3 => K s_0a s_0l s_0c i_2 j_3 m
def l1B  (K1 : Option Addr → Nat → Nat → Int → Int → Mem → Prop) (s_0a : Option Addr) (s_0l : Nat) (s_0c : Nat) (i_2 : Int) (j_3 : Int) (R : Ending → Mem → Prop) (m : Mem) : Prop :=
  Br (decide (i_2 < j_3)) (
    Sub m fun r1 =>
    IxS s_0a s_0l j_3 2 fun x20b x20o =>
    LdV r1 x20b x20o fun v =>
    UnI v .i64 fun x21_0 =>
    LdV r1 x20b (x20o + 1) fun v =>
    UnStr v fun x21_1 =>
    IxS s_0a s_0l i_2 2 fun x24b x24o =>
    LdV m x24b x24o fun v =>
    UnI v .i64 fun x25_0 =>
    LdV m x24b (x24o + 1) fun v =>
    UnStr v fun x25_1 =>
    IxS s_0a s_0l i_2 2 fun x26b x26o =>
    St1 m x26b x26o (.int .i64 x21_0) fun m2 =>
    St1 m2 x26b (x26o + 1) (.string x21_1) fun m3 =>
    IxS s_0a s_0l j_3 2 fun x27b x27o =>
    St1 m3 x27b x27o (.int .i64 x25_0) fun m4 =>
    St1 m4 x27b (x27o + 1) (.string x25_1) fun m5 =>
    K1 s_0a s_0l s_0c (IntKind.i64.wrap (i_2 + 1)) (IntKind.i64.wrap (j_3 - 1)) m5) (
    R (.returned (.tuple #[])) m)
def l1  (s_0a : Option Addr) (s_0l : Nat) (s_0c : Nat) (i_2 : Int) (j_3 : Int) (R : Ending → Mem → Prop) (m : Mem) : Prop :=
  ∃ (I : Nat → Option Addr → Nat → Nat → Int → Int → Mem → Prop) (N : Nat), I N s_0a s_0l s_0c i_2 j_3 m ∧ ∀ N s_0a s_0l s_0c i_2 j_3 m, I N s_0a s_0l s_0c i_2 j_3 m → l1B  (fun s_0a s_0l s_0c i_2 j_3 m => ∃ N1, N1 < N ∧ I N1 s_0a s_0l s_0c i_2 j_3 m) s_0a s_0l s_0c i_2 j_3 R m
noncomputable def l1A  (K1 : Option Addr → Nat → Nat → Int → Int → Mem → Prop) (R : Ending → Mem → Prop) : ACode := (.code (lP (bB (sR (body)))))
def e0 (s_0a : Option Addr) (s_0l : Nat) (s_0c : Nat) (R : Ending → Mem → Prop) (m : Mem) : Prop :=
  l1  s_0a s_0l s_0c 0 (IntKind.i64.wrap (((s_0l : Nat) : Int) - 1)) R m
noncomputable def e0A (R : Ending → Mem → Prop) : ACode := (.seq (.code (sL (body))) (.block 0 (.cut (l1E fun s_0a s_0l s_0c i_2 j_3 m => l1  s_0a s_0l s_0c i_2 j_3 R m) (.loop (lP (bB (sR (body))))))))
theorem l1_eq  (K1 : Option Addr → Nat → Nat → Int → Int → Mem → Prop) (R : Ending → Mem → Prop) (s_0a : Option Addr) (s_0l : Nat) (s_0c : Nat) (i_2 : Int) (j_3 : Int) (ρ : Env) (m : Mem) : l1B  K1 s_0a s_0l s_0c i_2 j_3 R m = acpt P od (panicR R) (l1A  K1 R) (thenQ (l1E K1) (blockQ 0 (bodyQ P fn R))) (upd (upd (upd ρ 3 (.int .i64 j_3)) 2 (.int .i64 i_2)) 0 (.slice s_0a s_0l s_0c)) m := by kernel_rfl
theorem l1_er  (K1 : Option Addr → Nat → Nat → Int → Int → Mem → Prop) (R : Ending → Mem → Prop) : (l1A  K1 R).erase = lP (bB (sR (body))) := by kernel_rfl
theorem l1_ok  (R : Ending → Mem → Prop) (ρ : Env) (m : Mem) (h : (l1E fun s_0a s_0l s_0c i_2 j_3 m => l1  s_0a s_0l s_0c i_2 j_3 R m) ρ m) : cpt P od (panicR R) (.loop (lP (bB (sR (body))))) (blockQ 0 (bodyQ P fn R)) ρ m := by
  unfold l1E at h
  obtain ⟨s_0a, s_0l, s_0c, e0, h⟩ := h.ex
  obtain ⟨i_2, e2, h⟩ := h.ex
  obtain ⟨j_3, e3, h⟩ := h.ex
  obtain ⟨I, N, h0, hs⟩ := h
  refine ⟨fun N => l1E (I N), N, (by show l1E (I N) ρ m; unfold l1E; rw [e0, e2, e3]; exact h0), ?_⟩
  clear h0 e0 e2 e3
  intro N ρ m h
  unfold l1E at h
  obtain ⟨s_0a, s_0l, s_0c, e0, h⟩ := h.ex
  obtain ⟨i_2, e2, h⟩ := h.ex
  obtain ⟨j_3, e3, h⟩ := h.ex
  refine cpt_mono (P := P) (lP (bB (sR (body)))) (Q := thenQ (l1E fun s_0a s_0l s_0c i_2 j_3 m => ∃ N1, N1 < N ∧ I N1 s_0a s_0l s_0c i_2 j_3 m) (blockQ 0 (bodyQ P fn R))) (fun e ρ m h => ?_) ρ m ?_
  · cases e with
    | normal =>
      have h : l1E (fun s_0a s_0l s_0c i_2 j_3 m => ∃ N1, N1 < N ∧ I N1 s_0a s_0l s_0c i_2 j_3 m) ρ m := h
      unfold l1E at h
      obtain ⟨s_0a, s_0l, s_0c, e0, h⟩ := h.ex
      obtain ⟨i_2, e2, h⟩ := h.ex
      obtain ⟨j_3, e3, h⟩ := h.ex
      obtain ⟨N1, hlt, h⟩ := h
      exact ⟨N1, hlt, (by show l1E (I N1) ρ m; unfold l1E; rw [e0, e2, e3]; exact h)⟩
    | _ => exact h
  have hh := hs N s_0a s_0l s_0c i_2 j_3 m h
  generalize (fun s_0a s_0l s_0c i_2 j_3 m => ∃ N1, N1 < N ∧ I N1 s_0a s_0l s_0c i_2 j_3 m : Option Addr → Nat → Nat → Int → Int → Mem → Prop) = K1 at hh ⊢
  rw [← upd_self e0, ← upd_self e2, ← upd_self e3]
  rw [← l1_er  K1 R]
  refine acpt_sound (P := P) (l1A  K1 R) _ _ _ True.intro ?_
  exact Eq.mp (l1_eq  K1 R s_0a s_0l s_0c i_2 j_3 ρ m) hh
theorem e0_eq (s_0a : Option Addr) (s_0l : Nat) (s_0c : Nat) (R : Ending → Mem → Prop) (m : Mem) : e0 s_0a s_0l s_0c R m = acpt P od (panicR R) (e0A R) (bodyQ P fn R) (argE (#[.slice s_0a s_0l s_0c] : Array Value).toList) m := by kernel_rfl
theorem ok (s_0a : Option Addr) (s_0l : Nat) (s_0c : Nat) (R : Ending → Mem → Prop) (m : Mem) (h : e0 s_0a s_0l s_0c R m) : HC P id #[.slice s_0a s_0l s_0c] m R := by
  refine HC_of (fn := fn) (c := body) (od := od) (tb := tb) Go.Proofs.Try.func59 (by kernel_rfl) (by kernel_rfl) follows (by kernel_rfl) (of_decide_eq_true (by kernel_rfl)) ?_
  have he : (e0A R).erase = body := by kernel_rfl
  rw [← he]
  refine acpt_sound (P := P) (e0A R) _ _ _ ⟨(fun ρ m h => l1_ok  R ρ m h), True.intro⟩ ?_
  exact Eq.mp (e0_eq s_0a s_0l s_0c R m) h
end slices_Reverse_s_lru_entry_string_lru_entry_string

end
end Go.E
