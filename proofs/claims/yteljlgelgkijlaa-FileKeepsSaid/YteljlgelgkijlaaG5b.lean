/- Printed by this project's own gen.py: more shallow forms. -/
import Derived.Test.YteljlgelgkijlaaG5
set_option linter.unusedVariables false
set_option maxRecDepth 100000
namespace Go.E
open Go.H
noncomputable section
/-! ### (*eyot/page.Pages).Read -/
namespace page_Pages_Read
noncomputable def fn : Func := Go.Proofs.Try.f39
noncomputable def body : Code := fn.body.getD .skip
def od : Nat → Ord := fun | 6 => ordL [(0, 3), (1, 3), (2, 3), (3, 1), (4, 3), (5, 3), (6, 3), (7, 3), (8, 1), (9, 3), (10, 3), (11, 3), (12, 3), (13, 3), (14, 3), (15, 1), (16, 3), (17, 3), (18, 3), (19, 3), (20, 0), (21, 3), (22, 3), (23, 3), (24, 2), (25, 3), (26, 3)] .done | _ => .done
def tb : Nat → Tab := fun | 6 => (16777216, [0, 1, 3, 7, 0, 0, 32, 96, 224, 496, 0, 1024, 0, 4096, 12288, 28672, 64512, 0, 131072, 393216, 917504, 1966080, 4193280, 8388607, 16777215, 33554431, 67108863], [(0, 1, 31), (1, 1073741824, 32), (2, 2147483648, 33), (4, 4294967296, 34), (0, 2, 35), (0, 1, 36), (32, 34359738368, 37), (64, 68719476736, 38), (128, 137438953472, 39), (272, 292057776128, 40), (0, 2, 41), (1024, 1099511627776, 42), (0, 1, 43), (4096, 4398046511104, 44), (8192, 8796093022208, 45), (16384, 17592186044416, 46), (34816, 37383395344384, 47), (0, 1, 48), (131072, 140737488355328, 49), (262144, 281474976710656, 50), (524288, 562949953421312, 51), (1048576, 1125899906842624, 52), (2162688, 2322168557862912, 53), (4194824, 4504157973118976, 54), (8388608, 9007199254740992, 55), (33554431, 18014398509481984, 5), (67108863, 0, 6)]) | _ => (0, [], [])
def e0 (p_0 : Option Addr) (i_1 : Int) (R : Ending → Mem → Prop) (m : Mem) : Prop :=
  Br (decide (i_1 < 0)) (
    R (.returned (.tuple #[.slice none 0 0, .int .i64 1])) m) (
    HC P page_Pages_Count.id #[.pointer p_0] m (Cont (fun v m1 =>
        UnI v .i64 fun x11 =>
        Br (decide (i_1 ≥ x11)) (
          R (.returned (.tuple #[.slice none 0 0, .int .i64 1])) m1) (
          NilC p_0 (fun x16b x16o =>
            LdV m1 x16b (x16o + 3) fun v =>
            UnS v fun x18a x18l x18c =>
            NewC m1 #[.int .i64 i_1] T_int fun b20 m2 =>
            BiN P .append #[T_sl_int, T_sl_int] T_sl_int #[false, false] #[.slice x18a x18l x18c, .slice (some ⟨b20, 0, none⟩) 1 1] m2 (fun w m3 =>
              UnS w fun x21a x21l x21c =>
              NilC p_0 (fun x22b x22o =>
                St1 m3 x22b (x22o + 3) (.slice x21a x21l x21c) fun m4 =>
                NilC p_0 (fun x25b x25o =>
                  LdV m4 x25b (x25o + 2) fun v =>
                  UnM v fun x27 =>
                  LookN P m4 T_map_int_bool (.map x27) (.int .i64 i_1) false fun v =>
                  UnB v fun x29 =>
                  Br x29 (
                    R (.returned (.tuple #[.slice none 0 0, .int .i64 11])) m4) (
                    Sub m4 fun r5 =>
                    NilC p_0 (fun x31b x31o =>
                      LdV r5 x31b x31o fun v =>
                      UnS v fun x33a x33l x33c =>
                      NilC p_0 (fun x36b x36o =>
                        LdV r5 x36b (x36o + 1) fun v =>
                        UnI v .i64 fun x38 =>
                        NilC p_0 (fun x43b x43o =>
                        LdV r5 x43b (x43o + 1) fun v =>
                        UnI v .i64 fun x45 =>
                        NilC p_0 (fun x48b x48o =>
                        LdV m4 x48b x48o fun v =>
                        UnS v fun x50a x50l x50c =>
                        SlS x33a x33c (IntKind.i64.wrap (i_1 * x38)) (if ((x50l : Nat) : Int) < (IntKind.i64.wrap ((IntKind.i64.wrap (i_1 + 1)) * x45)) then ((x50l : Nat) : Int) else IntKind.i64.wrap ((IntKind.i64.wrap (i_1 + 1)) * x45)) 1 fun x53a x53l x53c =>
                        HC P slices_Clone_s_byte_byte.id #[.slice x53a x53l x53c] m4 (Cont (fun v m6 =>
                        UnS v fun x54a x54l x54c =>
                        R (.returned (.tuple #[.slice x54a x54l x54c, .int .i64 0])) m6) (panicR R))) (False)) (False)) (False)) (False))) (R (.panicked (nilPanic P)) m4)) (R (.panicked (nilPanic P)) m3)) (panicR R)) (R (.panicked (nilPanic P)) m1))) (panicR R)))
noncomputable def e0A (R : Ending → Mem → Prop) : ACode := (.code (body))
theorem e0_eq (p_0 : Option Addr) (i_1 : Int) (R : Ending → Mem → Prop) (m : Mem) : e0 p_0 i_1 R m = acpt P od (panicR R) (e0A R) (bodyQ P fn R) (argE (#[.pointer p_0, .int .i64 i_1] : Array Value).toList) m := by kernel_rfl
theorem ok (p_0 : Option Addr) (i_1 : Int) (R : Ending → Mem → Prop) (m : Mem) (h : e0 p_0 i_1 R m) : HC P id #[.pointer p_0, .int .i64 i_1] m R := by
  refine HC_of (fn := fn) (c := body) (od := od) (tb := tb) Go.Proofs.Try.func39 (by kernel_rfl) (by kernel_rfl) follows (by kernel_rfl) (of_decide_eq_true (by kernel_rfl)) ?_
  have he : (e0A R).erase = body := by kernel_rfl
  rw [← he]
  refine acpt_sound (P := P) (e0A R) _ _ _ True.intro ?_
  exact Eq.mp (e0_eq p_0 i_1 R m) h
end page_Pages_Read

/-! ### (*eyot/lru.Cache[[]byte]).Put -/
namespace lru_Cache_s_byte_Put
noncomputable def fn : Func := Go.Proofs.Try.f40
noncomputable def body : Code := fn.body.getD .skip
def od : Nat → Ord := fun _ => .done
def tb : Nat → Tab := fun _ => (0, [], [])
def e0 (c_0 : Option Addr) (k_1 : Int) (v_2a : Option Addr) (v_2l : Nat) (v_2c : Nat) (R : Ending → Mem → Prop) (m : Mem) : Prop :=
  Br c_0.isNone (
    R (.returned (.tuple #[.int .i64 0, .bool false])) m) (
    HC P lru_Cache_s_byte_Drop.id #[.pointer c_0, .int .i64 k_1] m (Cont (fun v m1 =>
        UnB v fun x13 =>
        HC P lru_Cache_s_byte_front.id #[.pointer c_0, .agg #[.int .i64 k_1, .slice v_2a v_2l v_2c]] m1 (Cont (fun v m2 =>
            UnTup v fun us0 =>
            UnNil us0 (
              NilC c_0 (fun x20b x20o =>
                LdV m2 x20b (x20o + 1) fun v =>
                UnS v fun x22a x22l x22c =>
                NilC c_0 (fun x27b x27o =>
                  LdV m2 x27b x27o fun v =>
                  UnI v .i64 fun x29 =>
                  Br (decide ((IntKind.i64.wrap (((x22l : Nat) : Int) - 1)) < (if 1 > x29 then 1 else x29))) (
                    R (.returned (.tuple #[.int .i64 0, .bool false])) m2) (
                    NilC c_0 (fun x33b x33o =>
                      LdV m2 x33b (x33o + 1) fun v =>
                      UnS v fun x35a x35l x35c =>
                      IxS x35a x35l (IntKind.i64.wrap (((x22l : Nat) : Int) - 1)) 2 fun x37b x37o =>
                      LdV m2 x37b x37o fun v =>
                      UnI v .i64 fun x39 =>
                      NilC c_0 (fun x42b x42o =>
                        LdV m2 x42b (x42o + 1) fun v =>
                        UnS v fun x44a x44l x44c =>
                        SlS x44a x44c 0 (IntKind.i64.wrap (((x22l : Nat) : Int) - 1)) 2 fun x46a x46l x46c =>
                        NilC c_0 (fun x47b x47o =>
                        St1 m2 x47b (x47o + 1) (.slice x46a x46l x46c) fun m3 =>
                        R (.returned (.tuple #[.int .i64 x39, .bool true])) m3) (R (.panicked (nilPanic P)) m2)) (R (.panicked (nilPanic P)) m2)) (R (.panicked (nilPanic P)) m2))) (R (.panicked (nilPanic P)) m2)) (R (.panicked (nilPanic P)) m2))) (panicR R))) (panicR R)))
noncomputable def e0A (R : Ending → Mem → Prop) : ACode := (.code (body))
theorem e0_eq (c_0 : Option Addr) (k_1 : Int) (v_2a : Option Addr) (v_2l : Nat) (v_2c : Nat) (R : Ending → Mem → Prop) (m : Mem) : e0 c_0 k_1 v_2a v_2l v_2c R m = acpt P od (panicR R) (e0A R) (bodyQ P fn R) (argE (#[.pointer c_0, .int .i64 k_1, .slice v_2a v_2l v_2c] : Array Value).toList) m := by kernel_rfl
theorem ok (c_0 : Option Addr) (k_1 : Int) (v_2a : Option Addr) (v_2l : Nat) (v_2c : Nat) (R : Ending → Mem → Prop) (m : Mem) (h : e0 c_0 k_1 v_2a v_2l v_2c R m) : HC P id #[.pointer c_0, .int .i64 k_1, .slice v_2a v_2l v_2c] m R := by
  refine HC_of (fn := fn) (c := body) (od := od) (tb := tb) Go.Proofs.Try.func40 (by kernel_rfl) (by kernel_rfl) follows (by kernel_rfl) (of_decide_eq_true (by kernel_rfl)) ?_
  have he : (e0A R).erase = body := by kernel_rfl
  rw [← he]
  refine acpt_sound (P := P) (e0A R) _ _ _ True.intro ?_
  exact Eq.mp (e0_eq c_0 k_1 v_2a v_2l v_2c R m) h
end lru_Cache_s_byte_Put

/-! ### (*eyot/page.Pages).Len$1 -/
namespace page_Pages_Len_1
noncomputable def fn : Func := Go.Proofs.Try.f41
noncomputable def body : Code := fn.body.getD .skip
def od : Nat → Ord := fun _ => .done
def tb : Nat → Tab := fun _ => (0, [], [])
def e0 (c0b : Nat) (c0o : Nat) (R : Ending → Mem → Prop) (m : Mem) : Prop :=
  LdV m c0b c0o fun v =>
  UnP v fun x2 =>
  NilC x2 (fun x3b x3o =>
    LdV m x3b x3o fun v =>
    UnS v fun x5a x5l x5c =>
    R (.returned (.int .i64 ((x5l : Nat) : Int))) m) (R (.panicked (nilPanic P)) m)
noncomputable def e0A (R : Ending → Mem → Prop) : ACode := (.code (body))
theorem e0_eq (c0b : Nat) (c0o : Nat) (R : Ending → Mem → Prop) (m : Mem) : e0 c0b c0o R m = acpt P od (panicR R) (e0A R) (bodyQ P fn R) (argE (#[.pointer (some ⟨c0b, c0o, none⟩)] : Array Value).toList) m := by kernel_rfl
theorem ok (c0b : Nat) (c0o : Nat) (R : Ending → Mem → Prop) (m : Mem) (h : e0 c0b c0o R m) : HC P id #[.pointer (some ⟨c0b, c0o, none⟩)] m R := by
  refine HC_of (fn := fn) (c := body) (od := od) (tb := tb) Go.Proofs.Try.func41 (by kernel_rfl) (by kernel_rfl) follows (by kernel_rfl) (of_decide_eq_true (by kernel_rfl)) ?_
  have he : (e0A R).erase = body := by kernel_rfl
  rw [← he]
  refine acpt_sound (P := P) (e0A R) _ _ _ True.intro ?_
  exact Eq.mp (e0_eq c0b c0o R m) h
end page_Pages_Len_1

/-! ### (*eyot/eyotref3.Cache).at -/
namespace eyotref3_Cache_at
noncomputable def fn : Func := Go.Proofs.Try.f42
noncomputable def body : Code := fn.body.getD .skip
def od : Nat → Ord := fun _ => .done
def tb : Nat → Tab := fun _ => (0, [], [])
def l1E (K : Option Addr → Int → Int → Mem → Prop) : Env → Mem → Prop := fun ρ m => UnP (ρ 0) fun c_0 => UnI (ρ 1) .i64 fun k_1 => UnI (ρ 5) .i64 fun i_5 => K c_0 k_1 i_5 m
def l1B  (K1 : Option Addr → Int → Int → Mem → Prop) (c_0 : Option Addr) (k_1 : Int) (i_5 : Int) (R : Ending → Mem → Prop) (m : Mem) : Prop :=
  NilC c_0 (fun x8b x8o =>
    LdV m x8b (x8o + 1) fun v =>
    UnS v fun x10a x10l x10c =>
    Br (decide (i_5 < ((x10l : Nat) : Int))) (
      NilC c_0 (fun x16b x16o =>
        LdV m x16b (x16o + 1) fun v =>
        UnS v fun x18a x18l x18c =>
        IxS x18a x18l i_5 1 fun x20b x20o =>
        LdV m x20b x20o fun v =>
        UnI v .i64 fun x21 =>
        Br (x21 == k_1) (
          R (.returned (.int .i64 i_5)) m) (
          K1 c_0 k_1 (IntKind.i64.wrap (i_5 + 1)) m)) (R (.panicked (nilPanic P)) m)) (
      R (.returned (.int .i64 (-1))) m)) (R (.panicked (nilPanic P)) m)
def l1  (c_0 : Option Addr) (k_1 : Int) (i_5 : Int) (R : Ending → Mem → Prop) (m : Mem) : Prop :=
  ∃ (I : Nat → Option Addr → Int → Int → Mem → Prop) (N : Nat), I N c_0 k_1 i_5 m ∧ ∀ N c_0 k_1 i_5 m, I N c_0 k_1 i_5 m → l1B  (fun c_0 k_1 i_5 m => ∃ N1, N1 < N ∧ I N1 c_0 k_1 i_5 m) c_0 k_1 i_5 R m
noncomputable def l1A  (K1 : Option Addr → Int → Int → Mem → Prop) (R : Ending → Mem → Prop) : ACode := (.code (lP (bB (sR (sL (sR (body)))))))
def e0 (c_0 : Option Addr) (k_1 : Int) (R : Ending → Mem → Prop) (m : Mem) : Prop :=
  l1  c_0 k_1 0 R m
noncomputable def e0A (R : Ending → Mem → Prop) : ACode := (.seq (.code (sL (body))) (.seq (.seq (.code (sL (sL (sR (body))))) (.block 0 (.cut (l1E fun c_0 k_1 i_5 m => l1  c_0 k_1 i_5 R m) (.loop (lP (bB (sR (sL (sR (body)))))))))) (.code (sR (sR (body))))))
theorem l1_eq  (K1 : Option Addr → Int → Int → Mem → Prop) (R : Ending → Mem → Prop) (c_0 : Option Addr) (k_1 : Int) (i_5 : Int) (ρ : Env) (m : Mem) : l1B  K1 c_0 k_1 i_5 R m = acpt P od (panicR R) (l1A  K1 R) (thenQ (l1E K1) (blockQ 0 (thenQ (acpt P od (panicR R) (.code (sR (sR (body)))) (bodyQ P fn R)) (bodyQ P fn R)))) (upd (upd (upd ρ 5 (.int .i64 i_5)) 1 (.int .i64 k_1)) 0 (.pointer c_0)) m := by kernel_rfl
theorem l1_er  (K1 : Option Addr → Int → Int → Mem → Prop) (R : Ending → Mem → Prop) : (l1A  K1 R).erase = lP (bB (sR (sL (sR (body))))) := by kernel_rfl
theorem l1_ok  (R : Ending → Mem → Prop) (ρ : Env) (m : Mem) (h : (l1E fun c_0 k_1 i_5 m => l1  c_0 k_1 i_5 R m) ρ m) : cpt P od (panicR R) (.loop (lP (bB (sR (sL (sR (body))))))) (blockQ 0 (thenQ (acpt P od (panicR R) (.code (sR (sR (body)))) (bodyQ P fn R)) (bodyQ P fn R))) ρ m := by
  unfold l1E at h
  obtain ⟨c_0, e0, h⟩ := h.ex
  obtain ⟨k_1, e1, h⟩ := h.ex
  obtain ⟨i_5, e5, h⟩ := h.ex
  obtain ⟨I, N, h0, hs⟩ := h
  refine ⟨fun N => l1E (I N), N, (by show l1E (I N) ρ m; unfold l1E; rw [e0, e1, e5]; exact h0), ?_⟩
  clear h0 e0 e1 e5
  intro N ρ m h
  unfold l1E at h
  obtain ⟨c_0, e0, h⟩ := h.ex
  obtain ⟨k_1, e1, h⟩ := h.ex
  obtain ⟨i_5, e5, h⟩ := h.ex
  refine cpt_mono (P := P) (lP (bB (sR (sL (sR (body)))))) (Q := thenQ (l1E fun c_0 k_1 i_5 m => ∃ N1, N1 < N ∧ I N1 c_0 k_1 i_5 m) (blockQ 0 (thenQ (acpt P od (panicR R) (.code (sR (sR (body)))) (bodyQ P fn R)) (bodyQ P fn R)))) (fun e ρ m h => ?_) ρ m ?_
  · cases e with
    | normal =>
      have h : l1E (fun c_0 k_1 i_5 m => ∃ N1, N1 < N ∧ I N1 c_0 k_1 i_5 m) ρ m := h
      unfold l1E at h
      obtain ⟨c_0, e0, h⟩ := h.ex
      obtain ⟨k_1, e1, h⟩ := h.ex
      obtain ⟨i_5, e5, h⟩ := h.ex
      obtain ⟨N1, hlt, h⟩ := h
      exact ⟨N1, hlt, (by show l1E (I N1) ρ m; unfold l1E; rw [e0, e1, e5]; exact h)⟩
    | _ => exact h
  have hh := hs N c_0 k_1 i_5 m h
  generalize (fun c_0 k_1 i_5 m => ∃ N1, N1 < N ∧ I N1 c_0 k_1 i_5 m : Option Addr → Int → Int → Mem → Prop) = K1 at hh ⊢
  rw [← upd_self e0, ← upd_self e1, ← upd_self e5]
  rw [← l1_er  K1 R]
  refine acpt_sound (P := P) (l1A  K1 R) _ _ _ True.intro ?_
  exact Eq.mp (l1_eq  K1 R c_0 k_1 i_5 ρ m) hh
theorem e0_eq (c_0 : Option Addr) (k_1 : Int) (R : Ending → Mem → Prop) (m : Mem) : e0 c_0 k_1 R m = acpt P od (panicR R) (e0A R) (bodyQ P fn R) (argE (#[.pointer c_0, .int .i64 k_1] : Array Value).toList) m := by kernel_rfl
theorem ok (c_0 : Option Addr) (k_1 : Int) (R : Ending → Mem → Prop) (m : Mem) (h : e0 c_0 k_1 R m) : HC P id #[.pointer c_0, .int .i64 k_1] m R := by
  refine HC_of (fn := fn) (c := body) (od := od) (tb := tb) Go.Proofs.Try.func42 (by kernel_rfl) (by kernel_rfl) follows (by kernel_rfl) (of_decide_eq_true (by kernel_rfl)) ?_
  have he : (e0A R).erase = body := by kernel_rfl
  rw [← he]
  refine acpt_sound (P := P) (e0A R) _ _ _ ⟨⟨True.intro, ⟨(fun ρ m h => l1_ok  R ρ m h), True.intro⟩⟩, True.intro⟩ ?_
  exact Eq.mp (e0_eq c_0 k_1 R m) h
end eyotref3_Cache_at

/-! ### (*eyot/eyotref3.Cache).Drop -/
namespace eyotref3_Cache_Drop
noncomputable def fn : Func := Go.Proofs.Try.f43
noncomputable def body : Code := fn.body.getD .skip
def od : Nat → Ord := fun | 4 => ordL [(0, 3), (2, 3), (3, 3), (4, 3), (5, 1), (6, 3), (7, 3), (9, 3), (10, 3), (11, 3), (12, 1), (13, 3), (14, 3), (15, 3), (1, 0), (8, 0), (16, 2), (17, 3), (18, 3), (19, 2)] .done | 5 => ordL [(0, 3), (2, 3), (3, 3), (4, 3), (5, 1), (6, 3), (7, 3), (9, 3), (10, 3), (11, 3), (12, 1), (13, 3), (14, 3), (15, 3), (1, 0), (8, 0), (16, 2), (17, 3), (18, 3), (19, 2)] .done | _ => .done
def tb : Nat → Tab := fun | 4 => (589824, [0, 0, 0, 4, 12, 28, 0, 124, 254, 0, 512, 1536, 3584, 0, 8192, 32256, 65534, 131071, 262143, 524287], [(0, 1, 12), (0, 0, 13), (0, 1, 14), (4, 8192, 15), (8, 16384, 16), (16, 32768, 17), (0, 32, 18), (96, 196608, 19), (130, 266240, 20), (0, 1, 21), (512, 1048576, 22), (1024, 2097152, 23), (2048, 4194304, 24), (0, 32, 25), (8192, 16777216, 26), (20480, 41943040, 27), (33024, 67633152, 28), (131071, 2048, 29), (262143, 268435456, 30), (393215, 671088640, 0)]) | 5 => (589824, [0, 0, 0, 4, 12, 28, 0, 124, 254, 0, 512, 1536, 3584, 0, 8192, 32256, 65534, 131071, 262143, 524287], [(0, 1, 31), (0, 0, 32), (0, 1, 33), (4, 4294967296, 34), (8, 8589934592, 35), (16, 17179869184, 36), (0, 32, 37), (96, 103079215104, 38), (130, 139586437120, 39), (0, 1, 40), (512, 549755813888, 41), (1024, 1099511627776, 42), (2048, 2199023255552, 43), (0, 32, 44), (8192, 8796093022208, 45), (20480, 21990232555520, 46), (33024, 35459249995776, 47), (131071, 1073741824, 48), (262143, 140737488355328, 49), (393215, 351843720888320, 0)]) | _ => (0, [], [])
def e0 (c_0 : Option Addr) (k_1 : Int) (R : Ending → Mem → Prop) (m : Mem) : Prop :=
  HC P eyotref3_Cache_at.id #[.pointer c_0, .int .i64 k_1] m (Cont (fun v m1 =>
      UnI v .i64 fun x8 =>
      Br (decide (x8 < 0)) (
        R (.returned (.bool false)) m1) (
        Sub m1 fun r2 =>
        NilC c_0 (fun x14b x14o =>
          LdV r2 x14b (x14o + 1) fun v =>
          UnS v fun x16a x16l x16c =>
          SlS x16a x16c 0 x8 1 fun x18a x18l x18c =>
          NilC c_0 (fun x21b x21o =>
            LdV r2 x21b (x21o + 1) fun v =>
            UnS v fun x23a x23l x23c =>
            SlS x23a x23c (IntKind.i64.wrap (x8 + 1)) x23l 1 fun x26a x26l x26c =>
            NewC m1 #[] T_int fun b12 m3 =>
            Lk r2 m3 fun r4 =>
            BiN P .append #[T_sl_int, T_sl_int] T_sl_int #[false, false] #[.slice (some ⟨b12, 0, none⟩) 0 0, .slice x18a x18l x18c] m3 (fun w m5 =>
              UnS w fun x19a x19l x19c =>
              Lk r4 m5 fun r6 =>
              BiN P .append #[T_sl_int, T_sl_int] T_sl_int #[false, false] #[.slice x19a x19l x19c, .slice x26a x26l x26c] m5 (fun w m7 =>
                UnS w fun x27a x27l x27c =>
                NilC c_0 (fun x28b x28o =>
                  St1 m7 x28b (x28o + 1) (.slice x27a x27l x27c) fun m8 =>
                  Sub m8 fun r9 =>
                  NilC c_0 (fun x33b x33o =>
                    LdV r9 x33b (x33o + 2) fun v =>
                    UnS v fun x35a x35l x35c =>
                    SlS x35a x35c 0 x8 1 fun x37a x37l x37c =>
                    NilC c_0 (fun x40b x40o =>
                      LdV r9 x40b (x40o + 2) fun v =>
                      UnS v fun x42a x42l x42c =>
                      SlS x42a x42c (IntKind.i64.wrap (x8 + 1)) x42l 1 fun x45a x45l x45c =>
                      NewC m8 #[] T_int fun b31 m10 =>
                      Lk r9 m10 fun r11 =>
                      BiN P .append #[T_sl_int, T_sl_int] T_sl_int #[false, false] #[.slice (some ⟨b31, 0, none⟩) 0 0, .slice x37a x37l x37c] m10 (fun w m12 =>
                        UnS w fun x38a x38l x38c =>
                        Lk r11 m12 fun r13 =>
                        BiN P .append #[T_sl_int, T_sl_int] T_sl_int #[false, false] #[.slice x38a x38l x38c, .slice x45a x45l x45c] m12 (fun w m14 =>
                        UnS w fun x46a x46l x46c =>
                        NilC c_0 (fun x47b x47o =>
                        St1 m14 x47b (x47o + 2) (.slice x46a x46l x46c) fun m15 =>
                        R (.returned (.bool true)) m15) (False)) (panicR R)) (panicR R)) (False)) (False)) (False)) (panicR R)) (panicR R)) (False)) (False))) (panicR R))
noncomputable def e0A (R : Ending → Mem → Prop) : ACode := (.code (body))
theorem e0_eq (c_0 : Option Addr) (k_1 : Int) (R : Ending → Mem → Prop) (m : Mem) : e0 c_0 k_1 R m = acpt P od (panicR R) (e0A R) (bodyQ P fn R) (argE (#[.pointer c_0, .int .i64 k_1] : Array Value).toList) m := by kernel_rfl
theorem ok (c_0 : Option Addr) (k_1 : Int) (R : Ending → Mem → Prop) (m : Mem) (h : e0 c_0 k_1 R m) : HC P id #[.pointer c_0, .int .i64 k_1] m R := by
  refine HC_of (fn := fn) (c := body) (od := od) (tb := tb) Go.Proofs.Try.func43 (by kernel_rfl) (by kernel_rfl) follows (by kernel_rfl) (of_decide_eq_true (by kernel_rfl)) ?_
  have he : (e0A R).erase = body := by kernel_rfl
  rw [← he]
  refine acpt_sound (P := P) (e0A R) _ _ _ True.intro ?_
  exact Eq.mp (e0_eq c_0 k_1 R m) h
end eyotref3_Cache_Drop

/-! ### (*eyot/lru.Cache[[]byte]).at -/
namespace lru_Cache_s_byte_at
noncomputable def fn : Func := Go.Proofs.Try.f46
noncomputable def body : Code := fn.body.getD .skip
def od : Nat → Ord := fun _ => .done
def tb : Nat → Tab := fun _ => (0, [], [])
def e0 (c_0 : Option Addr) (k_1 : Int) (R : Ending → Mem → Prop) (m : Mem) : Prop :=
  NewC m #[.int .i64 k_1] T_int fun b_k_3 m1 =>
  Br c_0.isNone (
    R (.returned (.int .i64 (-1))) m1) (
    NilC c_0 (fun x8b x8o =>
      LdV m1 x8b (x8o + 1) fun v =>
      UnS v fun x10a x10l x10c =>
      HC P slices_IndexFunc_s_lru_entry_s_byte_lru_entry_s_byte.id #[.slice x10a x10l x10c, .func (.func lru_Cache_s_byte_at_1.id) #[] #[.pointer (some ⟨b_k_3, 0, none⟩)]] m1 (Cont (fun v m2 =>
          UnI v .i64 fun x12 =>
          R (.returned (.int .i64 x12)) m2) (panicR R))) (R (.panicked (nilPanic P)) m1))
noncomputable def e0A (R : Ending → Mem → Prop) : ACode := (.code (body))
theorem e0_eq (c_0 : Option Addr) (k_1 : Int) (R : Ending → Mem → Prop) (m : Mem) : e0 c_0 k_1 R m = acpt P od (panicR R) (e0A R) (bodyQ P fn R) (argE (#[.pointer c_0, .int .i64 k_1] : Array Value).toList) m := by kernel_rfl
theorem ok (c_0 : Option Addr) (k_1 : Int) (R : Ending → Mem → Prop) (m : Mem) (h : e0 c_0 k_1 R m) : HC P id #[.pointer c_0, .int .i64 k_1] m R := by
  refine HC_of (fn := fn) (c := body) (od := od) (tb := tb) Go.Proofs.Try.func46 (by kernel_rfl) (by kernel_rfl) follows (by kernel_rfl) (of_decide_eq_true (by kernel_rfl)) ?_
  have he : (e0A R).erase = body := by kernel_rfl
  rw [← he]
  refine acpt_sound (P := P) (e0A R) _ _ _ True.intro ?_
  exact Eq.mp (e0_eq c_0 k_1 R m) h
end lru_Cache_s_byte_at

/-! ### slices.Delete[[]eyot/lru.entry[[]byte],eyot/lru.entry[[]byte]] -/
namespace slices_Delete_s_lru_entry_s_byte_lru_entry_s_byte
noncomputable def fn : Func := Go.Proofs.Try.f47
noncomputable def body : Code := fn.body.getD .skip
def od : Nat → Ord := fun | 5 => ordL [(0, 3), (1, 3), (2, 3), (3, 3), (4, 3), (5, 3), (6, 2), (7, 3)] .done | _ => .done
def tb : Nat → Tab := fun | 5 => (64, [0, 0, 3, 0, 0, 24, 63, 127], [(0, 1, 21), (0, 2, 22), (3, 3145728, 23), (0, 1, 24), (0, 4, 25), (24, 25165824, 26), (36, 37748736, 27), (127, 67108864, 1)]) | _ => (0, [], [])
def e0 (s_0a : Option Addr) (s_0l : Nat) (s_0c : Nat) (i_1 : Int) (j_2 : Int) (R : Ending → Mem → Prop) (m : Mem) : Prop :=
  Sl3N P m T_sl_lru_entry_byte (.slice s_0a s_0l s_0c) (.int .i64 i_1) (.int .i64 j_2) (.int .i64 ((s_0l : Nat) : Int)) fun v =>
  Br (i_1 == j_2) (
    R (.returned (.slice s_0a s_0l s_0c)) m) (
    Sub m fun r1 =>
    SlS s_0a s_0c 0 i_1 2 fun x22a x22l x22c =>
    SlS s_0a s_0c j_2 s_0l 2 fun x25a x25l x25c =>
    BiN P .append #[T_sl_lru_entry_byte, T_sl_lru_entry_byte] T_sl_lru_entry_byte #[false, false] #[.slice x22a x22l x22c, .slice x25a x25l x25c] m (fun w m2 =>
      UnS w fun x26a x26l x26c =>
      SlS x26a x26c ((x26l : Nat) : Int) ((s_0l : Nat) : Int) 2 fun x31a x31l x31c =>
      BiN P .clear #[T_sl_lru_entry_byte] T_ #[false] #[.slice x31a x31l x31c] m2 (fun w m3 =>
        UnTup w fun us0 =>
        UnNil us0 (
          R (.returned (.slice x26a x26l x26c)) m3)) (panicR R)) (panicR R))
noncomputable def e0A (R : Ending → Mem → Prop) : ACode := (.code (body))
theorem e0_eq (s_0a : Option Addr) (s_0l : Nat) (s_0c : Nat) (i_1 : Int) (j_2 : Int) (R : Ending → Mem → Prop) (m : Mem) : e0 s_0a s_0l s_0c i_1 j_2 R m = acpt P od (panicR R) (e0A R) (bodyQ P fn R) (argE (#[.slice s_0a s_0l s_0c, .int .i64 i_1, .int .i64 j_2] : Array Value).toList) m := by kernel_rfl
theorem ok (s_0a : Option Addr) (s_0l : Nat) (s_0c : Nat) (i_1 : Int) (j_2 : Int) (R : Ending → Mem → Prop) (m : Mem) (h : e0 s_0a s_0l s_0c i_1 j_2 R m) : HC P id #[.slice s_0a s_0l s_0c, .int .i64 i_1, .int .i64 j_2] m R := by
  refine HC_of (fn := fn) (c := body) (od := od) (tb := tb) Go.Proofs.Try.func47 (by kernel_rfl) (by kernel_rfl) follows (by kernel_rfl) (of_decide_eq_true (by kernel_rfl)) ?_
  have he : (e0A R).erase = body := by kernel_rfl
  rw [← he]
  refine acpt_sound (P := P) (e0A R) _ _ _ True.intro ?_
  exact Eq.mp (e0_eq s_0a s_0l s_0c i_1 j_2 R m) h
end slices_Delete_s_lru_entry_s_byte_lru_entry_s_byte

/-! ### (*eyot/lru.Cache[[]byte]).front -/
namespace lru_Cache_s_byte_front
noncomputable def fn : Func := Go.Proofs.Try.f48
noncomputable def body : Code := fn.body.getD .skip
def od : Nat → Ord := fun | 1 => ordL [(0, 3), (1, 3), (2, 3), (3, 3), (4, 1), (5, 0), (6, 0), (7, 2), (8, 3), (9, 3), (10, 2)] .done | _ => .done
def tb : Nat → Tab := fun | 1 => (1152, [0, 0, 2, 6, 14, 0, 32, 126, 255, 511, 1023], [(0, 1, 5), (0, 1, 6), (2, 32, 7), (4, 64, 8), (8, 128, 9), (0, 8, 10), (32, 512, 11), (80, 1280, 12), (255, 16, 13), (511, 4096, 14), (767, 10240, 0)]) | _ => (0, [], [])
def e0 (c_0 : Option Addr) (e_1_0 : Int) (e_1_1a : Option Addr) (e_1_1l : Nat) (e_1_1c : Nat) (R : Ending → Mem → Prop) (m : Mem) : Prop :=
  NewC m #[.int .i64 e_1_0, .slice e_1_1a e_1_1l e_1_1c] T_lru_entry_byte fun b_e_3 m1 =>
  Sub m1 fun r2 =>
  NilC c_0 (fun x6b x6o =>
    LdV r2 x6b (x6o + 1) fun v =>
    UnS v fun x8a x8l x8c =>
    LdV m1 b_e_3 0 fun v =>
    UnI v .i64 fun x9_0 =>
    LdV m1 b_e_3 1 fun v =>
    UnS v fun x9_1a x9_1l x9_1c =>
    NewC m1 #[.int .i64 x9_0, .slice x9_1a x9_1l x9_1c] T_lru_entry_byte fun b10 m3 =>
    Lk r2 m3 fun r4 =>
    HC P slices_Insert_s_lru_entry_s_byte_lru_entry_s_byte.id #[.slice x8a x8l x8c, .int .i64 0, .slice (some ⟨b10, 0, none⟩) 1 1] m3 (Cont (fun v m5 =>
        UnS v fun x11a x11l x11c =>
        NilC c_0 (fun x12b x12o =>
          St1 m5 x12b (x12o + 1) (.slice x11a x11l x11c) fun m6 =>
          R (.returned (.tuple #[])) m6) (False)) (panicR R))) (False)
noncomputable def e0A (R : Ending → Mem → Prop) : ACode := (.code (body))
theorem e0_eq (c_0 : Option Addr) (e_1_0 : Int) (e_1_1a : Option Addr) (e_1_1l : Nat) (e_1_1c : Nat) (R : Ending → Mem → Prop) (m : Mem) : e0 c_0 e_1_0 e_1_1a e_1_1l e_1_1c R m = acpt P od (panicR R) (e0A R) (bodyQ P fn R) (argE (#[.pointer c_0, .agg #[.int .i64 e_1_0, .slice e_1_1a e_1_1l e_1_1c]] : Array Value).toList) m := by kernel_rfl
theorem ok (c_0 : Option Addr) (e_1_0 : Int) (e_1_1a : Option Addr) (e_1_1l : Nat) (e_1_1c : Nat) (R : Ending → Mem → Prop) (m : Mem) (h : e0 c_0 e_1_0 e_1_1a e_1_1l e_1_1c R m) : HC P id #[.pointer c_0, .agg #[.int .i64 e_1_0, .slice e_1_1a e_1_1l e_1_1c]] m R := by
  refine HC_of (fn := fn) (c := body) (od := od) (tb := tb) Go.Proofs.Try.func48 (by kernel_rfl) (by kernel_rfl) follows (by kernel_rfl) (of_decide_eq_true (by kernel_rfl)) ?_
  have he : (e0A R).erase = body := by kernel_rfl
  rw [← he]
  refine acpt_sound (P := P) (e0A R) _ _ _ True.intro ?_
  exact Eq.mp (e0_eq c_0 e_1_0 e_1_1a e_1_1l e_1_1c R m) h
end lru_Cache_s_byte_front

/-! ### (*eyot/lru.Cache[[]byte]).Drop -/
namespace lru_Cache_s_byte_Drop
noncomputable def fn : Func := Go.Proofs.Try.f49
noncomputable def body : Code := fn.body.getD .skip
def od : Nat → Ord := fun _ => .done
def tb : Nat → Tab := fun _ => (0, [], [])
def e0 (c_0 : Option Addr) (k_1 : Int) (R : Ending → Mem → Prop) (m : Mem) : Prop :=
  HC P lru_Cache_s_byte_at.id #[.pointer c_0, .int .i64 k_1] m (Cont (fun v m1 =>
      UnI v .i64 fun x8 =>
      Br (decide (x8 < 0)) (
        R (.returned (.bool false)) m1) (
        NilC c_0 (fun x13b x13o =>
          LdV m1 x13b (x13o + 1) fun v =>
          UnS v fun x15a x15l x15c =>
          HC P slices_Delete_s_lru_entry_s_byte_lru_entry_s_byte.id #[.slice x15a x15l x15c, .int .i64 x8, .int .i64 (IntKind.i64.wrap (x8 + 1))] m1 (Cont (fun v m2 =>
              UnS v fun x19a x19l x19c =>
              NilC c_0 (fun x20b x20o =>
                St1 m2 x20b (x20o + 1) (.slice x19a x19l x19c) fun m3 =>
                R (.returned (.bool true)) m3) (R (.panicked (nilPanic P)) m2)) (panicR R))) (R (.panicked (nilPanic P)) m1))) (panicR R))
noncomputable def e0A (R : Ending → Mem → Prop) : ACode := (.code (body))
theorem e0_eq (c_0 : Option Addr) (k_1 : Int) (R : Ending → Mem → Prop) (m : Mem) : e0 c_0 k_1 R m = acpt P od (panicR R) (e0A R) (bodyQ P fn R) (argE (#[.pointer c_0, .int .i64 k_1] : Array Value).toList) m := by kernel_rfl
theorem ok (c_0 : Option Addr) (k_1 : Int) (R : Ending → Mem → Prop) (m : Mem) (h : e0 c_0 k_1 R m) : HC P id #[.pointer c_0, .int .i64 k_1] m R := by
  refine HC_of (fn := fn) (c := body) (od := od) (tb := tb) Go.Proofs.Try.func49 (by kernel_rfl) (by kernel_rfl) follows (by kernel_rfl) (of_decide_eq_true (by kernel_rfl)) ?_
  have he : (e0A R).erase = body := by kernel_rfl
  rw [← he]
  refine acpt_sound (P := P) (e0A R) _ _ _ True.intro ?_
  exact Eq.mp (e0_eq c_0 k_1 R m) h
end lru_Cache_s_byte_Drop

/-! ### slices.IndexFunc[[]eyot/lru.entry[[]byte],eyot/lru.entry[[]byte]] -/
namespace slices_IndexFunc_s_lru_entry_s_byte_lru_entry_s_byte
noncomputable def fn : Func := Go.Proofs.Try.f50
noncomputable def body : Code := fn.body.getD .skip
def od : Nat → Ord := fun _ => .done
def tb : Nat → Tab := fun _ => (0, [], [])
def l1E (K : Option Addr → Nat → Nat → Value → Int → Int → Mem → Prop) : Env → Mem → Prop := fun ρ m => UnS (ρ 0) fun s_0a s_0l s_0c => (fun f_1 => UnI (ρ 7) .i64 fun x7 => UnI (ρ 8) .i64 fun x8 => K s_0a s_0l s_0c f_1 x7 x8 m) (ρ 1)
def l1B  (K1 : Option Addr → Nat → Nat → Value → Int → Int → Mem → Prop) (s_0a : Option Addr) (s_0l : Nat) (s_0c : Nat) (f_1 : Value) (x7 : Int) (x8 : Int) (R : Ending → Mem → Prop) (m : Mem) : Prop :=
  Br (decide (x8 < x7)) (
    IxS s_0a s_0l x8 2 fun x14b x14o =>
    LdV m x14b x14o fun v =>
    UnI v .i64 fun x15_0 =>
    LdV m x14b (x14o + 1) fun v =>
    UnS v fun x15_1a x15_1l x15_1c =>
    CallV P f_1 #[.agg #[.int .i64 x15_0, .slice x15_1a x15_1l x15_1c]] m (Cont (fun v m1 =>
        UnB v fun x16 =>
        Br x16 (
          R (.returned (.int .i64 x8)) m1) (
          K1 s_0a s_0l s_0c f_1 x7 (IntKind.i64.wrap (x8 + 1)) m1)) (panicR R))) (
    R (.returned (.int .i64 (-1))) m)
def l1  (s_0a : Option Addr) (s_0l : Nat) (s_0c : Nat) (f_1 : Value) (x7 : Int) (x8 : Int) (R : Ending → Mem → Prop) (m : Mem) : Prop :=
  ∃ (I : Nat → Option Addr → Nat → Nat → Value → Int → Int → Mem → Prop) (N : Nat), I N s_0a s_0l s_0c f_1 x7 x8 m ∧ ∀ N s_0a s_0l s_0c f_1 x7 x8 m, I N s_0a s_0l s_0c f_1 x7 x8 m → l1B  (fun s_0a s_0l s_0c f_1 x7 x8 m => ∃ N1, N1 < N ∧ I N1 s_0a s_0l s_0c f_1 x7 x8 m) s_0a s_0l s_0c f_1 x7 x8 R m
noncomputable def l1A  (K1 : Option Addr → Nat → Nat → Value → Int → Int → Mem → Prop) (R : Ending → Mem → Prop) : ACode := (.code (lP (bB (sR (sL (sR (body)))))))
def e0 (s_0a : Option Addr) (s_0l : Nat) (s_0c : Nat) (f_1 : Value) (R : Ending → Mem → Prop) (m : Mem) : Prop :=
  l1  s_0a s_0l s_0c f_1 ((s_0l : Nat) : Int) 0 R m
noncomputable def e0A (R : Ending → Mem → Prop) : ACode := (.seq (.code (sL (body))) (.seq (.seq (.code (sL (sL (sR (body))))) (.block 0 (.cut (l1E fun s_0a s_0l s_0c f_1 x7 x8 m => l1  s_0a s_0l s_0c f_1 x7 x8 R m) (.loop (lP (bB (sR (sL (sR (body)))))))))) (.code (sR (sR (body))))))
theorem l1_eq  (K1 : Option Addr → Nat → Nat → Value → Int → Int → Mem → Prop) (R : Ending → Mem → Prop) (s_0a : Option Addr) (s_0l : Nat) (s_0c : Nat) (f_1 : Value) (x7 : Int) (x8 : Int) (ρ : Env) (m : Mem) : l1B  K1 s_0a s_0l s_0c f_1 x7 x8 R m = acpt P od (panicR R) (l1A  K1 R) (thenQ (l1E K1) (blockQ 0 (thenQ (acpt P od (panicR R) (.code (sR (sR (body)))) (bodyQ P fn R)) (bodyQ P fn R)))) (upd (upd (upd (upd ρ 8 (.int .i64 x8)) 7 (.int .i64 x7)) 1 (f_1)) 0 (.slice s_0a s_0l s_0c)) m := by kernel_rfl
theorem l1_er  (K1 : Option Addr → Nat → Nat → Value → Int → Int → Mem → Prop) (R : Ending → Mem → Prop) : (l1A  K1 R).erase = lP (bB (sR (sL (sR (body))))) := by kernel_rfl
theorem l1_ok  (R : Ending → Mem → Prop) (ρ : Env) (m : Mem) (h : (l1E fun s_0a s_0l s_0c f_1 x7 x8 m => l1  s_0a s_0l s_0c f_1 x7 x8 R m) ρ m) : cpt P od (panicR R) (.loop (lP (bB (sR (sL (sR (body))))))) (blockQ 0 (thenQ (acpt P od (panicR R) (.code (sR (sR (body)))) (bodyQ P fn R)) (bodyQ P fn R))) ρ m := by
  unfold l1E at h
  obtain ⟨s_0a, s_0l, s_0c, e0, h⟩ := h.ex
  generalize e1 : ρ 1 = f_1 at h
  try dsimp only at h
  obtain ⟨x7, e7, h⟩ := h.ex
  obtain ⟨x8, e8, h⟩ := h.ex
  obtain ⟨I, N, h0, hs⟩ := h
  refine ⟨fun N => l1E (I N), N, (by show l1E (I N) ρ m; unfold l1E; rw [e0, e1, e7, e8]; exact h0), ?_⟩
  clear h0 e0 e1 e7 e8
  intro N ρ m h
  unfold l1E at h
  obtain ⟨s_0a, s_0l, s_0c, e0, h⟩ := h.ex
  generalize e1 : ρ 1 = f_1 at h
  try dsimp only at h
  obtain ⟨x7, e7, h⟩ := h.ex
  obtain ⟨x8, e8, h⟩ := h.ex
  refine cpt_mono (P := P) (lP (bB (sR (sL (sR (body)))))) (Q := thenQ (l1E fun s_0a s_0l s_0c f_1 x7 x8 m => ∃ N1, N1 < N ∧ I N1 s_0a s_0l s_0c f_1 x7 x8 m) (blockQ 0 (thenQ (acpt P od (panicR R) (.code (sR (sR (body)))) (bodyQ P fn R)) (bodyQ P fn R)))) (fun e ρ m h => ?_) ρ m ?_
  · cases e with
    | normal =>
      have h : l1E (fun s_0a s_0l s_0c f_1 x7 x8 m => ∃ N1, N1 < N ∧ I N1 s_0a s_0l s_0c f_1 x7 x8 m) ρ m := h
      unfold l1E at h
      obtain ⟨s_0a, s_0l, s_0c, e0, h⟩ := h.ex
      generalize e1 : ρ 1 = f_1 at h
      try dsimp only at h
      obtain ⟨x7, e7, h⟩ := h.ex
      obtain ⟨x8, e8, h⟩ := h.ex
      obtain ⟨N1, hlt, h⟩ := h
      exact ⟨N1, hlt, (by show l1E (I N1) ρ m; unfold l1E; rw [e0, e1, e7, e8]; exact h)⟩
    | _ => exact h
  have hh := hs N s_0a s_0l s_0c f_1 x7 x8 m h
  generalize (fun s_0a s_0l s_0c f_1 x7 x8 m => ∃ N1, N1 < N ∧ I N1 s_0a s_0l s_0c f_1 x7 x8 m : Option Addr → Nat → Nat → Value → Int → Int → Mem → Prop) = K1 at hh ⊢
  rw [← upd_self e0, ← upd_self e1, ← upd_self e7, ← upd_self e8]
  rw [← l1_er  K1 R]
  refine acpt_sound (P := P) (l1A  K1 R) _ _ _ True.intro ?_
  exact Eq.mp (l1_eq  K1 R s_0a s_0l s_0c f_1 x7 x8 ρ m) hh
theorem e0_eq (s_0a : Option Addr) (s_0l : Nat) (s_0c : Nat) (f_1 : Value) (R : Ending → Mem → Prop) (m : Mem) : e0 s_0a s_0l s_0c f_1 R m = acpt P od (panicR R) (e0A R) (bodyQ P fn R) (argE (#[.slice s_0a s_0l s_0c, f_1] : Array Value).toList) m := by kernel_rfl
theorem ok (s_0a : Option Addr) (s_0l : Nat) (s_0c : Nat) (f_1 : Value) (R : Ending → Mem → Prop) (m : Mem) (h : e0 s_0a s_0l s_0c f_1 R m) : HC P id #[.slice s_0a s_0l s_0c, f_1] m R := by
  refine HC_of (fn := fn) (c := body) (od := od) (tb := tb) Go.Proofs.Try.func50 (by kernel_rfl) (by kernel_rfl) follows (by kernel_rfl) (of_decide_eq_true (by kernel_rfl)) ?_
  have he : (e0A R).erase = body := by kernel_rfl
  rw [← he]
  refine acpt_sound (P := P) (e0A R) _ _ _ ⟨⟨True.intro, ⟨(fun ρ m h => l1_ok  R ρ m h), True.intro⟩⟩, True.intro⟩ ?_
  exact Eq.mp (e0_eq s_0a s_0l s_0c f_1 R m) h
end slices_IndexFunc_s_lru_entry_s_byte_lru_entry_s_byte

/-! ### (*eyot/lru.Cache[[]byte]).at$1 -/
namespace lru_Cache_s_byte_at_1
noncomputable def fn : Func := Go.Proofs.Try.f51
noncomputable def body : Code := fn.body.getD .skip
def od : Nat → Ord := fun _ => .done
def tb : Nat → Tab := fun _ => (0, [], [])
def e0 (e_0_0 : Int) (e_0_1a : Option Addr) (e_0_1l : Nat) (e_0_1c : Nat) (c0b : Nat) (c0o : Nat) (R : Ending → Mem → Prop) (m : Mem) : Prop :=
  NewC m #[.int .i64 e_0_0, .slice e_0_1a e_0_1l e_0_1c] T_lru_entry_byte fun b_e_2 m1 =>
  LdV m1 b_e_2 0 fun v =>
  UnI v .i64 fun x5 =>
  LdV m1 c0b c0o fun v =>
  UnI v .i64 fun x6 =>
  R (.returned (.bool (x5 == x6))) m1
noncomputable def e0A (R : Ending → Mem → Prop) : ACode := (.code (body))
theorem e0_eq (e_0_0 : Int) (e_0_1a : Option Addr) (e_0_1l : Nat) (e_0_1c : Nat) (c0b : Nat) (c0o : Nat) (R : Ending → Mem → Prop) (m : Mem) : e0 e_0_0 e_0_1a e_0_1l e_0_1c c0b c0o R m = acpt P od (panicR R) (e0A R) (bodyQ P fn R) (argE (#[.agg #[.int .i64 e_0_0, .slice e_0_1a e_0_1l e_0_1c], .pointer (some ⟨c0b, c0o, none⟩)] : Array Value).toList) m := by kernel_rfl
theorem ok (e_0_0 : Int) (e_0_1a : Option Addr) (e_0_1l : Nat) (e_0_1c : Nat) (c0b : Nat) (c0o : Nat) (R : Ending → Mem → Prop) (m : Mem) (h : e0 e_0_0 e_0_1a e_0_1l e_0_1c c0b c0o R m) : HC P id #[.agg #[.int .i64 e_0_0, .slice e_0_1a e_0_1l e_0_1c], .pointer (some ⟨c0b, c0o, none⟩)] m R := by
  refine HC_of (fn := fn) (c := body) (od := od) (tb := tb) Go.Proofs.Try.func51 (by kernel_rfl) (by kernel_rfl) follows (by kernel_rfl) (of_decide_eq_true (by kernel_rfl)) ?_
  have he : (e0A R).erase = body := by kernel_rfl
  rw [← he]
  refine acpt_sound (P := P) (e0A R) _ _ _ True.intro ?_
  exact Eq.mp (e0_eq e_0_0 e_0_1a e_0_1l e_0_1c c0b c0o R m) h
end lru_Cache_s_byte_at_1

/-! ### slices.Insert[[]eyot/lru.entry[[]byte],eyot/lru.entry[[]byte]] -/
namespace slices_Insert_s_lru_entry_s_byte_lru_entry_s_byte
noncomputable def fn : Func := Go.Proofs.Try.f52
noncomputable def body : Code := fn.body.getD .skip
def od : Nat → Ord := fun | 11 => ordL [(0, 3), (1, 3), (2, 3), (3, 3), (4, 3), (5, 3), (6, 3), (7, 3), (8, 2)] .done | 15 => ordL [(0, 3), (1, 3), (2, 3), (3, 3), (4, 3), (5, 3), (6, 3), (7, 3), (8, 2)] .done | _ => .done
def tb : Nat → Tab := fun | 11 => (256, [0, 0, 0, 6, 15, 0, 0, 96, 255], [(0, 512, 47), (0, 2, 48), (0, 128, 49), (6, 422212465065984, 50), (9, 633318697598976, 51), (0, 1, 52), (0, 2, 53), (96, 6755399441055744, 54), (144, 10133099161583616, 55)]) | 15 => (256, [0, 0, 0, 6, 15, 0, 0, 96, 255], [(0, 1, 70), (0, 2, 71), (0, 128, 72), (6, 3541774862152233910272, 73), (9, 5312662293228350865408, 74), (0, 1, 75), (0, 2, 76), (96, 56668397794435742564352, 77), (144, 85002596691653613846528, 78)]) | _ => (0, [], [])
def e0 (a0a : Option Addr) (a0l : Nat) (a0c : Nat) (a1 : Int) (a2a : Option Addr) (a2l : Nat) (a2c : Nat) (R : Ending → Mem → Prop) (m : Mem) : Prop :=
  SlS a0a a0c a1 a0l 2 fun x12a x12l x12c =>
  Br (((a2l : Nat) : Int) == 0) (
    R (.returned (.slice a0a a0l a0c)) m) (
    Br (a1 == ((a0l : Nat) : Int)) (
      BiN P .append #[T_sl_lru_entry_byte, T_sl_lru_entry_byte] T_sl_lru_entry_byte #[false, false] #[.slice a0a a0l a0c, .slice a2a a2l a2c] m (fun w m1 =>
        UnS w fun x25a x25l x25c =>
        R (.returned (.slice x25a x25l x25c)) m1) (panicR R)) (
      Br (decide ((IntKind.i64.wrap (((a0l : Nat) : Int) + ((a2l : Nat) : Int))) > ((a0c : Nat) : Int))) (
        SlS a0a a0c 0 a1 2 fun x34a x34l x34c =>
        BiN P .append #[T_sl_lru_entry_byte, T_int] T_sl_lru_entry_byte #[false, false] #[.slice x34a x34l x34c, .int .i64 (IntKind.i64.wrap ((IntKind.i64.wrap (((a0l : Nat) : Int) + ((a2l : Nat) : Int))) - a1))] m (fun w m1 =>
          UnS w fun x40a x40l x40c =>
          SlS x40a x40c a1 x40l 2 fun x43a x43l x43c =>
          BiN P .copy #[T_sl_lru_entry_byte, T_sl_lru_entry_byte] T_int #[false, false] #[.slice x43a x43l x43c, .slice a2a a2l a2c] m1 (fun w m2 =>
            UnI w .i64 fun x45 =>
            Sub m2 fun r3 =>
            SlS x40a x40c (IntKind.i64.wrap (a1 + ((a2l : Nat) : Int))) x40l 2 fun x50a x50l x50c =>
            SlS a0a a0c a1 a0l 2 fun x53a x53l x53c =>
            BiN P .copy #[T_sl_lru_entry_byte, T_sl_lru_entry_byte] T_int #[false, false] #[.slice x50a x50l x50c, .slice x53a x53l x53c] m2 (fun w m4 =>
              UnI w .i64 fun x54 =>
              R (.returned (.slice x40a x40l x40c)) m4) (panicR R)) (panicR R)) (panicR R)) (
        SlS a0a a0c 0 (IntKind.i64.wrap (((a0l : Nat) : Int) + ((a2l : Nat) : Int))) 2 fun x60a x60l x60c =>
        SlS x60a x60c (IntKind.i64.wrap (a1 + ((a2l : Nat) : Int))) x60l 2 fun x66a x66l x66c =>
        HC P slices_overlaps_lru_entry_s_byte.id #[.slice a2a a2l a2c, .slice x66a x66l x66c] m (Cont (fun v m1 =>
            UnB v fun x67 =>
            Br (!x67) (
              Sub m1 fun r2 =>
              SlS x60a x60c (IntKind.i64.wrap (a1 + ((a2l : Nat) : Int))) x60l 2 fun x73a x73l x73c =>
              SlS x60a x60c a1 x60l 2 fun x76a x76l x76c =>
              BiN P .copy #[T_sl_lru_entry_byte, T_sl_lru_entry_byte] T_int #[false, false] #[.slice x73a x73l x73c, .slice x76a x76l x76c] m1 (fun w m3 =>
                UnI w .i64 fun x77 =>
                SlS x60a x60c a1 x60l 2 fun x80a x80l x80c =>
                BiN P .copy #[T_sl_lru_entry_byte, T_sl_lru_entry_byte] T_int #[false, false] #[.slice x80a x80l x80c, .slice a2a a2l a2c] m3 (fun w m4 =>
                  UnI w .i64 fun x82 =>
                  R (.returned (.slice x60a x60l x60c)) m4) (panicR R)) (panicR R)) (
              SlS x60a x60c ((a0l : Nat) : Int) x60l 2 fun x86a x86l x86c =>
              BiN P .copy #[T_sl_lru_entry_byte, T_sl_lru_entry_byte] T_int #[false, false] #[.slice x86a x86l x86c, .slice a2a a2l a2c] m1 (fun w m2 =>
                UnI w .i64 fun x88 =>
                SlS x60a x60c a1 x60l 2 fun x91a x91l x91c =>
                HC P slices_rotateRight_lru_entry_s_byte.id #[.slice x91a x91l x91c, .int .i64 ((a2l : Nat) : Int)] m2 (Cont (fun v m3 =>
                    UnTup v fun us0 =>
                    UnNil us0 (
                      R (.returned (.slice x60a x60l x60c)) m3)) (panicR R))) (panicR R))) (panicR R)))))
noncomputable def e0A (R : Ending → Mem → Prop) : ACode := (.code (body))
theorem e0_eq (a0a : Option Addr) (a0l : Nat) (a0c : Nat) (a1 : Int) (a2a : Option Addr) (a2l : Nat) (a2c : Nat) (R : Ending → Mem → Prop) (m : Mem) : e0 a0a a0l a0c a1 a2a a2l a2c R m = acpt P od (panicR R) (e0A R) (bodyQ P fn R) (argE (#[.slice a0a a0l a0c, .int .i64 a1, .slice a2a a2l a2c] : Array Value).toList) m := by kernel_rfl
theorem ok (a0a : Option Addr) (a0l : Nat) (a0c : Nat) (a1 : Int) (a2a : Option Addr) (a2l : Nat) (a2c : Nat) (R : Ending → Mem → Prop) (m : Mem) (h : e0 a0a a0l a0c a1 a2a a2l a2c R m) : HC P id #[.slice a0a a0l a0c, .int .i64 a1, .slice a2a a2l a2c] m R := by
  refine HC_of (fn := fn) (c := body) (od := od) (tb := tb) Go.Proofs.Try.func52 (by kernel_rfl) (by kernel_rfl) follows (by kernel_rfl) (of_decide_eq_true (by kernel_rfl)) ?_
  have he : (e0A R).erase = body := by kernel_rfl
  rw [← he]
  refine acpt_sound (P := P) (e0A R) _ _ _ True.intro ?_
  exact Eq.mp (e0_eq a0a a0l a0c a1 a2a a2l a2c R m) h
end slices_Insert_s_lru_entry_s_byte_lru_entry_s_byte

/-! ### slices.rotateRight[eyot/lru.entry[[]byte]] -/
namespace slices_rotateRight_lru_entry_s_byte
noncomputable def fn : Func := Go.Proofs.Try.f54
noncomputable def body : Code := fn.body.getD .skip
def od : Nat → Ord := fun _ => .done
def tb : Nat → Tab := fun _ => (0, [], [])
def e0 (s_0a : Option Addr) (s_0l : Nat) (s_0c : Nat) (r_1 : Int) (R : Ending → Mem → Prop) (m : Mem) : Prop :=
  HC P slices_rotateLeft_lru_entry_s_byte.id #[.slice s_0a s_0l s_0c, .int .i64 (IntKind.i64.wrap (((s_0l : Nat) : Int) - r_1))] m (Cont (fun v m1 =>
      UnTup v fun us0 =>
      UnNil us0 (
        R (.returned (.tuple #[])) m1)) (panicR R))
noncomputable def e0A (R : Ending → Mem → Prop) : ACode := (.code (body))
theorem e0_eq (s_0a : Option Addr) (s_0l : Nat) (s_0c : Nat) (r_1 : Int) (R : Ending → Mem → Prop) (m : Mem) : e0 s_0a s_0l s_0c r_1 R m = acpt P od (panicR R) (e0A R) (bodyQ P fn R) (argE (#[.slice s_0a s_0l s_0c, .int .i64 r_1] : Array Value).toList) m := by kernel_rfl
theorem ok (s_0a : Option Addr) (s_0l : Nat) (s_0c : Nat) (r_1 : Int) (R : Ending → Mem → Prop) (m : Mem) (h : e0 s_0a s_0l s_0c r_1 R m) : HC P id #[.slice s_0a s_0l s_0c, .int .i64 r_1] m R := by
  refine HC_of (fn := fn) (c := body) (od := od) (tb := tb) Go.Proofs.Try.func54 (by kernel_rfl) (by kernel_rfl) follows (by kernel_rfl) (of_decide_eq_true (by kernel_rfl)) ?_
  have he : (e0A R).erase = body := by kernel_rfl
  rw [← he]
  refine acpt_sound (P := P) (e0A R) _ _ _ True.intro ?_
  exact Eq.mp (e0_eq s_0a s_0l s_0c r_1 R m) h
end slices_rotateRight_lru_entry_s_byte

/-! ### slices.rotateLeft[eyot/lru.entry[[]byte]] -/
namespace slices_rotateLeft_lru_entry_s_byte
noncomputable def fn : Func := Go.Proofs.Try.f55
noncomputable def body : Code := fn.body.getD .skip
def od : Nat → Ord := fun _ => .done
def tb : Nat → Tab := fun _ => (0, [], [])
def e0 (s_0a : Option Addr) (s_0l : Nat) (s_0c : Nat) (r_1 : Int) (R : Ending → Mem → Prop) (m : Mem) : Prop :=
  SlS s_0a s_0c 0 r_1 2 fun x6a x6l x6c =>
  HC P slices_Reverse_s_lru_entry_s_byte_lru_entry_s_byte.id #[.slice x6a x6l x6c] m (Cont (fun v m1 =>
      UnTup v fun us0 =>
      UnNil us0 (
        SlS s_0a s_0c r_1 s_0l 2 fun x10a x10l x10c =>
        HC P slices_Reverse_s_lru_entry_s_byte_lru_entry_s_byte.id #[.slice x10a x10l x10c] m1 (Cont (fun v m2 =>
            UnTup v fun us0 =>
            UnNil us0 (
              HC P slices_Reverse_s_lru_entry_s_byte_lru_entry_s_byte.id #[.slice s_0a s_0l s_0c] m2 (Cont (fun v m3 =>
                  UnTup v fun us0 =>
                  UnNil us0 (
                    R (.returned (.tuple #[])) m3)) (panicR R)))) (panicR R)))) (panicR R))
noncomputable def e0A (R : Ending → Mem → Prop) : ACode := (.code (body))
theorem e0_eq (s_0a : Option Addr) (s_0l : Nat) (s_0c : Nat) (r_1 : Int) (R : Ending → Mem → Prop) (m : Mem) : e0 s_0a s_0l s_0c r_1 R m = acpt P od (panicR R) (e0A R) (bodyQ P fn R) (argE (#[.slice s_0a s_0l s_0c, .int .i64 r_1] : Array Value).toList) m := by kernel_rfl
theorem ok (s_0a : Option Addr) (s_0l : Nat) (s_0c : Nat) (r_1 : Int) (R : Ending → Mem → Prop) (m : Mem) (h : e0 s_0a s_0l s_0c r_1 R m) : HC P id #[.slice s_0a s_0l s_0c, .int .i64 r_1] m R := by
  refine HC_of (fn := fn) (c := body) (od := od) (tb := tb) Go.Proofs.Try.func55 (by kernel_rfl) (by kernel_rfl) follows (by kernel_rfl) (of_decide_eq_true (by kernel_rfl)) ?_
  have he : (e0A R).erase = body := by kernel_rfl
  rw [← he]
  refine acpt_sound (P := P) (e0A R) _ _ _ True.intro ?_
  exact Eq.mp (e0_eq s_0a s_0l s_0c r_1 R m) h
end slices_rotateLeft_lru_entry_s_byte

/-! ### slices.Reverse[[]eyot/lru.entry[[]byte],eyot/lru.entry[[]byte]] -/
namespace slices_Reverse_s_lru_entry_s_byte_lru_entry_s_byte
noncomputable def fn : Func := Go.Proofs.Try.f56
noncomputable def body : Code := fn.body.getD .skip
def od : Nat → Ord := fun | 3 => ordL [(0, 3), (1, 3), (2, 3), (3, 3), (4, 3), (5, 3), (6, 3), (7, 1), (8, 3), (9, 3), (10, 3), (11, 0), (12, 3), (13, 2), (14, 3), (15, 2)] .done | _ => .done
def tb : Nat → Tab := fun | 3 => (40960, [0, 0, 0, 0, 0, 0, 48, 112, 0, 0, 768, 1792, 4083, 8179, 16383, 32767], [(0, 1, 15), (0, 4, 16), (0, 1, 17), (0, 8, 18), (0, 1, 19), (0, 8, 20), (48, 786432, 21), (64, 1048576, 22), (0, 1, 23), (0, 4, 24), (768, 12582912, 25), (1024, 16777216, 26), (2291, 49152, 27), (6387, 69206016, 0), (16383, 196608, 28), (32767, 167772160, 0)]) | _ => (0, [], [])
def l1E (K : Option Addr → Nat → Nat → Int → Int → Mem → Prop) : Env → Mem → Prop := fun ρ m => UnS (ρ 0) fun s_0a s_0l s_0c => UnI (ρ 2) .i64 fun i_2 => UnI (ρ 3) .i64 fun j_3 => K s_0a s_0l s_0c i_2 j_3 m
def l1B  (K1 : Option Addr → Nat → Nat → Int → Int → Mem → Prop) (s_0a : Option Addr) (s_0l : Nat) (s_0c : Nat) (i_2 : Int) (j_3 : Int) (R : Ending → Mem → Prop) (m : Mem) : Prop :=
  Br (decide (i_2 < j_3)) (
    Sub m fun r1 =>
    IxS s_0a s_0l j_3 2 fun x20b x20o =>
    LdV r1 x20b x20o fun v =>
    UnI v .i64 fun x21_0 =>
    LdV r1 x20b (x20o + 1) fun v =>
    UnS v fun x21_1a x21_1l x21_1c =>
    IxS s_0a s_0l i_2 2 fun x24b x24o =>
    LdV m x24b x24o fun v =>
    UnI v .i64 fun x25_0 =>
    LdV m x24b (x24o + 1) fun v =>
    UnS v fun x25_1a x25_1l x25_1c =>
    IxS s_0a s_0l i_2 2 fun x26b x26o =>
    St1 m x26b x26o (.int .i64 x21_0) fun m2 =>
    St1 m2 x26b (x26o + 1) (.slice x21_1a x21_1l x21_1c) fun m3 =>
    IxS s_0a s_0l j_3 2 fun x27b x27o =>
    St1 m3 x27b x27o (.int .i64 x25_0) fun m4 =>
    St1 m4 x27b (x27o + 1) (.slice x25_1a x25_1l x25_1c) fun m5 =>
    K1 s_0a s_0l s_0c (IntKind.i64.wrap (i_2 + 1)) (IntKind.i64.wrap (j_3 - 1)) m5) (
    R (.returned (.tuple #[])) m)
def l1  (s_0a : Option Addr) (s_0l : Nat) (s_0c : Nat) (i_2 : Int) (j_3 : Int) (R : Ending → Mem → Prop) (m : Mem) : Prop :=
  ∃ (I : Nat → Option Addr → Nat → Nat → Int → Int → Mem → Prop) (N : Nat), I N s_0a s_0l s_0c i_2 j_3 m ∧ ∀ N s_0a s_0l s_0c i_2 j_3 m, I N s_0a s_0l s_0c i_2 j_3 m → l1B  (fun s_0a s_0l s_0c i_2 j_3 m => ∃ N1, N1 < N ∧ I N1 s_0a s_0l s_0c i_2 j_3 m) s_0a s_0l s_0c i_2 j_3 R m
noncomputable def l1A  (K1 : Option Addr → Nat → Nat → Int → Int → Mem → Prop) (R : Ending → Mem → Prop) : ACode := (.code (lP (bB (sR (body)))))
def e0 (s_0a : Option Addr) (s_0l : Nat) (s_0c : Nat) (R : Ending → Mem → Prop) (m : Mem) : Prop :=
  l1  s_0a s_0l s_0c 0 (IntKind.i64.wrap (((s_0l : Nat) : Int) - 1)) R m
noncomputable def e0A (R : Ending → Mem → Prop) : ACode := (.seq (.code (sL (body))) (.block 0 (.cut (l1E fun s_0a s_0l s_0c i_2 j_3 m => l1  s_0a s_0l s_0c i_2 j_3 R m) (.loop (lP (bB (sR (body))))))))
theorem l1_eq  (K1 : Option Addr → Nat → Nat → Int → Int → Mem → Prop) (R : Ending → Mem → Prop) (s_0a : Option Addr) (s_0l : Nat) (s_0c : Nat) (i_2 : Int) (j_3 : Int) (ρ : Env) (m : Mem) : l1B  K1 s_0a s_0l s_0c i_2 j_3 R m = acpt P od (panicR R) (l1A  K1 R) (thenQ (l1E K1) (blockQ 0 (bodyQ P fn R))) (upd (upd (upd ρ 3 (.int .i64 j_3)) 2 (.int .i64 i_2)) 0 (.slice s_0a s_0l s_0c)) m := by kernel_rfl
theorem l1_er  (K1 : Option Addr → Nat → Nat → Int → Int → Mem → Prop) (R : Ending → Mem → Prop) : (l1A  K1 R).erase = lP (bB (sR (body))) := by kernel_rfl
theorem l1_ok  (R : Ending → Mem → Prop) (ρ : Env) (m : Mem) (h : (l1E fun s_0a s_0l s_0c i_2 j_3 m => l1  s_0a s_0l s_0c i_2 j_3 R m) ρ m) : cpt P od (panicR R) (.loop (lP (bB (sR (body))))) (blockQ 0 (bodyQ P fn R)) ρ m := by
  unfold l1E at h
  obtain ⟨s_0a, s_0l, s_0c, e0, h⟩ := h.ex
  obtain ⟨i_2, e2, h⟩ := h.ex
  obtain ⟨j_3, e3, h⟩ := h.ex
  obtain ⟨I, N, h0, hs⟩ := h
  refine ⟨fun N => l1E (I N), N, (by show l1E (I N) ρ m; unfold l1E; rw [e0, e2, e3]; exact h0), ?_⟩
  clear h0 e0 e2 e3
  intro N ρ m h
  unfold l1E at h
  obtain ⟨s_0a, s_0l, s_0c, e0, h⟩ := h.ex
  obtain ⟨i_2, e2, h⟩ := h.ex
  obtain ⟨j_3, e3, h⟩ := h.ex
  refine cpt_mono (P := P) (lP (bB (sR (body)))) (Q := thenQ (l1E fun s_0a s_0l s_0c i_2 j_3 m => ∃ N1, N1 < N ∧ I N1 s_0a s_0l s_0c i_2 j_3 m) (blockQ 0 (bodyQ P fn R))) (fun e ρ m h => ?_) ρ m ?_
  · cases e with
    | normal =>
      have h : l1E (fun s_0a s_0l s_0c i_2 j_3 m => ∃ N1, N1 < N ∧ I N1 s_0a s_0l s_0c i_2 j_3 m) ρ m := h
      unfold l1E at h
      obtain ⟨s_0a, s_0l, s_0c, e0, h⟩ := h.ex
      obtain ⟨i_2, e2, h⟩ := h.ex
      obtain ⟨j_3, e3, h⟩ := h.ex
      obtain ⟨N1, hlt, h⟩ := h
      exact ⟨N1, hlt, (by show l1E (I N1) ρ m; unfold l1E; rw [e0, e2, e3]; exact h)⟩
    | _ => exact h
  have hh := hs N s_0a s_0l s_0c i_2 j_3 m h
  generalize (fun s_0a s_0l s_0c i_2 j_3 m => ∃ N1, N1 < N ∧ I N1 s_0a s_0l s_0c i_2 j_3 m : Option Addr → Nat → Nat → Int → Int → Mem → Prop) = K1 at hh ⊢
  rw [← upd_self e0, ← upd_self e2, ← upd_self e3]
  rw [← l1_er  K1 R]
  refine acpt_sound (P := P) (l1A  K1 R) _ _ _ True.intro ?_
  exact Eq.mp (l1_eq  K1 R s_0a s_0l s_0c i_2 j_3 ρ m) hh
theorem e0_eq (s_0a : Option Addr) (s_0l : Nat) (s_0c : Nat) (R : Ending → Mem → Prop) (m : Mem) : e0 s_0a s_0l s_0c R m = acpt P od (panicR R) (e0A R) (bodyQ P fn R) (argE (#[.slice s_0a s_0l s_0c] : Array Value).toList) m := by kernel_rfl
theorem ok (s_0a : Option Addr) (s_0l : Nat) (s_0c : Nat) (R : Ending → Mem → Prop) (m : Mem) (h : e0 s_0a s_0l s_0c R m) : HC P id #[.slice s_0a s_0l s_0c] m R := by
  refine HC_of (fn := fn) (c := body) (od := od) (tb := tb) Go.Proofs.Try.func56 (by kernel_rfl) (by kernel_rfl) follows (by kernel_rfl) (of_decide_eq_true (by kernel_rfl)) ?_
  have he : (e0A R).erase = body := by kernel_rfl
  rw [← he]
  refine acpt_sound (P := P) (e0A R) _ _ _ ⟨(fun ρ m h => l1_ok  R ρ m h), True.intro⟩ ?_
  exact Eq.mp (e0_eq s_0a s_0l s_0c R m) h
end slices_Reverse_s_lru_entry_s_byte_lru_entry_s_byte

end
end Go.E
