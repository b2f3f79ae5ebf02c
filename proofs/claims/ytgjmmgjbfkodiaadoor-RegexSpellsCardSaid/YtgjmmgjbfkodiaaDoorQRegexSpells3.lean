/- This project's own logic, printed forms and lemmas, as far as this claim needs them (part 3). -/
import Derived.Test.YtgjmmgjbfkodiaaDoorQRegexSpells2
set_option linter.unusedVariables false
set_option maxRecDepth 100000
namespace Go.E
open Go.H
noncomputable section
/-! ### eyot/class.shown -/
namespace class_shown
noncomputable def fn : Func := Go.Proofs.Tryd.f58
noncomputable def body : Code := fn.body.getD .skip
def od : Nat → Ord := fun | 5 => ordL [(0, 3), (1, 1), (3, 3), (4, 1), (2, 0), (5, 2), (6, 3), (7, 3)] .done | 6 => ordL [(0, 3), (1, 1), (4, 3), (5, 1), (2, 0), (3, 3), (6, 2), (7, 3), (8, 3)] .done | _ => .done
def tb : Nat → Tab := fun | 5 => (32, [0, 1, 3, 0, 8, 31, 63, 127], [(0, 2, 16), (1, 32768, 17), (2, 65536, 18), (0, 2, 19), (8, 262144, 20), (20, 524288, 21), (36, 1179648, 22), (127, 2097152, 3)]) | 6 => (64, [0, 1, 3, 7, 0, 16, 55, 127, 255], [(0, 2, 23), (1, 4194304, 24), (2, 8388608, 25), (4, 16777216, 26), (0, 2, 27), (16, 67108864, 28), (36, 134217728, 29), (72, 301989888, 30), (255, 536870912, 3)]) | _ => (0, [], [])
def e0 (r_0_0 : Int) (r_0_1 : Int) (R : Ending → Mem → Prop) (m : Mem) : Prop :=
 NewC m #[.int .u8 r_0_0, .int .u8 r_0_1] T_arr2_uint8 fun b_r_1 m1 =>
 0 ≤ (1 : Int) ∧ (1 : Int) < (2 : Nat) ∧ (
  LdV m1 b_r_1 (0 + (1 : Int).toNat * 1) fun v =>
  UnI v .u8 fun x4 =>
  0 ≤ (0 : Int) ∧ (0 : Int) < (2 : Nat) ∧ (
   LdV m1 b_r_1 (0 + (0 : Int).toNat * 1) fun v =>
   UnI v .u8 fun x6 =>
   Br ((IntKind.u8.wrap (x4 - x6)) == 0) (
    0 ≤ (0 : Int) ∧ (0 : Int) < (2 : Nat) ∧ (
     LdV m1 b_r_1 (0 + (0 : Int).toNat * 1) fun v =>
     UnI v .u8 fun x11 =>
     HC P class_sign.id #[.int .u8 x11] m1 (Cont (fun v m2 =>
       UnStr v fun x12 =>
       R (.returned (.string x12)) m2) (panicR R)))) (
    Br ((IntKind.u8.wrap (x4 - x6)) == 1) (
     Sub m1 fun r2 =>
     0 ≤ (0 : Int) ∧ (0 : Int) < (2 : Nat) ∧ (
      LdV r2 b_r_1 (0 + (0 : Int).toNat * 1) fun v =>
      UnI v .u8 fun x16 =>
      0 ≤ (1 : Int) ∧ (1 : Int) < (2 : Nat) ∧ (
       LdV r2 b_r_1 (0 + (1 : Int).toNat * 1) fun v =>
       UnI v .u8 fun x19 =>
       HC P class_sign.id #[.int .u8 x16] m1 (Cont (fun v m3 =>
        UnStr v fun x17 =>
        Lk r2 m3 fun r4 =>
        HC P class_sign.id #[.int .u8 x19] m3 (Cont (fun v m5 =>
        UnStr v fun x20 =>
        CatB x17 x20 (
        R (.returned (.string (x17 ++ x20))) m5)) (panicR R))) (panicR R))))) (
     Sub m1 fun r2 =>
     0 ≤ (0 : Int) ∧ (0 : Int) < (2 : Nat) ∧ (
      LdV r2 b_r_1 (0 + (0 : Int).toNat * 1) fun v =>
      UnI v .u8 fun x23 =>
      0 ≤ (1 : Int) ∧ (1 : Int) < (2 : Nat) ∧ (
       LdV r2 b_r_1 (0 + (1 : Int).toNat * 1) fun v =>
       UnI v .u8 fun x27 =>
       HC P class_sign.id #[.int .u8 x23] m1 (Cont (fun v m3 =>
        UnStr v fun x24 =>
        Lk r2 m3 fun r4 =>
        CatB x24 (ByteArray.mk #[45]) (
        HC P class_sign.id #[.int .u8 x27] m3 (Cont (fun v m5 =>
        UnStr v fun x28 =>
        CatB (x24 ++ (ByteArray.mk #[45])) x28 (
        R (.returned (.string ((x24 ++ (ByteArray.mk #[45])) ++ x28))) m5)) (panicR R)))) (panicR R))))))))
noncomputable def e0A (R : Ending → Mem → Prop) : ACode := (.code (body))
theorem e0_eq (r_0_0 : Int) (r_0_1 : Int) (R : Ending → Mem → Prop) (m : Mem) : e0 r_0_0 r_0_1 R m = acpt P od (panicR R) (e0A R) (bodyQ P fn R) (argE (#[.agg #[.int .u8 r_0_0, .int .u8 r_0_1]] : Array Value).toList) m := by kernel_rfl
theorem ok (r_0_0 : Int) (r_0_1 : Int) (R : Ending → Mem → Prop) (m : Mem) (h : e0 r_0_0 r_0_1 R m) : HC P id #[.agg #[.int .u8 r_0_0, .int .u8 r_0_1]] m R := by
  refine HC_of (fn := fn) (c := body) (od := od) (tb := tb) Go.Proofs.Tryd.func58 (by kernel_rfl) (by kernel_rfl) follows (by kernel_rfl) (of_decide_eq_true (by kernel_rfl)) ?_
  have he : (e0A R).erase = body := by kernel_rfl
  rw [← he]
  refine acpt_sound (P := P) (e0A R) _ _ _ True.intro ?_
  exact Eq.mp (e0_eq r_0_0 r_0_1 R m) h
end class_shown
/-! ### eyot/class.Has -/
namespace class_Has
noncomputable def fn : Func := Go.Proofs.Tryd.f64
noncomputable def body : Code := fn.body.getD .skip
def od : Nat → Ord := fun _ => .done
def tb : Nat → Tab := fun _ => (0, [], [])
def e0 (s_0_0 : Int) (s_0_1 : Int) (s_0_2 : Int) (s_0_3 : Int) (b_1 : Int) (R : Ending → Mem → Prop) (m : Mem) : Prop :=
 NewC m #[.int .u64 s_0_0, .int .u64 s_0_1, .int .u64 s_0_2, .int .u64 s_0_3] T_api_Set fun b_s_2 m1 =>
 0 ≤ (IntKind.u8.wrap (Int.tdiv b_1 64) : Int) ∧ (IntKind.u8.wrap (Int.tdiv b_1 64) : Int) < (4 : Nat) ∧ (
  LdV m1 b_s_2 (0 + (IntKind.u8.wrap (Int.tdiv b_1 64) : Int).toNat * 1) fun v =>
  UnI v .u64 fun x8 =>
  NnI (Int.tmod b_1 64) (
   R (.returned (.bool ((bitsV .and .u64 (shrV .u64 x8 (Int.tmod b_1 64)) 1) == 1))) m1))
noncomputable def e0A (R : Ending → Mem → Prop) : ACode := (.code (body))
theorem e0_eq (s_0_0 : Int) (s_0_1 : Int) (s_0_2 : Int) (s_0_3 : Int) (b_1 : Int) (R : Ending → Mem → Prop) (m : Mem) : e0 s_0_0 s_0_1 s_0_2 s_0_3 b_1 R m = acpt P od (panicR R) (e0A R) (bodyQ P fn R) (argE (#[.agg #[.int .u64 s_0_0, .int .u64 s_0_1, .int .u64 s_0_2, .int .u64 s_0_3], .int .u8 b_1] : Array Value).toList) m := by kernel_rfl
theorem ok (s_0_0 : Int) (s_0_1 : Int) (s_0_2 : Int) (s_0_3 : Int) (b_1 : Int) (R : Ending → Mem → Prop) (m : Mem) (h : e0 s_0_0 s_0_1 s_0_2 s_0_3 b_1 R m) : HC P id #[.agg #[.int .u64 s_0_0, .int .u64 s_0_1, .int .u64 s_0_2, .int .u64 s_0_3], .int .u8 b_1] m R := by
  refine HC_of (fn := fn) (c := body) (od := od) (tb := tb) Go.Proofs.Tryd.func64 (by kernel_rfl) (by kernel_rfl) follows (by kernel_rfl) (of_decide_eq_true (by kernel_rfl)) ?_
  have he : (e0A R).erase = body := by kernel_rfl
  rw [← he]
  refine acpt_sound (P := P) (e0A R) _ _ _ True.intro ?_
  exact Eq.mp (e0_eq s_0_0 s_0_1 s_0_2 s_0_3 b_1 R m) h
end class_Has
/-! ### eyot/regex.join -/
namespace regex_join
noncomputable def fn : Func := Go.Proofs.Tryd.f65
noncomputable def body : Code := fn.body.getD .skip
def od : Nat → Ord := fun _ => .done
def tb : Nat → Tab := fun _ => (0, [], [])
def k2E (K : Option Addr → Nat → Nat → Bool → Int → Bool → Option Addr → Nat → Nat → Int → Int → Mem → Prop) : Env → Mem → Prop := fun ρ m => UnS (ρ 0) fun to_0a to_0l to_0c => UnB (ρ 5) fun turned_5 => UnI (ρ 6) .i64 fun i_6 => UnB (ρ 7) fun is_7 => UnS (ρ 8) fun x8a x8l x8c => UnI (ρ 9) .i64 fun x9 => UnI (ρ 10) .i64 fun x10 => K to_0a to_0l to_0c turned_5 i_6 is_7 x8a x8l x8c x9 x10 m
def k2 (K1 : Option Addr → Nat → Nat → Bool → Option Addr → Nat → Nat → Int → Int → Mem → Prop) (to_0a : Option Addr) (to_0l : Nat) (to_0c : Nat) (turned_5 : Bool) (i_6 : Int) (is_7 : Bool) (x8a : Option Addr) (x8l : Nat) (x8c : Nat) (x9 : Int) (x10 : Int) (R : Ending → Mem → Prop) (m : Mem) : Prop :=
 IxS to_0a to_0l i_6 1 fun x30b x30o =>
 LdV m x30b x30o fun v =>
 UnB v fun x31 =>
 Br x31 (
  IxS to_0a to_0l i_6 1 fun x35b x35o =>
  St1 m x35b x35o (.bool true) fun m1 =>
  K1 to_0a to_0l to_0c turned_5 x8a x8l x8c x9 (IntKind.i64.wrap (x10 + 1)) m1) (
  IxS to_0a to_0l i_6 1 fun x35b x35o =>
  St1 m x35b x35o (.bool is_7) fun m1 =>
  K1 to_0a to_0l to_0c turned_5 x8a x8l x8c x9 (IntKind.i64.wrap (x10 + 1)) m1)
noncomputable def k2A (K1 : Option Addr → Nat → Nat → Bool → Option Addr → Nat → Nat → Int → Int → Mem → Prop) (R : Ending → Mem → Prop) : ACode := (.code (sR (sR (bB (sL (sR (sR (lP (bB (sR (sL (sR (sR (body))))))))))))))
def l1E (K : Option Addr → Nat → Nat → Bool → Option Addr → Nat → Nat → Int → Int → Mem → Prop) : Env → Mem → Prop := fun ρ m => UnS (ρ 0) fun to_0a to_0l to_0c => UnB (ρ 5) fun turned_5 => UnS (ρ 8) fun x8a x8l x8c => UnI (ρ 9) .i64 fun x9 => UnI (ρ 10) .i64 fun x10 => K to_0a to_0l to_0c turned_5 x8a x8l x8c x9 x10 m
def l1B  (K1 : Option Addr → Nat → Nat → Bool → Option Addr → Nat → Nat → Int → Int → Mem → Prop) (to_0a : Option Addr) (to_0l : Nat) (to_0c : Nat) (turned_5 : Bool) (x8a : Option Addr) (x8l : Nat) (x8c : Nat) (x9 : Int) (x10 : Int) (R : Ending → Mem → Prop) (m : Mem) : Prop :=
 Br (decide (x10 < x9)) (
  IxS x8a x8l x10 1 fun x13b x13o =>
  LdV m x13b x13o fun v =>
  UnB v fun x14 =>
  Br turned_5 (
   k2 K1 to_0a to_0l to_0c true x10 x14 x8a x8l x8c x9 x10 R m) (
   Br x14 (
    IxS to_0a to_0l x10 1 fun x21b x21o =>
    LdV m x21b x21o fun v =>
    UnB v fun x22 =>
    k2 K1 to_0a to_0l to_0c (!x22) x10 x14 x8a x8l x8c x9 x10 R m) (
    k2 K1 to_0a to_0l to_0c false x10 x14 x8a x8l x8c x9 x10 R m))) (
  R (.returned (.bool turned_5)) m)
def l1  (to_0a : Option Addr) (to_0l : Nat) (to_0c : Nat) (turned_5 : Bool) (x8a : Option Addr) (x8l : Nat) (x8c : Nat) (x9 : Int) (x10 : Int) (R : Ending → Mem → Prop) (m : Mem) : Prop :=
  ∃ (I : Nat → Option Addr → Nat → Nat → Bool → Option Addr → Nat → Nat → Int → Int → Mem → Prop) (N : Nat), I N to_0a to_0l to_0c turned_5 x8a x8l x8c x9 x10 m ∧ ∀ N to_0a to_0l to_0c turned_5 x8a x8l x8c x9 x10 m, I N to_0a to_0l to_0c turned_5 x8a x8l x8c x9 x10 m → l1B  (fun to_0a to_0l to_0c turned_5 x8a x8l x8c x9 x10 m => ∃ N1, N1 < N ∧ I N1 to_0a to_0l to_0c turned_5 x8a x8l x8c x9 x10 m) to_0a to_0l to_0c turned_5 x8a x8l x8c x9 x10 R m
noncomputable def l1A  (K1 : Option Addr → Nat → Nat → Bool → Option Addr → Nat → Nat → Int → Int → Mem → Prop) (R : Ending → Mem → Prop) : ACode := (.seq (.code (sL (lP (bB (sR (sL (sR (sR (body))))))))) (.seq (.code (sL (sR (lP (bB (sR (sL (sR (sR (body)))))))))) (.seq (.block 1 (.seq (.code (sL (bB (sL (sR (sR (lP (bB (sR (sL (sR (sR (body))))))))))))) (.seq (.code (sL (sR (bB (sL (sR (sR (lP (bB (sR (sL (sR (sR (body)))))))))))))) (.cut (k2E fun to_0a to_0l to_0c turned_5 i_6 is_7 x8a x8l x8c x9 x10 m => k2 K1 to_0a to_0l to_0c turned_5 i_6 is_7 x8a x8l x8c x9 x10 R m) (sR (sR (bB (sL (sR (sR (lP (bB (sR (sL (sR (sR (body))))))))))))))))) (.code (sR (sR (sR (lP (bB (sR (sL (sR (sR (body))))))))))))))
def e0 (to_0a : Option Addr) (to_0l : Nat) (to_0c : Nat) (l_1a : Option Addr) (l_1l : Nat) (l_1c : Nat) (R : Ending → Mem → Prop) (m : Mem) : Prop :=
 l1  to_0a to_0l to_0c false l_1a l_1l l_1c ((l_1l : Nat) : Int) 0 R m
noncomputable def e0A (R : Ending → Mem → Prop) : ACode := (.seq (.code (sL (body))) (.seq (.code (sL (sR (body)))) (.seq (.seq (.code (sL (sL (sR (sR (body)))))) (.block 0 (.cut (l1E fun to_0a to_0l to_0c turned_5 x8a x8l x8c x9 x10 m => l1  to_0a to_0l to_0c turned_5 x8a x8l x8c x9 x10 R m) (.loop (lP (bB (sR (sL (sR (sR (body))))))))))) (.code (sR (sR (sR (body))))))))
abbrev l1Q  (R : Ending → Mem → Prop) : Exit → Env → Mem → Prop := (blockQ 0 (thenQ (acpt P od (panicR R) (.code (sR (sR (sR (body))))) (bodyQ P fn R)) (bodyQ P fn R)))
abbrev k2Q (K1 : Option Addr → Nat → Nat → Bool → Option Addr → Nat → Nat → Int → Int → Mem → Prop) (R : Ending → Mem → Prop) : Exit → Env → Mem → Prop := (blockQ 1 (thenQ (acpt P od (panicR R) (.code (sR (sR (sR (lP (bB (sR (sL (sR (sR (body))))))))))) (thenQ (l1E K1) (l1Q  R))) (thenQ (l1E K1) (l1Q  R))))
theorem k2_eq (K1 : Option Addr → Nat → Nat → Bool → Option Addr → Nat → Nat → Int → Int → Mem → Prop) (R : Ending → Mem → Prop) (to_0a : Option Addr) (to_0l : Nat) (to_0c : Nat) (turned_5 : Bool) (i_6 : Int) (is_7 : Bool) (x8a : Option Addr) (x8l : Nat) (x8c : Nat) (x9 : Int) (x10 : Int) (ρ : Env) (m : Mem) : k2 K1 to_0a to_0l to_0c turned_5 i_6 is_7 x8a x8l x8c x9 x10 R m = acpt P od (panicR R) (k2A K1 R) (k2Q K1 R) (upd (upd (upd (upd (upd (upd (upd ρ 10 (.int .i64 x10)) 9 (.int .i64 x9)) 8 (.slice x8a x8l x8c)) 7 (.bool is_7)) 6 (.int .i64 i_6)) 5 (.bool turned_5)) 0 (.slice to_0a to_0l to_0c)) m := by kernel_rfl
theorem k2_er (K1 : Option Addr → Nat → Nat → Bool → Option Addr → Nat → Nat → Int → Int → Mem → Prop) (R : Ending → Mem → Prop) : (k2A K1 R).erase = sR (sR (bB (sL (sR (sR (lP (bB (sR (sL (sR (sR (body)))))))))))) := by kernel_rfl
theorem k2_ok (K1 : Option Addr → Nat → Nat → Bool → Option Addr → Nat → Nat → Int → Int → Mem → Prop) (R : Ending → Mem → Prop) (ρ : Env) (m : Mem) (h : (k2E fun to_0a to_0l to_0c turned_5 i_6 is_7 x8a x8l x8c x9 x10 m => k2 K1 to_0a to_0l to_0c turned_5 i_6 is_7 x8a x8l x8c x9 x10 R m) ρ m) : cpt P od (panicR R) (sR (sR (bB (sL (sR (sR (lP (bB (sR (sL (sR (sR (body))))))))))))) (k2Q K1 R) ρ m := by
  unfold k2E at h
  obtain ⟨to_0a, to_0l, to_0c, e0, h⟩ := h.ex
  obtain ⟨turned_5, e5, h⟩ := h.ex
  obtain ⟨i_6, e6, h⟩ := h.ex
  obtain ⟨is_7, e7, h⟩ := h.ex
  obtain ⟨x8a, x8l, x8c, e8, h⟩ := h.ex
  obtain ⟨x9, e9, h⟩ := h.ex
  obtain ⟨x10, e10, h⟩ := h.ex
  rw [← upd_self e0, ← upd_self e5, ← upd_self e6, ← upd_self e7, ← upd_self e8, ← upd_self e9, ← upd_self e10]
  rw [← k2_er K1 R]
  refine acpt_sound (P := P) (k2A K1 R) _ _ _ True.intro ?_
  exact Eq.mp (k2_eq K1 R to_0a to_0l to_0c turned_5 i_6 is_7 x8a x8l x8c x9 x10 ρ m) h
theorem l1_eq  (K1 : Option Addr → Nat → Nat → Bool → Option Addr → Nat → Nat → Int → Int → Mem → Prop) (R : Ending → Mem → Prop) (to_0a : Option Addr) (to_0l : Nat) (to_0c : Nat) (turned_5 : Bool) (x8a : Option Addr) (x8l : Nat) (x8c : Nat) (x9 : Int) (x10 : Int) (ρ : Env) (m : Mem) : l1B  K1 to_0a to_0l to_0c turned_5 x8a x8l x8c x9 x10 R m = acpt P od (panicR R) (l1A  K1 R) (thenQ (l1E K1) (l1Q  R)) (upd (upd (upd (upd (upd ρ 10 (.int .i64 x10)) 9 (.int .i64 x9)) 8 (.slice x8a x8l x8c)) 5 (.bool turned_5)) 0 (.slice to_0a to_0l to_0c)) m := by kernel_rfl
theorem l1_er  (K1 : Option Addr → Nat → Nat → Bool → Option Addr → Nat → Nat → Int → Int → Mem → Prop) (R : Ending → Mem → Prop) : (l1A  K1 R).erase = lP (bB (sR (sL (sR (sR (body)))))) := by kernel_rfl
theorem l1_ok  (R : Ending → Mem → Prop) (ρ : Env) (m : Mem) (h : (l1E fun to_0a to_0l to_0c turned_5 x8a x8l x8c x9 x10 m => l1  to_0a to_0l to_0c turned_5 x8a x8l x8c x9 x10 R m) ρ m) : cpt P od (panicR R) (.loop (lP (bB (sR (sL (sR (sR (body)))))))) (l1Q  R) ρ m := by
  unfold l1E at h
  obtain ⟨to_0a, to_0l, to_0c, e0, h⟩ := h.ex
  obtain ⟨turned_5, e5, h⟩ := h.ex
  obtain ⟨x8a, x8l, x8c, e8, h⟩ := h.ex
  obtain ⟨x9, e9, h⟩ := h.ex
  obtain ⟨x10, e10, h⟩ := h.ex
  obtain ⟨I, N, h0, hs⟩ := h
  refine ⟨fun N => l1E (I N), N, (by show l1E (I N) ρ m; unfold l1E; rw [e0, e5, e8, e9, e10]; exact h0), ?_⟩
  clear h0 e0 e5 e8 e9 e10
  intro N ρ m h
  unfold l1E at h
  obtain ⟨to_0a, to_0l, to_0c, e0, h⟩ := h.ex
  obtain ⟨turned_5, e5, h⟩ := h.ex
  obtain ⟨x8a, x8l, x8c, e8, h⟩ := h.ex
  obtain ⟨x9, e9, h⟩ := h.ex
  obtain ⟨x10, e10, h⟩ := h.ex
  refine cpt_mono (P := P) (lP (bB (sR (sL (sR (sR (body))))))) (Q := thenQ (l1E fun to_0a to_0l to_0c turned_5 x8a x8l x8c x9 x10 m => ∃ N1, N1 < N ∧ I N1 to_0a to_0l to_0c turned_5 x8a x8l x8c x9 x10 m) (l1Q  R)) (fun e ρ m h => ?_) ρ m ?_
  · cases e with
    | normal =>
      have h : l1E (fun to_0a to_0l to_0c turned_5 x8a x8l x8c x9 x10 m => ∃ N1, N1 < N ∧ I N1 to_0a to_0l to_0c turned_5 x8a x8l x8c x9 x10 m) ρ m := h
      unfold l1E at h
      obtain ⟨to_0a, to_0l, to_0c, e0, h⟩ := h.ex
      obtain ⟨turned_5, e5, h⟩ := h.ex
      obtain ⟨x8a, x8l, x8c, e8, h⟩ := h.ex
      obtain ⟨x9, e9, h⟩ := h.ex
      obtain ⟨x10, e10, h⟩ := h.ex
      obtain ⟨N1, hlt, h⟩ := h
      exact ⟨N1, hlt, (by show l1E (I N1) ρ m; unfold l1E; rw [e0, e5, e8, e9, e10]; exact h)⟩
    | _ => exact h
  have hh := hs N to_0a to_0l to_0c turned_5 x8a x8l x8c x9 x10 m h
  generalize (fun to_0a to_0l to_0c turned_5 x8a x8l x8c x9 x10 m => ∃ N1, N1 < N ∧ I N1 to_0a to_0l to_0c turned_5 x8a x8l x8c x9 x10 m : Option Addr → Nat → Nat → Bool → Option Addr → Nat → Nat → Int → Int → Mem → Prop) = K1 at hh ⊢
  rw [← upd_self e0, ← upd_self e5, ← upd_self e8, ← upd_self e9, ← upd_self e10]
  rw [← l1_er  K1 R]
  refine acpt_sound (P := P) (l1A  K1 R) _ _ _ ⟨⟨⟨True.intro, ⟨⟨(fun ρ m h => k2_ok K1 R ρ m h), True.intro⟩, True.intro⟩⟩, True.intro⟩, True.intro⟩ ?_
  exact Eq.mp (l1_eq  K1 R to_0a to_0l to_0c turned_5 x8a x8l x8c x9 x10 ρ m) hh
theorem e0_eq (to_0a : Option Addr) (to_0l : Nat) (to_0c : Nat) (l_1a : Option Addr) (l_1l : Nat) (l_1c : Nat) (R : Ending → Mem → Prop) (m : Mem) : e0 to_0a to_0l to_0c l_1a l_1l l_1c R m = acpt P od (panicR R) (e0A R) (bodyQ P fn R) (argE (#[.slice to_0a to_0l to_0c, .slice l_1a l_1l l_1c] : Array Value).toList) m := by kernel_rfl
theorem ok (to_0a : Option Addr) (to_0l : Nat) (to_0c : Nat) (l_1a : Option Addr) (l_1l : Nat) (l_1c : Nat) (R : Ending → Mem → Prop) (m : Mem) (h : e0 to_0a to_0l to_0c l_1a l_1l l_1c R m) : HC P id #[.slice to_0a to_0l to_0c, .slice l_1a l_1l l_1c] m R := by
  refine HC_of (fn := fn) (c := body) (od := od) (tb := tb) Go.Proofs.Tryd.func65 (by kernel_rfl) (by kernel_rfl) follows (by kernel_rfl) (of_decide_eq_true (by kernel_rfl)) ?_
  have he : (e0A R).erase = body := by kernel_rfl
  rw [← he]
  refine acpt_sound (P := P) (e0A R) _ _ _ ⟨⟨⟨True.intro, ⟨(fun ρ m h => l1_ok  R ρ m h), True.intro⟩⟩, True.intro⟩, True.intro⟩ ?_
  exact Eq.mp (e0_eq to_0a to_0l to_0c l_1a l_1l l_1c R m) h
end regex_join
/-! ### eyot/eyotref8.Has -/
namespace eyotref8_Has
noncomputable def fn : Func := Go.Proofs.Tryd.f67
noncomputable def body : Code := fn.body.getD .skip
def od : Nat → Ord := fun _ => .done
def tb : Nat → Tab := fun _ => (0, [], [])
def e0 (s_0_0 : Int) (s_0_1 : Int) (s_0_2 : Int) (s_0_3 : Int) (b_1 : Int) (R : Ending → Mem → Prop) (m : Mem) : Prop :=
 NewC m #[.int .u64 s_0_0, .int .u64 s_0_1, .int .u64 s_0_2, .int .u64 s_0_3] T_api_Set fun b_s_2 m1 =>
 0 ≤ (IntKind.u8.wrap (Int.tdiv b_1 64) : Int) ∧ (IntKind.u8.wrap (Int.tdiv b_1 64) : Int) < (4 : Nat) ∧ (
  LdV m1 b_s_2 (0 + (IntKind.u8.wrap (Int.tdiv b_1 64) : Int).toNat * 1) fun v =>
  UnI v .u64 fun x8 =>
  NnI (Int.tmod b_1 64) (
   R (.returned (.bool ((bitsV .and .u64 (shrV .u64 x8 (Int.tmod b_1 64)) 1) == 1))) m1))
noncomputable def e0A (R : Ending → Mem → Prop) : ACode := (.code (body))
theorem e0_eq (s_0_0 : Int) (s_0_1 : Int) (s_0_2 : Int) (s_0_3 : Int) (b_1 : Int) (R : Ending → Mem → Prop) (m : Mem) : e0 s_0_0 s_0_1 s_0_2 s_0_3 b_1 R m = acpt P od (panicR R) (e0A R) (bodyQ P fn R) (argE (#[.agg #[.int .u64 s_0_0, .int .u64 s_0_1, .int .u64 s_0_2, .int .u64 s_0_3], .int .u8 b_1] : Array Value).toList) m := by kernel_rfl
theorem ok (s_0_0 : Int) (s_0_1 : Int) (s_0_2 : Int) (s_0_3 : Int) (b_1 : Int) (R : Ending → Mem → Prop) (m : Mem) (h : e0 s_0_0 s_0_1 s_0_2 s_0_3 b_1 R m) : HC P id #[.agg #[.int .u64 s_0_0, .int .u64 s_0_1, .int .u64 s_0_2, .int .u64 s_0_3], .int .u8 b_1] m R := by
  refine HC_of (fn := fn) (c := body) (od := od) (tb := tb) Go.Proofs.Tryd.func67 (by kernel_rfl) (by kernel_rfl) follows (by kernel_rfl) (of_decide_eq_true (by kernel_rfl)) ?_
  have he : (e0A R).erase = body := by kernel_rfl
  rw [← he]
  refine acpt_sound (P := P) (e0A R) _ _ _ True.intro ?_
  exact Eq.mp (e0_eq s_0_0 s_0_1 s_0_2 s_0_3 b_1 R m) h
end eyotref8_Has
end
end Go.E
set_option linter.unusedVariables false
set_option maxRecDepth 100000
namespace Go.E
open Go.H
noncomputable section
/-! ### (*eyot/regex.reader).rep -/
namespace regex_reader_rep
noncomputable def fn : Func := Go.Proofs.Tryd.f70
noncomputable def body : Code := fn.body.getD .skip
def od : Nat → Ord := fun _ => .done
def tb : Nat → Tab := fun _ => (0, [], [])
def e0 (r_0 : Option Addr) (R : Ending → Mem → Prop) (m : Mem) : Prop :=
 NewC m #[.int .i64 0, .int .u64 0, .int .u64 0, .int .u64 0, .int .u64 0, .slice none 0 0] T_api_Rx fun b2 m1 =>
 HC P regex_reader_atom.id #[.pointer r_0] m1 (Cont (fun v m2 =>
   UnAgg v fun l =>
   UnCons l fun v l =>
   UnI v .i64 fun x6_0 =>
   UnCons l fun v l =>
   UnI v .u64 fun x6_1 =>
   UnCons l fun v l =>
   UnI v .u64 fun x6_2 =>
   UnCons l fun v l =>
   UnI v .u64 fun x6_3 =>
   UnCons l fun v l =>
   UnI v .u64 fun x6_4 =>
   UnCons l fun v l =>
   UnS v fun x6_5a x6_5l x6_5c =>
   UnNil l (
    NewC m2 #[.int .i64 0, .int .u64 0, .int .u64 0, .int .u64 0, .int .u64 0, .slice none 0 0] T_api_Rx fun b_x_3 m3 =>
    St1 m3 b_x_3 0 (.int .i64 x6_0) fun m4 =>
    St1 m4 b_x_3 1 (.int .u64 x6_1) fun m5 =>
    St1 m5 b_x_3 2 (.int .u64 x6_2) fun m6 =>
    St1 m6 b_x_3 3 (.int .u64 x6_3) fun m7 =>
    St1 m7 b_x_3 4 (.int .u64 x6_4) fun m8 =>
    St1 m8 b_x_3 5 (.slice x6_5a x6_5l x6_5c) fun m9 =>
    NilC r_0 (fun x8b x8o =>
     LdV m9 x8b x8o fun v =>
     UnStr v fun x10 =>
     Br ((x10.size : Int) == 0) (
      LdV m9 b_x_3 0 fun v =>
      UnI v .i64 fun x13_0 =>
      LdV m9 b_x_3 1 fun v =>
      UnI v .u64 fun x13_1 =>
      LdV m9 b_x_3 2 fun v =>
      UnI v .u64 fun x13_2 =>
      LdV m9 b_x_3 3 fun v =>
      UnI v .u64 fun x13_3 =>
      LdV m9 b_x_3 4 fun v =>
      UnI v .u64 fun x13_4 =>
      LdV m9 b_x_3 5 fun v =>
      UnS v fun x13_5a x13_5l x13_5c =>
      St1 m9 b2 0 (.int .i64 x13_0) fun m10 =>
      St1 m10 b2 1 (.int .u64 x13_1) fun m11 =>
      St1 m11 b2 2 (.int .u64 x13_2) fun m12 =>
      St1 m12 b2 3 (.int .u64 x13_3) fun m13 =>
      St1 m13 b2 4 (.int .u64 x13_4) fun m14 =>
      St1 m14 b2 5 (.slice x13_5a x13_5l x13_5c) fun m15 =>
      LdV m15 b2 0 fun v =>
      UnI v .i64 fun res0_0 =>
      LdV m15 b2 1 fun v =>
      UnI v .u64 fun res0_1 =>
      LdV m15 b2 2 fun v =>
      UnI v .u64 fun res0_2 =>
      LdV m15 b2 3 fun v =>
      UnI v .u64 fun res0_3 =>
      LdV m15 b2 4 fun v =>
      UnI v .u64 fun res0_4 =>
      LdV m15 b2 5 fun v =>
      UnS v fun res0_5a res0_5l res0_5c =>
      R (.returned (.agg #[.int .i64 res0_0, .int .u64 res0_1, .int .u64 res0_2, .int .u64 res0_3, .int .u64 res0_4, .slice res0_5a res0_5l res0_5c])) m15) (
      NilC r_0 (fun x15b x15o =>
       LdV m9 x15b x15o fun v =>
       UnStr v fun x17 =>
       IxB x17 0 fun x18 =>
       HC P strings_IndexByte.id #[.string (ByteArray.mk #[42, 43, 63]), .int .u8 x18] m9 (Cont (fun v m10 =>
        UnI v .i64 fun x19 =>
        Br (decide (x19 < 0)) (
        LdV m10 b_x_3 0 fun v =>
        UnI v .i64 fun x22_0 =>
        LdV m10 b_x_3 1 fun v =>
        UnI v .u64 fun x22_1 =>
        LdV m10 b_x_3 2 fun v =>
        UnI v .u64 fun x22_2 =>
        LdV m10 b_x_3 3 fun v =>
        UnI v .u64 fun x22_3 =>
        LdV m10 b_x_3 4 fun v =>
        UnI v .u64 fun x22_4 =>
        LdV m10 b_x_3 5 fun v =>
        UnS v fun x22_5a x22_5l x22_5c =>
        St1 m10 b2 0 (.int .i64 x22_0) fun m11 =>
        St1 m11 b2 1 (.int .u64 x22_1) fun m12 =>
        St1 m12 b2 2 (.int .u64 x22_2) fun m13 =>
        St1 m13 b2 3 (.int .u64 x22_3) fun m14 =>
        St1 m14 b2 4 (.int .u64 x22_4) fun m15 =>
        St1 m15 b2 5 (.slice x22_5a x22_5l x22_5c) fun m16 =>
        LdV m16 b2 0 fun v =>
        UnI v .i64 fun res0_0 =>
        LdV m16 b2 1 fun v =>
        UnI v .u64 fun res0_1 =>
        LdV m16 b2 2 fun v =>
        UnI v .u64 fun res0_2 =>
        LdV m16 b2 3 fun v =>
        UnI v .u64 fun res0_3 =>
        LdV m16 b2 4 fun v =>
        UnI v .u64 fun res0_4 =>
        LdV m16 b2 5 fun v =>
        UnS v fun res0_5a res0_5l res0_5c =>
        R (.returned (.agg #[.int .i64 res0_0, .int .u64 res0_1, .int .u64 res0_2, .int .u64 res0_3, .int .u64 res0_4, .slice res0_5a res0_5l res0_5c])) m16) (
        NilC r_0 (fun x25b x25o =>
        LdV m10 x25b x25o fun v =>
        UnStr v fun x27 =>
        SlB x27 1 (x27.size : Int) fun x28 =>
        NilC r_0 (fun x29b x29o =>
        St1 m10 x29b x29o (.string x28) fun m11 =>
        LdV m11 b_x_3 0 fun v =>
        UnI v .i64 fun x33_0 =>
        LdV m11 b_x_3 1 fun v =>
        UnI v .u64 fun x33_1 =>
        LdV m11 b_x_3 2 fun v =>
        UnI v .u64 fun x33_2 =>
        LdV m11 b_x_3 3 fun v =>
        UnI v .u64 fun x33_3 =>
        LdV m11 b_x_3 4 fun v =>
        UnI v .u64 fun x33_4 =>
        LdV m11 b_x_3 5 fun v =>
        UnS v fun x33_5a x33_5l x33_5c =>
        NewC m11 #[.int .i64 x33_0, .int .u64 x33_1, .int .u64 x33_2, .int .u64 x33_3, .int .u64 x33_4, .slice x33_5a x33_5l x33_5c] T_api_Rx fun b34 m12 =>
        St1 m12 b2 0 (.int .i64 (IntKind.i64.wrap (4 + x19))) fun m13 =>
        St1 m13 b2 1 (.int .u64 0) fun m14 =>
        St1 m14 b2 2 (.int .u64 0) fun m15 =>
        St1 m15 b2 3 (.int .u64 0) fun m16 =>
        St1 m16 b2 4 (.int .u64 0) fun m17 =>
        St1 m17 b2 5 (.slice (some ⟨b34, 0, none⟩) 1 1) fun m18 =>
        LdV m18 b2 0 fun v =>
        UnI v .i64 fun res0_0 =>
        LdV m18 b2 1 fun v =>
        UnI v .u64 fun res0_1 =>
        LdV m18 b2 2 fun v =>
        UnI v .u64 fun res0_2 =>
        LdV m18 b2 3 fun v =>
        UnI v .u64 fun res0_3 =>
        LdV m18 b2 4 fun v =>
        UnI v .u64 fun res0_4 =>
        LdV m18 b2 5 fun v =>
        UnS v fun res0_5a res0_5l res0_5c =>
        R (.returned (.agg #[.int .i64 res0_0, .int .u64 res0_1, .int .u64 res0_2, .int .u64 res0_3, .int .u64 res0_4, .slice res0_5a res0_5l res0_5c])) m18) (R (.panicked (nilPanic P)) m10)) (R (.panicked (nilPanic P)) m10))) (panicR R))) (R (.panicked (nilPanic P)) m9))) (R (.panicked (nilPanic P)) m9))) (panicR R))
noncomputable def e0A (R : Ending → Mem → Prop) : ACode := (.code (body))
theorem e0_eq (r_0 : Option Addr) (R : Ending → Mem → Prop) (m : Mem) : e0 r_0 R m = acpt P od (panicR R) (e0A R) (bodyQ P fn R) (argE (#[.pointer r_0] : Array Value).toList) m := by kernel_rfl
theorem ok (r_0 : Option Addr) (R : Ending → Mem → Prop) (m : Mem) (h : e0 r_0 R m) : HC P id #[.pointer r_0] m R := by
  refine HC_of (fn := fn) (c := body) (od := od) (tb := tb) Go.Proofs.Tryd.func70 (by kernel_rfl) (by kernel_rfl) follows (by kernel_rfl) (of_decide_eq_true (by kernel_rfl)) ?_
  have he : (e0A R).erase = body := by kernel_rfl
  rw [← he]
  refine acpt_sound (P := P) (e0A R) _ _ _ True.intro ?_
  exact Eq.mp (e0_eq r_0 R m) h
end regex_reader_rep
/-! ### eyot/class.with -/
namespace class_with
noncomputable def fn : Func := Go.Proofs.Tryd.f72
noncomputable def body : Code := fn.body.getD .skip
def od : Nat → Ord := fun | 4 => ordL [(0, 3), (1, 3), (2, 3), (3, 3), (4, 1), (5, 3), (6, 3), (7, 0), (8, 2), (9, 3), (10, 2)] .done | _ => .done
def tb : Nat → Tab := fun | 4 => (1280, [0, 0, 0, 4, 12, 0, 32, 96, 254, 511, 1023], [(0, 128, 12), (0, 4, 13), (0, 128, 14), (4, 8200, 15), (8, 16384, 16), (0, 128, 17), (32, 65552, 18), (64, 131072, 19), (146, 299008, 20), (511, 2056, 21), (1023, 1572864, 0)]) | _ => (0, [], [])
def l1E (K : Value → Nat → Nat → Nat → Nat → Nat → Nat → Int → Mem → Prop) : Env → Mem → Prop := fun ρ m => (fun f_2 => UnPA (ρ 3) fun a_3b a_3o => UnPA (ρ 4) fun b_4b b_4o => UnPA (ρ 6) fun x6b x6o => UnI (ρ 8) .i64 fun x8 => K f_2 a_3b a_3o b_4b b_4o x6b x6o x8 m) (ρ 2)
def l1B  (K1 : Value → Nat → Nat → Nat → Nat → Nat → Nat → Int → Mem → Prop) (f_2 : Value) (a_3b : Nat) (a_3o : Nat) (b_4b : Nat) (b_4o : Nat) (x6b : Nat) (x6o : Nat) (x8 : Int) (R : Ending → Mem → Prop) (m : Mem) : Prop :=
 Br (decide (x8 < 4)) (
  Sub m fun r1 =>
  0 ≤ (x8 : Int) ∧ (x8 : Int) < (4 : Nat) ∧ (
   LdV r1 a_3b (a_3o + (x8 : Int).toNat * 1) fun v =>
   UnI v .u64 fun x15 =>
   0 ≤ (x8 : Int) ∧ (x8 : Int) < (4 : Nat) ∧ (
    LdV m b_4b (b_4o + (x8 : Int).toNat * 1) fun v =>
    UnI v .u64 fun x18 =>
    CallV P f_2 #[.int .u64 x15, .int .u64 x18] m (Cont (fun v m2 =>
      UnI v .u64 fun x19 =>
      0 ≤ (x8 : Int) ∧ (x8 : Int) < (4 : Nat) ∧ (
       St1 m2 a_3b (a_3o + (x8 : Int).toNat * 1) (.int .u64 x19) fun m3 =>
       K1 f_2 a_3b a_3o b_4b b_4o x6b x6o (IntKind.i64.wrap (x8 + 1)) m3)) (panicR R))))) (
  LdV m a_3b a_3o fun v =>
  UnI v .u64 fun x22_0 =>
  LdV m a_3b (a_3o + 1) fun v =>
  UnI v .u64 fun x22_1 =>
  LdV m a_3b (a_3o + 2) fun v =>
  UnI v .u64 fun x22_2 =>
  LdV m a_3b (a_3o + 3) fun v =>
  UnI v .u64 fun x22_3 =>
  St1 m x6b x6o (.int .u64 x22_0) fun m1 =>
  St1 m1 x6b (x6o + 1) (.int .u64 x22_1) fun m2 =>
  St1 m2 x6b (x6o + 2) (.int .u64 x22_2) fun m3 =>
  St1 m3 x6b (x6o + 3) (.int .u64 x22_3) fun m4 =>
  LdV m4 x6b x6o fun v =>
  UnI v .u64 fun res0_0 =>
  LdV m4 x6b (x6o + 1) fun v =>
  UnI v .u64 fun res0_1 =>
  LdV m4 x6b (x6o + 2) fun v =>
  UnI v .u64 fun res0_2 =>
  LdV m4 x6b (x6o + 3) fun v =>
  UnI v .u64 fun res0_3 =>
  R (.returned (.agg #[.int .u64 res0_0, .int .u64 res0_1, .int .u64 res0_2, .int .u64 res0_3])) m4)
def l1  (f_2 : Value) (a_3b : Nat) (a_3o : Nat) (b_4b : Nat) (b_4o : Nat) (x6b : Nat) (x6o : Nat) (x8 : Int) (R : Ending → Mem → Prop) (m : Mem) : Prop :=
  ∃ (I : Nat → Value → Nat → Nat → Nat → Nat → Nat → Nat → Int → Mem → Prop) (N : Nat), I N f_2 a_3b a_3o b_4b b_4o x6b x6o x8 m ∧ ∀ N f_2 a_3b a_3o b_4b b_4o x6b x6o x8 m, I N f_2 a_3b a_3o b_4b b_4o x6b x6o x8 m → l1B  (fun f_2 a_3b a_3o b_4b b_4o x6b x6o x8 m => ∃ N1, N1 < N ∧ I N1 f_2 a_3b a_3o b_4b b_4o x6b x6o x8 m) f_2 a_3b a_3o b_4b b_4o x6b x6o x8 R m
noncomputable def l1A  (K1 : Value → Nat → Nat → Nat → Nat → Nat → Nat → Int → Mem → Prop) (R : Ending → Mem → Prop) : ACode := (.code (lP (bB (sR (sL (sR (body)))))))
def e0 (a_0_0 : Int) (a_0_1 : Int) (a_0_2 : Int) (a_0_3 : Int) (b_1_0 : Int) (b_1_1 : Int) (b_1_2 : Int) (b_1_3 : Int) (f_2 : Value) (R : Ending → Mem → Prop) (m : Mem) : Prop :=
 NewC m #[.int .u64 a_0_0, .int .u64 a_0_1, .int .u64 a_0_2, .int .u64 a_0_3] T_api_Set fun b_a_3 m1 =>
 NewC m1 #[.int .u64 b_1_0, .int .u64 b_1_1, .int .u64 b_1_2, .int .u64 b_1_3] T_api_Set fun b_4 m2 =>
 NewC m2 #[.int .u64 0, .int .u64 0, .int .u64 0, .int .u64 0] T_api_Set fun b6 m3 =>
 l1  f_2 b_a_3 0 b_4 0 b6 0 0 R m3
noncomputable def e0A (R : Ending → Mem → Prop) : ACode := (.seq (.code (sL (body))) (.seq (.seq (.code (sL (sL (sR (body))))) (.block 0 (.cut (l1E fun f_2 a_3b a_3o b_4b b_4o x6b x6o x8 m => l1  f_2 a_3b a_3o b_4b b_4o x6b x6o x8 R m) (.loop (lP (bB (sR (sL (sR (body)))))))))) (.code (sR (sR (body))))))
abbrev l1Q  (R : Ending → Mem → Prop) : Exit → Env → Mem → Prop := (blockQ 0 (thenQ (acpt P od (panicR R) (.code (sR (sR (body)))) (bodyQ P fn R)) (bodyQ P fn R)))
theorem l1_eq  (K1 : Value → Nat → Nat → Nat → Nat → Nat → Nat → Int → Mem → Prop) (R : Ending → Mem → Prop) (f_2 : Value) (a_3b : Nat) (a_3o : Nat) (b_4b : Nat) (b_4o : Nat) (x6b : Nat) (x6o : Nat) (x8 : Int) (ρ : Env) (m : Mem) : l1B  K1 f_2 a_3b a_3o b_4b b_4o x6b x6o x8 R m = acpt P od (panicR R) (l1A  K1 R) (thenQ (l1E K1) (l1Q  R)) (upd (upd (upd (upd (upd ρ 8 (.int .i64 x8)) 6 (.pointer (some ⟨x6b, x6o, none⟩))) 4 (.pointer (some ⟨b_4b, b_4o, none⟩))) 3 (.pointer (some ⟨a_3b, a_3o, none⟩))) 2 (f_2)) m := by kernel_rfl
theorem l1_er  (K1 : Value → Nat → Nat → Nat → Nat → Nat → Nat → Int → Mem → Prop) (R : Ending → Mem → Prop) : (l1A  K1 R).erase = lP (bB (sR (sL (sR (body))))) := by kernel_rfl
theorem l1_ok  (R : Ending → Mem → Prop) (ρ : Env) (m : Mem) (h : (l1E fun f_2 a_3b a_3o b_4b b_4o x6b x6o x8 m => l1  f_2 a_3b a_3o b_4b b_4o x6b x6o x8 R m) ρ m) : cpt P od (panicR R) (.loop (lP (bB (sR (sL (sR (body))))))) (l1Q  R) ρ m := by
  unfold l1E at h
  generalize e2 : ρ 2 = f_2 at h
  try dsimp only at h
  obtain ⟨a_3b, a_3o, e3, h⟩ := h.ex
  obtain ⟨b_4b, b_4o, e4, h⟩ := h.ex
  obtain ⟨x6b, x6o, e6, h⟩ := h.ex
  obtain ⟨x8, e8, h⟩ := h.ex
  obtain ⟨I, N, h0, hs⟩ := h
  refine ⟨fun N => l1E (I N), N, (by show l1E (I N) ρ m; unfold l1E; rw [e2, e3, e4, e6, e8]; exact h0), ?_⟩
  clear h0 e2 e3 e4 e6 e8
  intro N ρ m h
  unfold l1E at h
  generalize e2 : ρ 2 = f_2 at h
  try dsimp only at h
  obtain ⟨a_3b, a_3o, e3, h⟩ := h.ex
  obtain ⟨b_4b, b_4o, e4, h⟩ := h.ex
  obtain ⟨x6b, x6o, e6, h⟩ := h.ex
  obtain ⟨x8, e8, h⟩ := h.ex
  refine cpt_mono (P := P) (lP (bB (sR (sL (sR (body)))))) (Q := thenQ (l1E fun f_2 a_3b a_3o b_4b b_4o x6b x6o x8 m => ∃ N1, N1 < N ∧ I N1 f_2 a_3b a_3o b_4b b_4o x6b x6o x8 m) (l1Q  R)) (fun e ρ m h => ?_) ρ m ?_
  · cases e with
    | normal =>
      have h : l1E (fun f_2 a_3b a_3o b_4b b_4o x6b x6o x8 m => ∃ N1, N1 < N ∧ I N1 f_2 a_3b a_3o b_4b b_4o x6b x6o x8 m) ρ m := h
      unfold l1E at h
      generalize e2 : ρ 2 = f_2 at h
      try dsimp only at h
      obtain ⟨a_3b, a_3o, e3, h⟩ := h.ex
      obtain ⟨b_4b, b_4o, e4, h⟩ := h.ex
      obtain ⟨x6b, x6o, e6, h⟩ := h.ex
      obtain ⟨x8, e8, h⟩ := h.ex
      obtain ⟨N1, hlt, h⟩ := h
      exact ⟨N1, hlt, (by show l1E (I N1) ρ m; unfold l1E; rw [e2, e3, e4, e6, e8]; exact h)⟩
    | _ => exact h
  have hh := hs N f_2 a_3b a_3o b_4b b_4o x6b x6o x8 m h
  generalize (fun f_2 a_3b a_3o b_4b b_4o x6b x6o x8 m => ∃ N1, N1 < N ∧ I N1 f_2 a_3b a_3o b_4b b_4o x6b x6o x8 m : Value → Nat → Nat → Nat → Nat → Nat → Nat → Int → Mem → Prop) = K1 at hh ⊢
  rw [← upd_self e2, ← upd_self e3, ← upd_self e4, ← upd_self e6, ← upd_self e8]
  rw [← l1_er  K1 R]
  refine acpt_sound (P := P) (l1A  K1 R) _ _ _ True.intro ?_
  exact Eq.mp (l1_eq  K1 R f_2 a_3b a_3o b_4b b_4o x6b x6o x8 ρ m) hh
theorem e0_eq (a_0_0 : Int) (a_0_1 : Int) (a_0_2 : Int) (a_0_3 : Int) (b_1_0 : Int) (b_1_1 : Int) (b_1_2 : Int) (b_1_3 : Int) (f_2 : Value) (R : Ending → Mem → Prop) (m : Mem) : e0 a_0_0 a_0_1 a_0_2 a_0_3 b_1_0 b_1_1 b_1_2 b_1_3 f_2 R m = acpt P od (panicR R) (e0A R) (bodyQ P fn R) (argE (#[.agg #[.int .u64 a_0_0, .int .u64 a_0_1, .int .u64 a_0_2, .int .u64 a_0_3], .agg #[.int .u64 b_1_0, .int .u64 b_1_1, .int .u64 b_1_2, .int .u64 b_1_3], f_2] : Array Value).toList) m := by kernel_rfl
theorem ok (a_0_0 : Int) (a_0_1 : Int) (a_0_2 : Int) (a_0_3 : Int) (b_1_0 : Int) (b_1_1 : Int) (b_1_2 : Int) (b_1_3 : Int) (f_2 : Value) (R : Ending → Mem → Prop) (m : Mem) (h : e0 a_0_0 a_0_1 a_0_2 a_0_3 b_1_0 b_1_1 b_1_2 b_1_3 f_2 R m) : HC P id #[.agg #[.int .u64 a_0_0, .int .u64 a_0_1, .int .u64 a_0_2, .int .u64 a_0_3], .agg #[.int .u64 b_1_0, .int .u64 b_1_1, .int .u64 b_1_2, .int .u64 b_1_3], f_2] m R := by
  refine HC_of (fn := fn) (c := body) (od := od) (tb := tb) Go.Proofs.Tryd.func72 (by kernel_rfl) (by kernel_rfl) follows (by kernel_rfl) (of_decide_eq_true (by kernel_rfl)) ?_
  have he : (e0A R).erase = body := by kernel_rfl
  rw [← he]
  refine acpt_sound (P := P) (e0A R) _ _ _ ⟨⟨True.intro, ⟨(fun ρ m h => l1_ok  R ρ m h), True.intro⟩⟩, True.intro⟩ ?_
  exact Eq.mp (e0_eq a_0_0 a_0_1 a_0_2 a_0_3 b_1_0 b_1_1 b_1_2 b_1_3 f_2 R m) h
end class_with
/-! ### eyot/class.Not$1 -/
namespace class_Not_1
noncomputable def fn : Func := Go.Proofs.Tryd.f73
noncomputable def body : Code := fn.body.getD .skip
def od : Nat → Ord := fun _ => .done
def tb : Nat → Tab := fun _ => (0, [], [])
def e0 (x_0 : Int) (a1 : Int) (R : Ending → Mem → Prop) (m : Mem) : Prop :=
 R (.returned (.int .u64 (bitsV .xor .u64 18446744073709551615 x_0))) m
noncomputable def e0A (R : Ending → Mem → Prop) : ACode := (.code (body))
theorem e0_eq (x_0 : Int) (a1 : Int) (R : Ending → Mem → Prop) (m : Mem) : e0 x_0 a1 R m = acpt P od (panicR R) (e0A R) (bodyQ P fn R) (argE (#[.int .u64 x_0, .int .u64 a1] : Array Value).toList) m := by kernel_rfl
theorem ok (x_0 : Int) (a1 : Int) (R : Ending → Mem → Prop) (m : Mem) (h : e0 x_0 a1 R m) : HC P id #[.int .u64 x_0, .int .u64 a1] m R := by
  refine HC_of (fn := fn) (c := body) (od := od) (tb := tb) Go.Proofs.Tryd.func73 (by kernel_rfl) (by kernel_rfl) follows (by kernel_rfl) (of_decide_eq_true (by kernel_rfl)) ?_
  have he : (e0A R).erase = body := by kernel_rfl
  rw [← he]
  refine acpt_sound (P := P) (e0A R) _ _ _ True.intro ?_
  exact Eq.mp (e0_eq x_0 a1 R m) h
end class_Not_1
/-! ### strings.IndexByte -/
namespace strings_IndexByte
noncomputable def fn : Func := Go.Proofs.Tryd.f74
noncomputable def body : Code := fn.body.getD .skip
def od : Nat → Ord := fun _ => .done
def tb : Nat → Tab := fun _ => (0, [], [])
def e0 (s_0 : ByteArray) (c_1 : Int) (R : Ending → Mem → Prop) (m : Mem) : Prop :=
 HC P internal_stringslite_IndexByte.id #[.string s_0, .int .u8 c_1] m (Cont (fun v m1 =>
   UnI v .i64 fun x7 =>
   R (.returned (.int .i64 x7)) m1) (panicR R))
noncomputable def e0A (R : Ending → Mem → Prop) : ACode := (.code (body))
theorem e0_eq (s_0 : ByteArray) (c_1 : Int) (R : Ending → Mem → Prop) (m : Mem) : e0 s_0 c_1 R m = acpt P od (panicR R) (e0A R) (bodyQ P fn R) (argE (#[.string s_0, .int .u8 c_1] : Array Value).toList) m := by kernel_rfl
theorem ok (s_0 : ByteArray) (c_1 : Int) (R : Ending → Mem → Prop) (m : Mem) (h : e0 s_0 c_1 R m) : HC P id #[.string s_0, .int .u8 c_1] m R := by
  refine HC_of (fn := fn) (c := body) (od := od) (tb := tb) Go.Proofs.Tryd.func74 (by kernel_rfl) (by kernel_rfl) follows (by kernel_rfl) (of_decide_eq_true (by kernel_rfl)) ?_
  have he : (e0A R).erase = body := by kernel_rfl
  rw [← he]
  refine acpt_sound (P := P) (e0A R) _ _ _ True.intro ?_
  exact Eq.mp (e0_eq s_0 c_1 R m) h
end strings_IndexByte
end
end Go.E
set_option linter.unusedVariables false
set_option maxRecDepth 100000
namespace Go.E
open Go.H
noncomputable section
/-! ### (*eyot/regex.reader).atom -/
namespace regex_reader_atom
noncomputable def fn : Func := Go.Proofs.Tryd.f78
noncomputable def body : Code := fn.body.getD .skip
def od : Nat → Ord := fun _ => .done
def tb : Nat → Tab := fun _ => (0, [], [])
def e0 (a0 : Option Addr) (R : Ending → Mem → Prop) (m : Mem) : Prop :=
 NewC m #[.int .i64 0, .int .u64 0, .int .u64 0, .int .u64 0, .int .u64 0, .slice none 0 0] T_api_Rx fun b2 m1 =>
 HC P regex_reader_sees.id #[.pointer a0, .int .u8 40] m1 (Cont (fun v m2 =>
   UnB v fun x8 =>
   Br (!x8) (
    NilC a0 (fun x12b x12o =>
     LdV m2 x12b x12o fun v =>
     UnStr v fun x14 =>
     HC P class_Parse.id #[.string x14] m2 (Cont (fun v m3 =>
       UnTup v fun us0 =>
       UnCons us0 fun w us1 =>
       UnAgg w fun l =>
       UnCons l fun v l =>
       UnI v .u64 fun x15_0_0 =>
       UnCons l fun v l =>
       UnI v .u64 fun x15_0_1 =>
       UnCons l fun v l =>
       UnI v .u64 fun x15_0_2 =>
       UnCons l fun v l =>
       UnI v .u64 fun x15_0_3 =>
       UnNil l (
        UnCons us1 fun w us2 =>
        UnI w .i64 fun x15_1 =>
        UnCons us2 fun w us3 =>
        UnI w .i64 fun x15_2 =>
        UnNil us3 (
        NewC m3 #[.int .u64 0, .int .u64 0, .int .u64 0, .int .u64 0] T_api_Set fun b3 m4 =>
        St1 m4 b3 0 (.int .u64 x15_0_0) fun m5 =>
        St1 m5 b3 1 (.int .u64 x15_0_1) fun m6 =>
        St1 m6 b3 2 (.int .u64 x15_0_2) fun m7 =>
        St1 m7 b3 3 (.int .u64 x15_0_3) fun m8 =>
        Br (x15_2 != 0) (
        R (.panicked [{ v := .iface T_regex_refusal (.agg #[.int .i64 2]), recovered := false }]) m8) (
        NilC a0 (fun x25b x25o =>
        LdV m8 x25b x25o fun v =>
        UnStr v fun x27 =>
        SlB x27 x15_1 (x27.size : Int) fun x29 =>
        NilC a0 (fun x30b x30o =>
        St1 m8 x30b x30o (.string x29) fun m9 =>
        LdV m9 b3 0 fun v =>
        UnI v .u64 fun x32_0 =>
        LdV m9 b3 1 fun v =>
        UnI v .u64 fun x32_1 =>
        LdV m9 b3 2 fun v =>
        UnI v .u64 fun x32_2 =>
        LdV m9 b3 3 fun v =>
        UnI v .u64 fun x32_3 =>
        St1 m9 b2 0 (.int .i64 1) fun m10 =>
        St1 m10 b2 1 (.int .u64 x32_0) fun m11 =>
        St1 m11 b2 2 (.int .u64 x32_1) fun m12 =>
        St1 m12 b2 3 (.int .u64 x32_2) fun m13 =>
        St1 m13 b2 4 (.int .u64 x32_3) fun m14 =>
        St1 m14 b2 5 (.slice none 0 0) fun m15 =>
        LdV m15 b2 0 fun v =>
        UnI v .i64 fun res0_0 =>
        LdV m15 b2 1 fun v =>
        UnI v .u64 fun res0_1 =>
        LdV m15 b2 2 fun v =>
        UnI v .u64 fun res0_2 =>
        LdV m15 b2 3 fun v =>
        UnI v .u64 fun res0_3 =>
        LdV m15 b2 4 fun v =>
        UnI v .u64 fun res0_4 =>
        LdV m15 b2 5 fun v =>
        UnS v fun res0_5a res0_5l res0_5c =>
        R (.returned (.agg #[.int .i64 res0_0, .int .u64 res0_1, .int .u64 res0_2, .int .u64 res0_3, .int .u64 res0_4, .slice res0_5a res0_5l res0_5c])) m15) (R (.panicked (nilPanic P)) m8)) (R (.panicked (nilPanic P)) m8))))) (panicR R))) (R (.panicked (nilPanic P)) m2)) (
    NilC a0 (fun x35b x35o =>
     LdV m2 x35b (x35o + 1) fun v =>
     UnI v .i64 fun x37 =>
     NilC a0 (fun x39b x39o =>
      St1 m2 x39b (x39o + 1) (.int .i64 (IntKind.i64.wrap (x37 + 1))) fun m3 =>
      NilC a0 (fun x42b x42o =>
       LdV m3 x42b (x42o + 1) fun v =>
       UnI v .i64 fun x44 =>
       Br (decide (x44 > 13)) (
        R (.panicked [{ v := .iface T_regex_refusal (.agg #[.int .i64 6]), recovered := false }]) m3) (
        NilC a0 (fun x50b x50o =>
        LdV m3 x50b x50o fun v =>
        UnStr v fun x52 =>
        SlB x52 1 (x52.size : Int) fun x53 =>
        NilC a0 (fun x54b x54o =>
        St1 m3 x54b x54o (.string x53) fun m4 =>
        HC P regex_reader_alt.id #[.pointer a0] m4 (Cont (fun v m5 =>
        UnAgg v fun l =>
        UnCons l fun v l =>
        UnI v .i64 fun x57_0 =>
        UnCons l fun v l =>
        UnI v .u64 fun x57_1 =>
        UnCons l fun v l =>
        UnI v .u64 fun x57_2 =>
        UnCons l fun v l =>
        UnI v .u64 fun x57_3 =>
        UnCons l fun v l =>
        UnI v .u64 fun x57_4 =>
        UnCons l fun v l =>
        UnS v fun x57_5a x57_5l x57_5c =>
        UnNil l (
        NewC m5 #[.int .i64 0, .int .u64 0, .int .u64 0, .int .u64 0, .int .u64 0, .slice none 0 0] T_api_Rx fun b6 m6 =>
        St1 m6 b6 0 (.int .i64 x57_0) fun m7 =>
        St1 m7 b6 1 (.int .u64 x57_1) fun m8 =>
        St1 m8 b6 2 (.int .u64 x57_2) fun m9 =>
        St1 m9 b6 3 (.int .u64 x57_3) fun m10 =>
        St1 m10 b6 4 (.int .u64 x57_4) fun m11 =>
        St1 m11 b6 5 (.slice x57_5a x57_5l x57_5c) fun m12 =>
        HC P regex_reader_sees.id #[.pointer a0, .int .u8 41] m12 (Cont (fun v m13 =>
        UnB v fun x59 =>
        Br (!x59) (
        R (.panicked [{ v := .iface T_regex_refusal (.agg #[.int .i64 2]), recovered := false }]) m13) (
        NilC a0 (fun x65b x65o =>
        LdV m13 x65b x65o fun v =>
        UnStr v fun x67 =>
        SlB x67 1 (x67.size : Int) fun x68 =>
        NilC a0 (fun x69b x69o =>
        St1 m13 x69b x69o (.string x68) fun m14 =>
        NilC a0 (fun x72b x72o =>
        LdV m14 x72b (x72o + 1) fun v =>
        UnI v .i64 fun x74 =>
        NilC a0 (fun x76b x76o =>
        St1 m14 x76b (x76o + 1) (.int .i64 (IntKind.i64.wrap (x74 - 1))) fun m15 =>
        LdV m15 b6 0 fun v =>
        UnI v .i64 fun x78_0 =>
        LdV m15 b6 1 fun v =>
        UnI v .u64 fun x78_1 =>
        LdV m15 b6 2 fun v =>
        UnI v .u64 fun x78_2 =>
        LdV m15 b6 3 fun v =>
        UnI v .u64 fun x78_3 =>
        LdV m15 b6 4 fun v =>
        UnI v .u64 fun x78_4 =>
        LdV m15 b6 5 fun v =>
        UnS v fun x78_5a x78_5l x78_5c =>
        St1 m15 b2 0 (.int .i64 x78_0) fun m16 =>
        St1 m16 b2 1 (.int .u64 x78_1) fun m17 =>
        St1 m17 b2 2 (.int .u64 x78_2) fun m18 =>
        St1 m18 b2 3 (.int .u64 x78_3) fun m19 =>
        St1 m19 b2 4 (.int .u64 x78_4) fun m20 =>
        St1 m20 b2 5 (.slice x78_5a x78_5l x78_5c) fun m21 =>
        LdV m21 b2 0 fun v =>
        UnI v .i64 fun res0_0 =>
        LdV m21 b2 1 fun v =>
        UnI v .u64 fun res0_1 =>
        LdV m21 b2 2 fun v =>
        UnI v .u64 fun res0_2 =>
        LdV m21 b2 3 fun v =>
        UnI v .u64 fun res0_3 =>
        LdV m21 b2 4 fun v =>
        UnI v .u64 fun res0_4 =>
        LdV m21 b2 5 fun v =>
        UnS v fun res0_5a res0_5l res0_5c =>
        R (.returned (.agg #[.int .i64 res0_0, .int .u64 res0_1, .int .u64 res0_2, .int .u64 res0_3, .int .u64 res0_4, .slice res0_5a res0_5l res0_5c])) m21) (R (.panicked (nilPanic P)) m14)) (R (.panicked (nilPanic P)) m14)) (R (.panicked (nilPanic P)) m13)) (R (.panicked (nilPanic P)) m13))) (panicR R)))) (panicR R))) (R (.panicked (nilPanic P)) m3)) (R (.panicked (nilPanic P)) m3))) (R (.panicked (nilPanic P)) m3)) (R (.panicked (nilPanic P)) m2)) (R (.panicked (nilPanic P)) m2))) (panicR R))
noncomputable def e0A (R : Ending → Mem → Prop) : ACode := (.code (body))
theorem e0_eq (a0 : Option Addr) (R : Ending → Mem → Prop) (m : Mem) : e0 a0 R m = acpt P od (panicR R) (e0A R) (bodyQ P fn R) (argE (#[.pointer a0] : Array Value).toList) m := by kernel_rfl
theorem ok (a0 : Option Addr) (R : Ending → Mem → Prop) (m : Mem) (h : e0 a0 R m) : HC P id #[.pointer a0] m R := by
  refine HC_of (fn := fn) (c := body) (od := od) (tb := tb) Go.Proofs.Tryd.func78 (by kernel_rfl) (by kernel_rfl) follows (by kernel_rfl) (of_decide_eq_true (by kernel_rfl)) ?_
  have he : (e0A R).erase = body := by kernel_rfl
  rw [← he]
  refine acpt_sound (P := P) (e0A R) _ _ _ True.intro ?_
  exact Eq.mp (e0_eq a0 R m) h
end regex_reader_atom
/-! ### (*eyot/eyotref8.reader).atom -/
namespace eyotref8_reader_atom
noncomputable def fn : Func := Go.Proofs.Tryd.f79
noncomputable def body : Code := fn.body.getD .skip
def od : Nat → Ord := fun | 13 => ordL [(0, 3), (1, 3), (2, 3), (3, 1), (4, 3), (5, 3), (6, 3), (7, 1), (8, 3), (9, 3), (10, 3), (11, 1), (12, 3), (13, 3), (14, 3)] (.alt 15 2 (ordL [(16, 3), (17, 3), (18, 3), (19, 3), (20, 2), (21, 2), (22, 3), (23, 3)] .done) 20 0 (ordL [(15, 2), (16, 3), (17, 3), (18, 3), (19, 3), (21, 2), (22, 3), (23, 3)] .done)) | _ => .done
def tb : Nat → Tab := fun | 13 => (2129920, [0, 1, 3, 7, 0, 16, 48, 112, 0, 256, 768, 1792, 3840, 8176, 16383, 32767, 65535, 131071, 131071, 131071, 0, 1310719, 3670015, 8388607], [(0, 1, 55), (1, 18014398509481984, 56), (2, 36028797018963968, 57), (4, 72057594037927936, 58), (0, 1, 59), (16, 288230376151711744, 60), (32, 576460752303423488, 61), (64, 1152921504606846976, 62), (0, 1, 63), (256, 4611686018427387904, 64), (512, 9223372036854775808, 65), (1024, 18446744073709551616, 66), (2048, 36893488147419103232, 67), (4224, 76092819304051900416, 68), (8200, 147718067777752268800, 69), (16384, 295147905179352825856, 70), (32768, 590295810358705651712, 54), (65536, 9007199254740992, 71), (65536, 9007199254740992, 72), (65536, 9007199254740992, 73), (0, 0, 5), (1310719, 1180591620717411303440, 0), (3670015, 2361183241434822606848, 6), (8388607, 4722366482869645213696, 7)]) | _ => (0, [], [])
def k1E (K : Option Addr → Nat → Nat → Nat → Nat → Mem → Prop) : Env → Mem → Prop := fun ρ m => UnP (ρ 0) fun x0 => UnPA (ρ 2) fun x2b x2o => UnPA (ρ 3) fun x3b x3o => K x0 x2b x2o x3b x3o m
def k1  (x0 : Option Addr) (x2b : Nat) (x2o : Nat) (x3b : Nat) (x3o : Nat) (R : Ending → Mem → Prop) (m : Mem) : Prop :=
 NilC x0 (fun x39b x39o =>
  LdV m x39b (x39o + 1) fun v =>
  UnI v .i64 fun x41 =>
  NilC x0 (fun x43b x43o =>
   St1 m x43b (x43o + 1) (.int .i64 (IntKind.i64.wrap (x41 + 1))) fun m1 =>
   NilC x0 (fun x46b x46o =>
    LdV m1 x46b (x46o + 2) fun v =>
    UnI v .i64 fun x48 =>
    NilC x0 (fun x50b x50o =>
     St1 m1 x50b (x50o + 2) (.int .i64 (IntKind.i64.wrap (x48 - 1))) fun m2 =>
     LdV m2 x3b x3o fun v =>
     UnI v .i64 fun x52_0 =>
     LdV m2 x3b (x3o + 1) fun v =>
     UnI v .u64 fun x52_1 =>
     LdV m2 x3b (x3o + 2) fun v =>
     UnI v .u64 fun x52_2 =>
     LdV m2 x3b (x3o + 3) fun v =>
     UnI v .u64 fun x52_3 =>
     LdV m2 x3b (x3o + 4) fun v =>
     UnI v .u64 fun x52_4 =>
     LdV m2 x3b (x3o + 5) fun v =>
     UnS v fun x52_5a x52_5l x52_5c =>
     St1 m2 x2b x2o (.int .i64 x52_0) fun m3 =>
     St1 m3 x2b (x2o + 1) (.int .u64 x52_1) fun m4 =>
     St1 m4 x2b (x2o + 2) (.int .u64 x52_2) fun m5 =>
     St1 m5 x2b (x2o + 3) (.int .u64 x52_3) fun m6 =>
     St1 m6 x2b (x2o + 4) (.int .u64 x52_4) fun m7 =>
     St1 m7 x2b (x2o + 5) (.slice x52_5a x52_5l x52_5c) fun m8 =>
     LdV m8 x2b x2o fun v =>
     UnI v .i64 fun res0_0 =>
     LdV m8 x2b (x2o + 1) fun v =>
     UnI v .u64 fun res0_1 =>
     LdV m8 x2b (x2o + 2) fun v =>
     UnI v .u64 fun res0_2 =>
     LdV m8 x2b (x2o + 3) fun v =>
     UnI v .u64 fun res0_3 =>
     LdV m8 x2b (x2o + 4) fun v =>
     UnI v .u64 fun res0_4 =>
     LdV m8 x2b (x2o + 5) fun v =>
     UnS v fun res0_5a res0_5l res0_5c =>
     R (.returned (.agg #[.int .i64 res0_0, .int .u64 res0_1, .int .u64 res0_2, .int .u64 res0_3, .int .u64 res0_4, .slice res0_5a res0_5l res0_5c])) m8) (R (.panicked (nilPanic P)) m1)) (R (.panicked (nilPanic P)) m1)) (R (.panicked (nilPanic P)) m)) (R (.panicked (nilPanic P)) m)
noncomputable def k1A  (R : Ending → Mem → Prop) : ACode := (.code (sR (sR (sR (sR (sR (cT (sR (sL (sR (body)))))))))))
def k3E (K : Option Addr → Nat → Nat → Nat → Nat → Int → Mem → Prop) : Env → Mem → Prop := fun ρ m => UnP (ρ 0) fun x0 => UnPA (ρ 2) fun x2b x2o => UnPA (ρ 4) fun x4b x4o => UnI (ρ 5) .i64 fun x5 => K x0 x2b x2o x4b x4o x5 m
def k3  (x0 : Option Addr) (x2b : Nat) (x2o : Nat) (x4b : Nat) (x4o : Nat) (x5 : Int) (R : Ending → Mem → Prop) (m : Mem) : Prop :=
 NilC x0 (fun x80b x80o =>
  LdV m x80b (x80o + 1) fun v =>
  UnI v .i64 fun x82 =>
  NilC x0 (fun x85b x85o =>
   St1 m x85b (x85o + 1) (.int .i64 (IntKind.i64.wrap (x82 + x5))) fun m1 =>
   LdV m1 x4b x4o fun v =>
   UnI v .u64 fun x87_0 =>
   LdV m1 x4b (x4o + 1) fun v =>
   UnI v .u64 fun x87_1 =>
   LdV m1 x4b (x4o + 2) fun v =>
   UnI v .u64 fun x87_2 =>
   LdV m1 x4b (x4o + 3) fun v =>
   UnI v .u64 fun x87_3 =>
   St1 m1 x2b x2o (.int .i64 1) fun m2 =>
   St1 m2 x2b (x2o + 1) (.int .u64 x87_0) fun m3 =>
   St1 m3 x2b (x2o + 2) (.int .u64 x87_1) fun m4 =>
   St1 m4 x2b (x2o + 3) (.int .u64 x87_2) fun m5 =>
   St1 m5 x2b (x2o + 4) (.int .u64 x87_3) fun m6 =>
   St1 m6 x2b (x2o + 5) (.slice none 0 0) fun m7 =>
   LdV m7 x2b x2o fun v =>
   UnI v .i64 fun res0_0 =>
   LdV m7 x2b (x2o + 1) fun v =>
   UnI v .u64 fun res0_1 =>
   LdV m7 x2b (x2o + 2) fun v =>
   UnI v .u64 fun res0_2 =>
   LdV m7 x2b (x2o + 3) fun v =>
   UnI v .u64 fun res0_3 =>
   LdV m7 x2b (x2o + 4) fun v =>
   UnI v .u64 fun res0_4 =>
   LdV m7 x2b (x2o + 5) fun v =>
   UnS v fun res0_5a res0_5l res0_5c =>
   R (.returned (.agg #[.int .i64 res0_0, .int .u64 res0_1, .int .u64 res0_2, .int .u64 res0_3, .int .u64 res0_4, .slice res0_5a res0_5l res0_5c])) m7) (R (.panicked (nilPanic P)) m)) (R (.panicked (nilPanic P)) m)
noncomputable def k3A  (R : Ending → Mem → Prop) : ACode := (.code (sR (sR (sR (sR (body))))))
def k2E (K : Option Addr → Nat → Nat → Nat → Nat → Int → Int → Mem → Prop) : Env → Mem → Prop := fun ρ m => UnP (ρ 0) fun x0 => UnPA (ρ 2) fun x2b x2o => UnPA (ρ 4) fun x4b x4o => UnI (ρ 5) .i64 fun x5 => UnI (ρ 6) .i64 fun x6 => K x0 x2b x2o x4b x4o x5 x6 m
def k2  (x0 : Option Addr) (x2b : Nat) (x2o : Nat) (x4b : Nat) (x4o : Nat) (x5 : Int) (x6 : Int) (R : Ending → Mem → Prop) (m : Mem) : Prop :=
 Br (x6 != 0) (
  HC P eyotref8_reader_fail.id #[.pointer x0, .int .i64 x6] m (Cont (fun v m1 =>
    UnTup v fun us0 =>
    UnNil us0 (
     k3  x0 x2b x2o x4b x4o x5 R m1)) (panicR R))) (
  k3  x0 x2b x2o x4b x4o x5 R m)
noncomputable def k2A  (R : Ending → Mem → Prop) : ACode := (.seq (.code (sL (sR (sR (sR (body)))))) (.cut (k3E fun x0 x2b x2o x4b x4o x5 m => k3  x0 x2b x2o x4b x4o x5 R m) (sR (sR (sR (sR (body)))))))
def e0 (a0 : Option Addr) (R : Ending → Mem → Prop) (m : Mem) : Prop :=
 NewC m #[.int .i64 0, .int .u64 0, .int .u64 0, .int .u64 0, .int .u64 0, .slice none 0 0] T_api_Rx fun b2 m1 =>
 HC P eyotref8_reader_is.id #[.pointer a0, .int .u8 40] m1 (Cont (fun v m2 =>
   UnB v fun x8 =>
   Br x8 (
    NilC a0 (fun x10b x10o =>
     LdV m2 x10b (x10o + 2) fun v =>
     UnI v .i64 fun x12 =>
     Br (decide (x12 > 12)) (
      HC P eyotref8_reader_fail.id #[.pointer a0, .int .i64 6] m2 (Cont (fun v m3 =>
        UnTup v fun us0 =>
        UnNil us0 (
        St1 m3 b2 0 (.int .i64 0) fun m4 =>
        St1 m4 b2 1 (.int .u64 0) fun m5 =>
        St1 m5 b2 2 (.int .u64 0) fun m6 =>
        St1 m6 b2 3 (.int .u64 0) fun m7 =>
        St1 m7 b2 4 (.int .u64 0) fun m8 =>
        St1 m8 b2 5 (.slice none 0 0) fun m9 =>
        LdV m9 b2 0 fun v =>
        UnI v .i64 fun res0_0 =>
        LdV m9 b2 1 fun v =>
        UnI v .u64 fun res0_1 =>
        LdV m9 b2 2 fun v =>
        UnI v .u64 fun res0_2 =>
        LdV m9 b2 3 fun v =>
        UnI v .u64 fun res0_3 =>
        LdV m9 b2 4 fun v =>
        UnI v .u64 fun res0_4 =>
        LdV m9 b2 5 fun v =>
        UnS v fun res0_5a res0_5l res0_5c =>
        R (.returned (.agg #[.int .i64 res0_0, .int .u64 res0_1, .int .u64 res0_2, .int .u64 res0_3, .int .u64 res0_4, .slice res0_5a res0_5l res0_5c])) m9)) (panicR R))) (
      NilC a0 (fun x18b x18o =>
       LdV m2 x18b (x18o + 2) fun v =>
       UnI v .i64 fun x20 =>
       NilC a0 (fun x22b x22o =>
        St1 m2 x22b (x22o + 2) (.int .i64 (IntKind.i64.wrap (x20 + 1))) fun m3 =>
        NilC a0 (fun x25b x25o =>
        LdV m3 x25b (x25o + 1) fun v =>
        UnI v .i64 fun x27 =>
        NilC a0 (fun x29b x29o =>
        St1 m3 x29b (x29o + 1) (.int .i64 (IntKind.i64.wrap (x27 + 1))) fun m4 =>
        HC P eyotref8_reader_alt.id #[.pointer a0] m4 (Cont (fun v m5 =>
        UnAgg v fun l =>
        UnCons l fun v l =>
        UnI v .i64 fun x32_0 =>
        UnCons l fun v l =>
        UnI v .u64 fun x32_1 =>
        UnCons l fun v l =>
        UnI v .u64 fun x32_2 =>
        UnCons l fun v l =>
        UnI v .u64 fun x32_3 =>
        UnCons l fun v l =>
        UnI v .u64 fun x32_4 =>
        UnCons l fun v l =>
        UnS v fun x32_5a x32_5l x32_5c =>
        UnNil l (
        NewC m5 #[.int .i64 0, .int .u64 0, .int .u64 0, .int .u64 0, .int .u64 0, .slice none 0 0] T_api_Rx fun b3 m6 =>
        St1 m6 b3 0 (.int .i64 x32_0) fun m7 =>
        St1 m7 b3 1 (.int .u64 x32_1) fun m8 =>
        St1 m8 b3 2 (.int .u64 x32_2) fun m9 =>
        St1 m9 b3 3 (.int .u64 x32_3) fun m10 =>
        St1 m10 b3 4 (.int .u64 x32_4) fun m11 =>
        St1 m11 b3 5 (.slice x32_5a x32_5l x32_5c) fun m12 =>
        HC P eyotref8_reader_is.id #[.pointer a0, .int .u8 41] m12 (Cont (fun v m13 =>
        UnB v fun x34 =>
        Br (!x34) (
        HC P eyotref8_reader_fail.id #[.pointer a0, .int .i64 2] m13 (Cont (fun v m14 =>
        UnTup v fun us0 =>
        UnNil us0 (
        k1  a0 b2 0 b3 0 R m14)) (panicR R))) (
        k1  a0 b2 0 b3 0 R m13)) (panicR R)))) (panicR R))) (R (.panicked (nilPanic P)) m3)) (R (.panicked (nilPanic P)) m3)) (R (.panicked (nilPanic P)) m2)) (R (.panicked (nilPanic P)) m2))) (R (.panicked (nilPanic P)) m2)) (
    Sub m2 fun r3 =>
    NilC a0 (fun x55b x55o =>
     LdV r3 x55b x55o fun v =>
     UnStr v fun x57 =>
     NilC a0 (fun x59b x59o =>
      LdV r3 x59b (x59o + 1) fun v =>
      UnI v .i64 fun x61 =>
      NilC a0 (fun x63b x63o =>
       LdV r3 x63b x63o fun v =>
       UnStr v fun x65 =>
       SlB x57 (if (x65.size : Int) < x61 then (x65.size : Int) else x61) (x57.size : Int) fun x68 =>
       (
        HC P eyotref8_Class.id #[.string x68] m2 (Cont (fun v m4 =>
        UnTup v fun us0 =>
        UnCons us0 fun w us1 =>
        UnAgg w fun l =>
        UnCons l fun v l =>
        UnI v .u64 fun x69_0_0 =>
        UnCons l fun v l =>
        UnI v .u64 fun x69_0_1 =>
        UnCons l fun v l =>
        UnI v .u64 fun x69_0_2 =>
        UnCons l fun v l =>
        UnI v .u64 fun x69_0_3 =>
        UnNil l (
        UnCons us1 fun w us2 =>
        UnI w .i64 fun x69_1 =>
        UnCons us2 fun w us3 =>
        UnI w .i64 fun x69_2 =>
        UnNil us3 (
        NewC m4 #[.int .u64 0, .int .u64 0, .int .u64 0, .int .u64 0] T_api_Set fun b4 m5 =>
        St1 m5 b4 0 (.int .u64 x69_0_0) fun m6 =>
        St1 m6 b4 1 (.int .u64 x69_0_1) fun m7 =>
        St1 m7 b4 2 (.int .u64 x69_0_2) fun m8 =>
        St1 m8 b4 3 (.int .u64 x69_0_3) fun m9 =>
        k2  a0 b2 0 b4 0 x69_1 x69_2 R m9))) (panicR R))) ∧ (
        NewC m2 #[.int .u64 0, .int .u64 0, .int .u64 0, .int .u64 0] T_api_Set fun b4 m4 =>
        Lk r3 m4 fun r5 =>
        HC P eyotref8_Class.id #[.string x68] m4 (Cont (fun v m6 =>
        UnTup v fun us0 =>
        UnCons us0 fun w us1 =>
        UnAgg w fun l =>
        UnCons l fun v l =>
        UnI v .u64 fun x69_0_0 =>
        UnCons l fun v l =>
        UnI v .u64 fun x69_0_1 =>
        UnCons l fun v l =>
        UnI v .u64 fun x69_0_2 =>
        UnCons l fun v l =>
        UnI v .u64 fun x69_0_3 =>
        UnNil l (
        UnCons us1 fun w us2 =>
        UnI w .i64 fun x69_1 =>
        UnCons us2 fun w us3 =>
        UnI w .i64 fun x69_2 =>
        UnNil us3 (
        St1 m6 b4 0 (.int .u64 x69_0_0) fun m7 =>
        St1 m7 b4 1 (.int .u64 x69_0_1) fun m8 =>
        St1 m8 b4 2 (.int .u64 x69_0_2) fun m9 =>
        St1 m9 b4 3 (.int .u64 x69_0_3) fun m10 =>
        k2  a0 b2 0 b4 0 x69_1 x69_2 R m10))) (panicR R)))) (False)) (False)) (False))) (panicR R))
noncomputable def e0A (R : Ending → Mem → Prop) : ACode := (.seq (.code (sL (body))) (.seq (.seq (.code (sL (sL (sR (body))))) (.cond (.tmp 8) (.seq (.code (sL (cT (sR (sL (sR (body))))))) (.seq (.code (sL (sR (cT (sR (sL (sR (body)))))))) (.seq (.code (sL (sR (sR (cT (sR (sL (sR (body))))))))) (.seq (.code (sL (sR (sR (sR (cT (sR (sL (sR (body)))))))))) (.seq (.code (sL (sR (sR (sR (sR (cT (sR (sL (sR (body))))))))))) (.cut (k1E fun x0 x2b x2o x3b x3o m => k1  x0 x2b x2o x3b x3o R m) (sR (sR (sR (sR (sR (cT (sR (sL (sR (body)))))))))))))))) (.code (cE (sR (sL (sR (body)))))))) (.seq (.code (sL (sR (sR (body))))) (.cut (k2E fun x0 x2b x2o x4b x4o x5 x6 m => k2  x0 x2b x2o x4b x4o x5 x6 R m) (sR (sR (sR (body))))))))
abbrev k2Q  (R : Ending → Mem → Prop) : Exit → Env → Mem → Prop := (bodyQ P fn R)
abbrev k3Q  (R : Ending → Mem → Prop) : Exit → Env → Mem → Prop := (k2Q  R)
abbrev k1Q  (R : Ending → Mem → Prop) : Exit → Env → Mem → Prop := (thenQ (acpt P od (panicR R) (.seq (.code (sL (sR (sR (body))))) (.cut (k2E fun x0 x2b x2o x4b x4o x5 x6 m => k2  x0 x2b x2o x4b x4o x5 x6 R m) (sR (sR (sR (body)))))) (bodyQ P fn R)) (bodyQ P fn R))
theorem k1_eq  (R : Ending → Mem → Prop) (x0 : Option Addr) (x2b : Nat) (x2o : Nat) (x3b : Nat) (x3o : Nat) (ρ : Env) (m : Mem) : k1  x0 x2b x2o x3b x3o R m = acpt P od (panicR R) (k1A  R) (k1Q  R) (upd (upd (upd ρ 3 (.pointer (some ⟨x3b, x3o, none⟩))) 2 (.pointer (some ⟨x2b, x2o, none⟩))) 0 (.pointer x0)) m := by kernel_rfl
theorem k1_er  (R : Ending → Mem → Prop) : (k1A  R).erase = sR (sR (sR (sR (sR (cT (sR (sL (sR (body))))))))) := by kernel_rfl
theorem k1_ok  (R : Ending → Mem → Prop) (ρ : Env) (m : Mem) (h : (k1E fun x0 x2b x2o x3b x3o m => k1  x0 x2b x2o x3b x3o R m) ρ m) : cpt P od (panicR R) (sR (sR (sR (sR (sR (cT (sR (sL (sR (body)))))))))) (k1Q  R) ρ m := by
  unfold k1E at h
  obtain ⟨x0, e0, h⟩ := h.ex
  obtain ⟨x2b, x2o, e2, h⟩ := h.ex
  obtain ⟨x3b, x3o, e3, h⟩ := h.ex
  rw [← upd_self e0, ← upd_self e2, ← upd_self e3]
  rw [← k1_er  R]
  refine acpt_sound (P := P) (k1A  R) _ _ _ True.intro ?_
  exact Eq.mp (k1_eq  R x0 x2b x2o x3b x3o ρ m) h
theorem k3_eq  (R : Ending → Mem → Prop) (x0 : Option Addr) (x2b : Nat) (x2o : Nat) (x4b : Nat) (x4o : Nat) (x5 : Int) (ρ : Env) (m : Mem) : k3  x0 x2b x2o x4b x4o x5 R m = acpt P od (panicR R) (k3A  R) (k3Q  R) (upd (upd (upd (upd ρ 5 (.int .i64 x5)) 4 (.pointer (some ⟨x4b, x4o, none⟩))) 2 (.pointer (some ⟨x2b, x2o, none⟩))) 0 (.pointer x0)) m := by kernel_rfl
theorem k3_er  (R : Ending → Mem → Prop) : (k3A  R).erase = sR (sR (sR (sR (body)))) := by kernel_rfl
theorem k3_ok  (R : Ending → Mem → Prop) (ρ : Env) (m : Mem) (h : (k3E fun x0 x2b x2o x4b x4o x5 m => k3  x0 x2b x2o x4b x4o x5 R m) ρ m) : cpt P od (panicR R) (sR (sR (sR (sR (body))))) (k3Q  R) ρ m := by
  unfold k3E at h
  obtain ⟨x0, e0, h⟩ := h.ex
  obtain ⟨x2b, x2o, e2, h⟩ := h.ex
  obtain ⟨x4b, x4o, e4, h⟩ := h.ex
  obtain ⟨x5, e5, h⟩ := h.ex
  rw [← upd_self e0, ← upd_self e2, ← upd_self e4, ← upd_self e5]
  rw [← k3_er  R]
  refine acpt_sound (P := P) (k3A  R) _ _ _ True.intro ?_
  exact Eq.mp (k3_eq  R x0 x2b x2o x4b x4o x5 ρ m) h
theorem k2_eq  (R : Ending → Mem → Prop) (x0 : Option Addr) (x2b : Nat) (x2o : Nat) (x4b : Nat) (x4o : Nat) (x5 : Int) (x6 : Int) (ρ : Env) (m : Mem) : k2  x0 x2b x2o x4b x4o x5 x6 R m = acpt P od (panicR R) (k2A  R) (k2Q  R) (upd (upd (upd (upd (upd ρ 6 (.int .i64 x6)) 5 (.int .i64 x5)) 4 (.pointer (some ⟨x4b, x4o, none⟩))) 2 (.pointer (some ⟨x2b, x2o, none⟩))) 0 (.pointer x0)) m := by kernel_rfl
theorem k2_er  (R : Ending → Mem → Prop) : (k2A  R).erase = sR (sR (sR (body))) := by kernel_rfl
theorem k2_ok  (R : Ending → Mem → Prop) (ρ : Env) (m : Mem) (h : (k2E fun x0 x2b x2o x4b x4o x5 x6 m => k2  x0 x2b x2o x4b x4o x5 x6 R m) ρ m) : cpt P od (panicR R) (sR (sR (sR (body)))) (k2Q  R) ρ m := by
  unfold k2E at h
  obtain ⟨x0, e0, h⟩ := h.ex
  obtain ⟨x2b, x2o, e2, h⟩ := h.ex
  obtain ⟨x4b, x4o, e4, h⟩ := h.ex
  obtain ⟨x5, e5, h⟩ := h.ex
  obtain ⟨x6, e6, h⟩ := h.ex
  rw [← upd_self e0, ← upd_self e2, ← upd_self e4, ← upd_self e5, ← upd_self e6]
  rw [← k2_er  R]
  refine acpt_sound (P := P) (k2A  R) _ _ _ ⟨(fun ρ m h => k3_ok  R ρ m h), True.intro⟩ ?_
  exact Eq.mp (k2_eq  R x0 x2b x2o x4b x4o x5 x6 ρ m) h
theorem e0_eq (a0 : Option Addr) (R : Ending → Mem → Prop) (m : Mem) : e0 a0 R m = acpt P od (panicR R) (e0A R) (bodyQ P fn R) (argE (#[.pointer a0] : Array Value).toList) m := by kernel_rfl
theorem ok (a0 : Option Addr) (R : Ending → Mem → Prop) (m : Mem) (h : e0 a0 R m) : HC P id #[.pointer a0] m R := by
  refine HC_of (fn := fn) (c := body) (od := od) (tb := tb) Go.Proofs.Tryd.func79 (by kernel_rfl) (by kernel_rfl) follows (by kernel_rfl) (of_decide_eq_true (by kernel_rfl)) ?_
  have he : (e0A R).erase = body := by kernel_rfl
  rw [← he]
  refine acpt_sound (P := P) (e0A R) _ _ _ ⟨⟨⟨(fun ρ m h => k2_ok  R ρ m h), True.intro⟩, ⟨⟨⟨⟨⟨⟨⟨(fun ρ m h => k1_ok  R ρ m h), True.intro⟩, True.intro⟩, True.intro⟩, True.intro⟩, True.intro⟩, True.intro⟩, True.intro⟩⟩, True.intro⟩ ?_
  exact Eq.mp (e0_eq a0 R m) h
end eyotref8_reader_atom
/-! ### internal/stringslite.IndexByte -/
namespace internal_stringslite_IndexByte
noncomputable def fn : Func := Go.Proofs.Tryd.f80
noncomputable def body : Code := fn.body.getD .skip
def od : Nat → Ord := fun _ => .done
def tb : Nat → Tab := fun _ => (0, [], [])
def e0 (s_0 : ByteArray) (c_1 : Int) (R : Ending → Mem → Prop) (m : Mem) : Prop :=
 HC P internal_bytealg_IndexByteString.id #[.string s_0, .int .u8 c_1] m (Cont (fun v m1 =>
   UnI v .i64 fun x7 =>
   R (.returned (.int .i64 x7)) m1) (panicR R))
noncomputable def e0A (R : Ending → Mem → Prop) : ACode := (.code (body))
theorem e0_eq (s_0 : ByteArray) (c_1 : Int) (R : Ending → Mem → Prop) (m : Mem) : e0 s_0 c_1 R m = acpt P od (panicR R) (e0A R) (bodyQ P fn R) (argE (#[.string s_0, .int .u8 c_1] : Array Value).toList) m := by kernel_rfl
theorem ok (s_0 : ByteArray) (c_1 : Int) (R : Ending → Mem → Prop) (m : Mem) (h : e0 s_0 c_1 R m) : HC P id #[.string s_0, .int .u8 c_1] m R := by
  refine HC_of (fn := fn) (c := body) (od := od) (tb := tb) Go.Proofs.Tryd.func80 (by kernel_rfl) (by kernel_rfl) follows (by kernel_rfl) (of_decide_eq_true (by kernel_rfl)) ?_
  have he : (e0A R).erase = body := by kernel_rfl
  rw [← he]
  refine acpt_sound (P := P) (e0A R) _ _ _ True.intro ?_
  exact Eq.mp (e0_eq s_0 c_1 R m) h
end internal_stringslite_IndexByte
/-! ### eyot/class.Parse -/
namespace class_Parse
noncomputable def fn : Func := Go.Proofs.Tryd.f83
noncomputable def fnR : Func := { fn with results := #[] }
noncomputable def body : Code := fn.body.getD .skip
def od : Nat → Ord := fun | 7 => ordL [(0, 1), (1, 3), (2, 3), (3, 3), (4, 1), (5, 0), (6, 2), (7, 2)] .done | _ => .done
def tb : Nat → Tab := fun | 7 => (192, [0, 0, 2, 6, 14, 1, 63, 127], [(0, 4, 24), (0, 32, 25), (2, 16777216, 26), (4, 33554432, 27), (8, 67108864, 28), (1, 8388612, 0), (63, 134217736, 0), (127, 16, 0)]) | _ => (0, [], [])
def k1E (K : ByteArray → Nat → Nat → Nat → Nat → Nat → Nat → Mem → Prop) : Env → Mem → Prop := fun ρ m => UnStr (ρ 0) fun s_0 => UnPA (ρ 2) fun set_2b set_2o => UnPA (ρ 3) fun n_3b n_3o => UnPA (ρ 4) fun e_4b e_4o => K s_0 set_2b set_2o n_3b n_3o e_4b e_4o m
def k1  (s_0 : ByteArray) (set_2b : Nat) (set_2o : Nat) (n_3b : Nat) (n_3o : Nat) (e_4b : Nat) (e_4o : Nat) (R : Ending → Mem → Prop) (m : Mem) : Prop :=
 NewC m #[.string s_0, .int .i64 0] T_class_reader fun b11 m1 =>
 HC P class_reader_class.id #[.pointer (some ⟨b11, 0, none⟩)] m1 (Cont (fun v m2 =>
   UnAgg v fun l =>
   UnCons l fun v l =>
   UnI v .u64 fun x13_0 =>
   UnCons l fun v l =>
   UnI v .u64 fun x13_1 =>
   UnCons l fun v l =>
   UnI v .u64 fun x13_2 =>
   UnCons l fun v l =>
   UnI v .u64 fun x13_3 =>
   UnNil l (
    St1 m2 set_2b set_2o (.int .u64 x13_0) fun m3 =>
    St1 m3 set_2b (set_2o + 1) (.int .u64 x13_1) fun m4 =>
    St1 m4 set_2b (set_2o + 2) (.int .u64 x13_2) fun m5 =>
    St1 m5 set_2b (set_2o + 3) (.int .u64 x13_3) fun m6 =>
    LdV m6 set_2b set_2o fun v =>
    UnI v .u64 fun x15_0 =>
    LdV m6 set_2b (set_2o + 1) fun v =>
    UnI v .u64 fun x15_1 =>
    LdV m6 set_2b (set_2o + 2) fun v =>
    UnI v .u64 fun x15_2 =>
    LdV m6 set_2b (set_2o + 3) fun v =>
    UnI v .u64 fun x15_3 =>
    HC P class_Least.id #[.agg #[.int .u64 x15_0, .int .u64 x15_1, .int .u64 x15_2, .int .u64 x15_3]] m6 (Cont (fun v m7 =>
      UnTup v fun us0 =>
      UnCons us0 fun w us1 =>
      UnI w .u8 fun x16_0 =>
      UnCons us1 fun w us2 =>
      UnB w fun x16_1 =>
      UnNil us2 (
       Br (!x16_1) (
        R (.panicked [{ v := .iface T_class_refusal (.agg #[]), recovered := false }]) m7) (
        Sub m7 fun r8 =>
        LdV r8 set_2b set_2o fun v =>
        UnI v .u64 fun x23_0 =>
        LdV r8 set_2b (set_2o + 1) fun v =>
        UnI v .u64 fun x23_1 =>
        LdV r8 set_2b (set_2o + 2) fun v =>
        UnI v .u64 fun x23_2 =>
        LdV r8 set_2b (set_2o + 3) fun v =>
        UnI v .u64 fun x23_3 =>
        LdV r8 b11 1 fun v =>
        UnI v .i64 fun x27 =>
        St1 m7 set_2b set_2o (.int .u64 x23_0) fun m9 =>
        St1 m9 set_2b (set_2o + 1) (.int .u64 x23_1) fun m10 =>
        St1 m10 set_2b (set_2o + 2) (.int .u64 x23_2) fun m11 =>
        St1 m11 set_2b (set_2o + 3) (.int .u64 x23_3) fun m12 =>
        Lk r8 m12 fun r13 =>
        St1 m12 n_3b n_3o (.int .i64 x27) fun m14 =>
        St1 m14 e_4b e_4o (.int .i64 0) fun m15 =>
        R (.returned (.tuple #[])) m15))) (panicR R)))) (panicR R))
noncomputable def k1A  (R : Ending → Mem → Prop) : ACode := (.code (sR (sR (body))))
abbrev k1Q  (R : Ending → Mem → Prop) : Exit → Env → Mem → Prop := (bodyQ P fnR R)
theorem k1_eq  (R : Ending → Mem → Prop) (s_0 : ByteArray) (set_2b : Nat) (set_2o : Nat) (n_3b : Nat) (n_3o : Nat) (e_4b : Nat) (e_4o : Nat) (ρ : Env) (m : Mem) : k1  s_0 set_2b set_2o n_3b n_3o e_4b e_4o R m = acpt P od (panicR R) (k1A  R) (k1Q  R) (upd (upd (upd (upd ρ 4 (.pointer (some ⟨e_4b, e_4o, none⟩))) 3 (.pointer (some ⟨n_3b, n_3o, none⟩))) 2 (.pointer (some ⟨set_2b, set_2o, none⟩))) 0 (.string s_0)) m := by kernel_rfl
theorem k1_er  (R : Ending → Mem → Prop) : (k1A  R).erase = sR (sR (body)) := by kernel_rfl
theorem k1_ok  (R : Ending → Mem → Prop) (ρ : Env) (m : Mem) (h : (k1E fun s_0 set_2b set_2o n_3b n_3o e_4b e_4o m => k1  s_0 set_2b set_2o n_3b n_3o e_4b e_4o R m) ρ m) : cpt P od (panicR R) (sR (sR (body))) (k1Q  R) ρ m := by
  unfold k1E at h
  obtain ⟨s_0, e0, h⟩ := h.ex
  obtain ⟨set_2b, set_2o, e2, h⟩ := h.ex
  obtain ⟨n_3b, n_3o, e3, h⟩ := h.ex
  obtain ⟨e_4b, e_4o, e4, h⟩ := h.ex
  rw [← upd_self e0, ← upd_self e2, ← upd_self e3, ← upd_self e4]
  rw [← k1_er  R]
  refine acpt_sound (P := P) (k1A  R) _ _ _ True.intro ?_
  exact Eq.mp (k1_eq  R s_0 set_2b set_2o n_3b n_3o e_4b e_4o ρ m) h
/-- Reading the results. -/
def out (d2b : Nat) (d2o : Nat) (d3b : Nat) (d3o : Nat) (d4b : Nat) (d4o : Nat) (R : Ending → Mem → Prop) (m : Mem) : Prop :=
 LdV m d2b d2o fun v =>
 UnI v .u64 fun res0_0 =>
 LdV m d2b (d2o + 1) fun v =>
 UnI v .u64 fun res0_1 =>
 LdV m d2b (d2o + 2) fun v =>
 UnI v .u64 fun res0_2 =>
 LdV m d2b (d2o + 3) fun v =>
 UnI v .u64 fun res0_3 =>
 LdV m d3b d3o fun v =>
 UnI v .i64 fun res1 =>
 LdV m d4b d4o fun v =>
 UnI v .i64 fun res2 =>
 R (.returned (.tuple #[.agg #[.int .u64 res0_0, .int .u64 res0_1, .int .u64 res0_2, .int .u64 res0_3], .int .i64 res1, .int .i64 res2])) m
def p0 (s_0 : ByteArray) (R : Ending → Mem → Prop) (KK : ByteArray → Nat → Nat → Nat → Nat → Nat → Nat → Mem → Prop) (m : Mem) : Prop :=
 NewC m #[.int .u64 0, .int .u64 0, .int .u64 0, .int .u64 0] T_api_Set fun b_set_2 m1 =>
 NewC m1 #[.int .i64 0] T_int fun b_n_3 m2 =>
 NewC m2 #[.int .i64 0] T_api_Errno fun b_e_4 m3 =>
 KK s_0 b_set_2 0 b_n_3 0 b_e_4 0 m3
/-- The rest, its end told by the deferred call. -/
def rest0 (s_0 : ByteArray) (set_2b : Nat) (set_2o : Nat) (n_3b : Nat) (n_3o : Nat) (e_4b : Nat) (e_4o : Nat) (R : Ending → Mem → Prop) (m : Mem) : Prop := k1 s_0 set_2b set_2o n_3b n_3o e_4b e_4o (DefR P class_Parse_1.id #[.pointer (some ⟨set_2b, set_2o, none⟩), .pointer (some ⟨n_3b, n_3o, none⟩), .pointer (some ⟨e_4b, e_4o, none⟩)] (out set_2b set_2o n_3b n_3o e_4b e_4o R)) m
theorem p0_eq (s_0 : ByteArray) (R : Ending → Mem → Prop) (KK : ByteArray → Nat → Nat → Nat → Nat → Nat → Nat → Mem → Prop) (m : Mem) : p0 s_0 R KK m = cpt P od (panicR R) (sL (body)) (aheadQ P fn R (k1E KK)) (argE (#[.string s_0] : Array Value).toList) m := by kernel_rfl
theorem cok : codeOk P od tb 5 fn.ntmps (sR (sR (body))) = true := by kernel_rfl
theorem rest_eq (s_0 : ByteArray) (set_2b : Nat) (set_2o : Nat) (n_3b : Nat) (n_3o : Nat) (e_4b : Nat) (e_4o : Nat) (R : Ending → Mem → Prop) (ρ : Env) (m : Mem) : rest0 s_0 set_2b set_2o n_3b n_3o e_4b e_4o R m = (k1E fun us_0 uset_2b uset_2o un_3b un_3o ue_4b ue_4o m => k1 us_0 uset_2b uset_2o un_3b un_3o ue_4b ue_4o (DefR P class_Parse_1.id #[.pointer (some ⟨set_2b, set_2o, none⟩), .pointer (some ⟨n_3b, n_3o, none⟩), .pointer (some ⟨e_4b, e_4o, none⟩)] (out set_2b set_2o n_3b n_3o e_4b e_4o R)) m) (upd (upd (upd (upd (upd ρ 4 (.pointer (some ⟨e_4b, e_4o, none⟩))) 3 (.pointer (some ⟨n_3b, n_3o, none⟩))) 2 (.pointer (some ⟨set_2b, set_2o, none⟩))) 0 (.string s_0)) 8 (.func (.func 86) #[] #[.pointer (some ⟨set_2b, set_2o, none⟩), .pointer (some ⟨n_3b, n_3o, none⟩), .pointer (some ⟨e_4b, e_4o, none⟩)])) m := by kernel_rfl
theorem rest_ok (s_0 : ByteArray) (set_2b : Nat) (set_2o : Nat) (n_3b : Nat) (n_3o : Nat) (e_4b : Nat) (e_4o : Nat) (R : Ending → Mem → Prop) (ρ : Env) (m : Mem) (h : rest0 s_0 set_2b set_2o n_3b n_3o e_4b e_4o R m) : cpt P od (panicR (DefR P class_Parse_1.id #[.pointer (some ⟨set_2b, set_2o, none⟩), .pointer (some ⟨n_3b, n_3o, none⟩), .pointer (some ⟨e_4b, e_4o, none⟩)] (out set_2b set_2o n_3b n_3o e_4b e_4o R))) (sR (sR (body))) (bodyQ P fnR (DefR P class_Parse_1.id #[.pointer (some ⟨set_2b, set_2o, none⟩), .pointer (some ⟨n_3b, n_3o, none⟩), .pointer (some ⟨e_4b, e_4o, none⟩)] (out set_2b set_2o n_3b n_3o e_4b e_4o R))) (upd (upd (upd (upd (upd ρ 4 (.pointer (some ⟨e_4b, e_4o, none⟩))) 3 (.pointer (some ⟨n_3b, n_3o, none⟩))) 2 (.pointer (some ⟨set_2b, set_2o, none⟩))) 0 (.string s_0)) 8 (.func (.func 86) #[] #[.pointer (some ⟨set_2b, set_2o, none⟩), .pointer (some ⟨n_3b, n_3o, none⟩), .pointer (some ⟨e_4b, e_4o, none⟩)])) m := k1_ok (DefR P class_Parse_1.id #[.pointer (some ⟨set_2b, set_2o, none⟩), .pointer (some ⟨n_3b, n_3o, none⟩), .pointer (some ⟨e_4b, e_4o, none⟩)] (out set_2b set_2o n_3b n_3o e_4b e_4o R)) (upd (upd (upd (upd (upd ρ 4 (.pointer (some ⟨e_4b, e_4o, none⟩))) 3 (.pointer (some ⟨n_3b, n_3o, none⟩))) 2 (.pointer (some ⟨set_2b, set_2o, none⟩))) 0 (.string s_0)) 8 (.func (.func 86) #[] #[.pointer (some ⟨set_2b, set_2o, none⟩), .pointer (some ⟨n_3b, n_3o, none⟩), .pointer (some ⟨e_4b, e_4o, none⟩)])) m (Eq.mp (rest_eq s_0 set_2b set_2o n_3b n_3o e_4b e_4o R ρ m) h)
theorem rest_eq2 (s_0 : ByteArray) (set_2b : Nat) (set_2o : Nat) (n_3b : Nat) (n_3o : Nat) (e_4b : Nat) (e_4o : Nat) (R : Ending → Mem → Prop) (ρ : Env) (m : Mem) : cpt P od (panicR (DefR P class_Parse_1.id #[.pointer (some ⟨set_2b, set_2o, none⟩), .pointer (some ⟨n_3b, n_3o, none⟩), .pointer (some ⟨e_4b, e_4o, none⟩)] (out set_2b set_2o n_3b n_3o e_4b e_4o R))) (sR (sR (body))) (bodyQ P fnR (DefR P class_Parse_1.id #[.pointer (some ⟨set_2b, set_2o, none⟩), .pointer (some ⟨n_3b, n_3o, none⟩), .pointer (some ⟨e_4b, e_4o, none⟩)] (out set_2b set_2o n_3b n_3o e_4b e_4o R))) (upd (upd (upd (upd (upd ρ 4 (.pointer (some ⟨e_4b, e_4o, none⟩))) 3 (.pointer (some ⟨n_3b, n_3o, none⟩))) 2 (.pointer (some ⟨set_2b, set_2o, none⟩))) 0 (.string s_0)) 8 (.func (.func 86) #[] #[.pointer (some ⟨set_2b, set_2o, none⟩), .pointer (some ⟨n_3b, n_3o, none⟩), .pointer (some ⟨e_4b, e_4o, none⟩)])) m = restP P od fn (sR (sR (body))) 86 ((#[.tmp 2, .tmp 3, .tmp 4] : Array Operand).map (evr (upd (upd (upd (upd ρ 4 (.pointer (some ⟨e_4b, e_4o, none⟩))) 3 (.pointer (some ⟨n_3b, n_3o, none⟩))) 2 (.pointer (some ⟨set_2b, set_2o, none⟩))) 0 (.string s_0)))) R (upd (upd (upd (upd (upd ρ 4 (.pointer (some ⟨e_4b, e_4o, none⟩))) 3 (.pointer (some ⟨n_3b, n_3o, none⟩))) 2 (.pointer (some ⟨set_2b, set_2o, none⟩))) 0 (.string s_0)) 8 (.func (.func 86) #[] ((#[.tmp 2, .tmp 3, .tmp 4] : Array Operand).map (evr (upd (upd (upd (upd ρ 4 (.pointer (some ⟨e_4b, e_4o, none⟩))) 3 (.pointer (some ⟨n_3b, n_3o, none⟩))) 2 (.pointer (some ⟨set_2b, set_2o, none⟩))) 0 (.string s_0)))))) m := by kernel_rfl
theorem ok (s_0 : ByteArray) (R : Ending → Mem → Prop) (m : Mem) (h : p0 s_0 R (fun s_0 set_2b set_2o n_3b n_3o e_4b e_4o m => rest0 s_0 set_2b set_2o n_3b n_3o e_4b e_4o R m) m) : HC P id #[.string s_0] m R := by
  have h := Eq.mp (p0_eq s_0 R (fun s_0 set_2b set_2o n_3b n_3o e_4b e_4o m => rest0 s_0 set_2b set_2o n_3b n_3o e_4b e_4o R m) m) h
  refine HC_of_DW (fn := fn) (c := (.seq (sL (body)) (.seq (.region 1 #[⟨some 8, .makeFunc (.func 86) #[] #[.tmp 2, .tmp 3, .tmp 4], 1, "class.go:166", #[], none⟩, ⟨none, .defer ⟨.value (.tmp 8), #[], #[]⟩, 0, "class.go:166", #[⟨0, .data⟩], none⟩] false) (sR (sR (body)))))) Go.Proofs.Tryd.func83 (by kernel_rfl) (by kernel_rfl) (of_decide_eq_true (by kernel_rfl)) ?_
  refine DW_seq (tb := tb) (od := od) follows (by kernel_rfl) ?_
  refine cpt_mono (P := P) (sL (body)) (Q := aheadQ P fn R (k1E (fun s_0 set_2b set_2o n_3b n_3o e_4b e_4o m => rest0 s_0 set_2b set_2o n_3b n_3o e_4b e_4o R m))) (fun e ρ m h => ?_) _ _ h
  cases e with
  | normal =>
    have h : k1E (fun s_0 set_2b set_2o n_3b n_3o e_4b e_4o m => rest0 s_0 set_2b set_2o n_3b n_3o e_4b e_4o R m) ρ m := h
    unfold k1E at h
    obtain ⟨s_0, e0, h⟩ := h.ex
    obtain ⟨set_2b, set_2o, e2, h⟩ := h.ex
    obtain ⟨n_3b, n_3o, e3, h⟩ := h.ex
    obtain ⟨e_4b, e_4o, e4, h⟩ := h.ex
    rw [← upd_self e0, ← upd_self e2, ← upd_self e3, ← upd_self e4]
    refine DW_defer (tb := tb) (od := od) (gn := Go.Proofs.Tryd.f86) (lo := 5) Go.Proofs.Tryd.func86 (by kernel_rfl) (by kernel_rfl) follows cok (by kernel_rfl) (by kernel_rfl) ?_
    exact Eq.mp (rest_eq2 s_0 set_2b set_2o n_3b n_3o e_4b e_4o R ρ m) (rest_ok s_0 set_2b set_2o n_3b n_3o e_4b e_4o R ρ m h)
  | _ => exact h
end class_Parse
end
end Go.E
set_option linter.unusedVariables false
set_option maxRecDepth 100000
namespace Go.E
open Go.H
noncomputable section
/-! ### eyot/class.Parse$1 -/
namespace class_Parse_1
noncomputable def fn : Func := Go.Proofs.Tryd.f86
noncomputable def body : Code := fn.body.getD .skip
noncomputable def ops : Array Oper := rgOps (sL body)
def od : Nat → Ord := fun _ => .done
def tb : Nat → Tab := fun _ => (0, [], [])
def tnone (c0b : Nat) (c1b : Nat) (c2b : Nat)  (K : Mem → Prop) (m : Mem) : Prop :=
 NewC m #[] T_class_refusal fun b3 m1 =>
 K m1
theorem df_none (c0b : Nat) (c1b : Nat) (c2b : Nat)  (K : Mem → Prop) (m : Mem) (h : tnone c0b c1b c2b  K m) : DF P id #[.pointer (some ⟨c0b, 0, none⟩), .pointer (some ⟨c1b, 0, none⟩), .pointer (some ⟨c2b, 0, none⟩)] none m K := by
  refine DF_of (tb := tb) (od := od) (gn := fn) (id := 0) (d := 6) (ops := ops) (ol := ops.toList.tail) (rest := sR body) (tys := #[]) (ty := 20) (pos := "class.go:167") (af := #[])
    Go.Proofs.Tryd.func86 (by kernel_rfl) follows (by kernel_rfl) (by kernel_rfl) (by kernel_rfl) (of_decide_eq_true (by kernel_rfl)) (by kernel_rfl) ?_
  have e : tnone c0b c1b c2b  K m = hops P ops (fun ρ m => cpt P od (fun _ _ => False) (sR body) (doneQ K) ρ m) (fun _ _ => False) ops.toList.tail (upd (argE (#[.pointer (some ⟨c0b, 0, none⟩), .pointer (some ⟨c1b, 0, none⟩), .pointer (some ⟨c2b, 0, none⟩)] : Array Value).toList) 6 (recV none)) m := by kernel_rfl
  exact Eq.mp e h
def tsome (c0b : Nat) (c1b : Nat) (c2b : Nat)  (K : Mem → Prop) (m : Mem) : Prop :=
 NewC m #[] T_class_refusal fun b3 m1 =>
 St1 m1 c0b 0 (.int .u64 0) fun m2 =>
 St1 m2 c0b 1 (.int .u64 0) fun m3 =>
 St1 m3 c0b 2 (.int .u64 0) fun m4 =>
 St1 m4 c0b 3 (.int .u64 0) fun m5 =>
 St1 m5 c1b 0 (.int .i64 0) fun m6 =>
 St1 m6 c2b 0 (.int .i64 2) fun m7 =>
 K m7
theorem df_some (c0b : Nat) (c1b : Nat) (c2b : Nat)  (K : Mem → Prop) (m : Mem) (h : tsome c0b c1b c2b  K m) : DF P id #[.pointer (some ⟨c0b, 0, none⟩), .pointer (some ⟨c1b, 0, none⟩), .pointer (some ⟨c2b, 0, none⟩)] (some (.iface T_class_refusal (.agg #[]))) m K := by
  refine DF_of (tb := tb) (od := od) (gn := fn) (id := 0) (d := 6) (ops := ops) (ol := ops.toList.tail) (rest := sR body) (tys := #[]) (ty := 20) (pos := "class.go:167") (af := #[])
    Go.Proofs.Tryd.func86 (by kernel_rfl) follows (by kernel_rfl) (by kernel_rfl) (by kernel_rfl) (of_decide_eq_true (by kernel_rfl)) (by kernel_rfl) ?_
  have e : tsome c0b c1b c2b  K m = hops P ops (fun ρ m => cpt P od (fun _ _ => False) (sR body) (doneQ K) ρ m) (fun _ _ => False) ops.toList.tail (upd (argE (#[.pointer (some ⟨c0b, 0, none⟩), .pointer (some ⟨c1b, 0, none⟩), .pointer (some ⟨c2b, 0, none⟩)] : Array Value).toList) 6 (recV (some (.iface T_class_refusal (.agg #[]))))) m := by kernel_rfl
  exact Eq.mp e h
end class_Parse_1
end
end Go.E
set_option linter.unusedVariables false
set_option maxRecDepth 100000
namespace Go.E
open Go.H
noncomputable section
/-! ### (*eyot/class.reader).class -/
namespace class_reader_class
noncomputable def fn : Func := Go.Proofs.Tryd.f87
noncomputable def body : Code := fn.body.getD .skip
def od : Nat → Ord := fun | 14 => ordL [(0, 1), (1, 3), (2, 0), (3, 2), (4, 2)] .done | _ => .done
def tb : Nat → Tab := fun | 14 => (24, [0, 0, 2, 7, 15], [(0, 32, 35), (0, 1, 36), (2, 34359738368, 37), (5, 85899345920, 38), (15, 137438953504, 0)]) | _ => (0, [], [])
def k3E (K : Option Addr → Nat → Nat → Bool → Nat → Nat → Mem → Prop) : Env → Mem → Prop := fun ρ m => UnP (ρ 0) fun r_0 => UnPA (ρ 2) fun x2b x2o => UnB (ρ 4) fun other_4 => UnPA (ρ 5) fun s_5b s_5o => K r_0 x2b x2o other_4 s_5b s_5o m
def k3  (r_0 : Option Addr) (x2b : Nat) (x2o : Nat) (other_4 : Bool) (s_5b : Nat) (s_5o : Nat) (R : Ending → Mem → Prop) (m : Mem) : Prop :=
 HC P class_reader_take.id #[.pointer r_0] m (Cont (fun v m1 =>
   UnI v .u8 fun x39 =>
   Br other_4 (
    LdV m1 s_5b s_5o fun v =>
    UnI v .u64 fun x41_0 =>
    LdV m1 s_5b (s_5o + 1) fun v =>
    UnI v .u64 fun x41_1 =>
    LdV m1 s_5b (s_5o + 2) fun v =>
    UnI v .u64 fun x41_2 =>
    LdV m1 s_5b (s_5o + 3) fun v =>
    UnI v .u64 fun x41_3 =>
    HC P class_Not.id #[.agg #[.int .u64 x41_0, .int .u64 x41_1, .int .u64 x41_2, .int .u64 x41_3]] m1 (Cont (fun v m2 =>
      UnAgg v fun l =>
      UnCons l fun v l =>
      UnI v .u64 fun x42_0 =>
      UnCons l fun v l =>
      UnI v .u64 fun x42_1 =>
      UnCons l fun v l =>
      UnI v .u64 fun x42_2 =>
      UnCons l fun v l =>
      UnI v .u64 fun x42_3 =>
      UnNil l (
       St1 m2 s_5b s_5o (.int .u64 x42_0) fun m3 =>
       St1 m3 s_5b (s_5o + 1) (.int .u64 x42_1) fun m4 =>
       St1 m4 s_5b (s_5o + 2) (.int .u64 x42_2) fun m5 =>
       St1 m5 s_5b (s_5o + 3) (.int .u64 x42_3) fun m6 =>
       LdV m6 s_5b s_5o fun v =>
       UnI v .u64 fun x43_0 =>
       LdV m6 s_5b (s_5o + 1) fun v =>
       UnI v .u64 fun x43_1 =>
       LdV m6 s_5b (s_5o + 2) fun v =>
       UnI v .u64 fun x43_2 =>
       LdV m6 s_5b (s_5o + 3) fun v =>
       UnI v .u64 fun x43_3 =>
       St1 m6 x2b x2o (.int .u64 x43_0) fun m7 =>
       St1 m7 x2b (x2o + 1) (.int .u64 x43_1) fun m8 =>
       St1 m8 x2b (x2o + 2) (.int .u64 x43_2) fun m9 =>
       St1 m9 x2b (x2o + 3) (.int .u64 x43_3) fun m10 =>
       LdV m10 x2b x2o fun v =>
       UnI v .u64 fun res0_0 =>
       LdV m10 x2b (x2o + 1) fun v =>
       UnI v .u64 fun res0_1 =>
       LdV m10 x2b (x2o + 2) fun v =>
       UnI v .u64 fun res0_2 =>
       LdV m10 x2b (x2o + 3) fun v =>
       UnI v .u64 fun res0_3 =>
       R (.returned (.agg #[.int .u64 res0_0, .int .u64 res0_1, .int .u64 res0_2, .int .u64 res0_3])) m10)) (panicR R))) (
    LdV m1 s_5b s_5o fun v =>
    UnI v .u64 fun x43_0 =>
    LdV m1 s_5b (s_5o + 1) fun v =>
    UnI v .u64 fun x43_1 =>
    LdV m1 s_5b (s_5o + 2) fun v =>
    UnI v .u64 fun x43_2 =>
    LdV m1 s_5b (s_5o + 3) fun v =>
    UnI v .u64 fun x43_3 =>
    St1 m1 x2b x2o (.int .u64 x43_0) fun m2 =>
    St1 m2 x2b (x2o + 1) (.int .u64 x43_1) fun m3 =>
    St1 m3 x2b (x2o + 2) (.int .u64 x43_2) fun m4 =>
    St1 m4 x2b (x2o + 3) (.int .u64 x43_3) fun m5 =>
    LdV m5 x2b x2o fun v =>
    UnI v .u64 fun res0_0 =>
    LdV m5 x2b (x2o + 1) fun v =>
    UnI v .u64 fun res0_1 =>
    LdV m5 x2b (x2o + 2) fun v =>
    UnI v .u64 fun res0_2 =>
    LdV m5 x2b (x2o + 3) fun v =>
    UnI v .u64 fun res0_3 =>
    R (.returned (.agg #[.int .u64 res0_0, .int .u64 res0_1, .int .u64 res0_2, .int .u64 res0_3])) m5)) (panicR R))
noncomputable def k3A  (R : Ending → Mem → Prop) : ACode := (.code (sR (sR (sR (sR (sR (sR (sR (body)))))))))
def l2E (K : Option Addr → Nat → Nat → Bool → Nat → Nat → Mem → Prop) : Env → Mem → Prop := fun ρ m => UnP (ρ 0) fun r_0 => UnPA (ρ 2) fun x2b x2o => UnB (ρ 4) fun other_4 => UnPA (ρ 5) fun s_5b s_5o => K r_0 x2b x2o other_4 s_5b s_5o m
def l2B  (K2 : Option Addr → Nat → Nat → Bool → Nat → Nat → Mem → Prop) (r_0 : Option Addr) (x2b : Nat) (x2o : Nat) (other_4 : Bool) (s_5b : Nat) (s_5o : Nat) (R : Ending → Mem → Prop) (m : Mem) : Prop :=
 HC P class_reader_next.id #[.pointer r_0] m (Cont (fun v m1 =>
   UnI v .u8 fun x32 =>
   Br (x32 != 93) (
    Sub m1 fun r2 =>
    LdV r2 s_5b s_5o fun v =>
    UnI v .u64 fun x34_0 =>
    LdV r2 s_5b (s_5o + 1) fun v =>
    UnI v .u64 fun x34_1 =>
    LdV r2 s_5b (s_5o + 2) fun v =>
    UnI v .u64 fun x34_2 =>
    LdV r2 s_5b (s_5o + 3) fun v =>
    UnI v .u64 fun x34_3 =>
    HC P class_reader_part.id #[.pointer r_0] m1 (Cont (fun v m3 =>
      UnAgg v fun l =>
      UnCons l fun v l =>
      UnI v .u64 fun x36_0 =>
      UnCons l fun v l =>
      UnI v .u64 fun x36_1 =>
      UnCons l fun v l =>
      UnI v .u64 fun x36_2 =>
      UnCons l fun v l =>
      UnI v .u64 fun x36_3 =>
      UnNil l (
       Lk r2 m3 fun r4 =>
       HC P class_Or.id #[.agg #[.int .u64 x34_0, .int .u64 x34_1, .int .u64 x34_2, .int .u64 x34_3], .agg #[.int .u64 x36_0, .int .u64 x36_1, .int .u64 x36_2, .int .u64 x36_3]] m3 (Cont (fun v m5 =>
        UnAgg v fun l =>
        UnCons l fun v l =>
        UnI v .u64 fun x37_0 =>
        UnCons l fun v l =>
        UnI v .u64 fun x37_1 =>
        UnCons l fun v l =>
        UnI v .u64 fun x37_2 =>
        UnCons l fun v l =>
        UnI v .u64 fun x37_3 =>
        UnNil l (
        St1 m5 s_5b s_5o (.int .u64 x37_0) fun m6 =>
        St1 m6 s_5b (s_5o + 1) (.int .u64 x37_1) fun m7 =>
        St1 m7 s_5b (s_5o + 2) (.int .u64 x37_2) fun m8 =>
        St1 m8 s_5b (s_5o + 3) (.int .u64 x37_3) fun m9 =>
        K2 r_0 x2b x2o other_4 s_5b s_5o m9)) (panicR R)))) (panicR R))) (
    k3  r_0 x2b x2o other_4 s_5b s_5o R m1)) (panicR R))
def l2  (r_0 : Option Addr) (x2b : Nat) (x2o : Nat) (other_4 : Bool) (s_5b : Nat) (s_5o : Nat) (R : Ending → Mem → Prop) (m : Mem) : Prop :=
  ∃ (I : Nat → Option Addr → Nat → Nat → Bool → Nat → Nat → Mem → Prop) (N : Nat), I N r_0 x2b x2o other_4 s_5b s_5o m ∧ ∀ N r_0 x2b x2o other_4 s_5b s_5o m, I N r_0 x2b x2o other_4 s_5b s_5o m → l2B  (fun r_0 x2b x2o other_4 s_5b s_5o m => ∃ N1, N1 < N ∧ I N1 r_0 x2b x2o other_4 s_5b s_5o m) r_0 x2b x2o other_4 s_5b s_5o R m
noncomputable def l2A  (K2 : Option Addr → Nat → Nat → Bool → Nat → Nat → Mem → Prop) (R : Ending → Mem → Prop) : ACode := (.code (lP (bB (sL (sR (sR (sR (sR (sR (sR (body)))))))))))
def k1E (K : Option Addr → Nat → Nat → Bool → Mem → Prop) : Env → Mem → Prop := fun ρ m => UnP (ρ 0) fun r_0 => UnPA (ρ 2) fun x2b x2o => UnB (ρ 4) fun other_4 => K r_0 x2b x2o other_4 m
def k1  (r_0 : Option Addr) (x2b : Nat) (x2o : Nat) (other_4 : Bool) (R : Ending → Mem → Prop) (m : Mem) : Prop :=
 HC P class_reader_part.id #[.pointer r_0] m (Cont (fun v m1 =>
   UnAgg v fun l =>
   UnCons l fun v l =>
   UnI v .u64 fun x30_0 =>
   UnCons l fun v l =>
   UnI v .u64 fun x30_1 =>
   UnCons l fun v l =>
   UnI v .u64 fun x30_2 =>
   UnCons l fun v l =>
   UnI v .u64 fun x30_3 =>
   UnNil l (
    NewC m1 #[.int .u64 0, .int .u64 0, .int .u64 0, .int .u64 0] T_api_Set fun b_s_5 m2 =>
    St1 m2 b_s_5 0 (.int .u64 x30_0) fun m3 =>
    St1 m3 b_s_5 1 (.int .u64 x30_1) fun m4 =>
    St1 m4 b_s_5 2 (.int .u64 x30_2) fun m5 =>
    St1 m5 b_s_5 3 (.int .u64 x30_3) fun m6 =>
    l2  r_0 x2b x2o other_4 b_s_5 0 R m6)) (panicR R))
noncomputable def k1A  (R : Ending → Mem → Prop) : ACode := (.seq (.code (sL (sR (sR (sR (sR (sR (body)))))))) (.seq (.block 1 (.cut (l2E fun r_0 x2b x2o other_4 s_5b s_5o m => l2  r_0 x2b x2o other_4 s_5b s_5o R m) (.loop (lP (bB (sL (sR (sR (sR (sR (sR (sR (body))))))))))))) (.cut (k3E fun r_0 x2b x2o other_4 s_5b s_5o m => k3  r_0 x2b x2o other_4 s_5b s_5o R m) (sR (sR (sR (sR (sR (sR (sR (body)))))))))))
def e0 (r_0 : Option Addr) (R : Ending → Mem → Prop) (m : Mem) : Prop :=
 NewC m #[.int .u64 0, .int .u64 0, .int .u64 0, .int .u64 0] T_api_Set fun b2 m1 =>
 HC P class_reader_next.id #[.pointer r_0] m1 (Cont (fun v m2 =>
   UnI v .u8 fun x7 =>
   Br (x7 == 46) (
    HC P class_reader_take.id #[.pointer r_0] m2 (Cont (fun v m3 =>
      UnI v .u8 fun x16 =>
      HC P class_Not.id #[.agg #[.int .u64 0, .int .u64 0, .int .u64 0, .int .u64 0]] m3 (Cont (fun v m4 =>
        UnAgg v fun l =>
        UnCons l fun v l =>
        UnI v .u64 fun x18_0 =>
        UnCons l fun v l =>
        UnI v .u64 fun x18_1 =>
        UnCons l fun v l =>
        UnI v .u64 fun x18_2 =>
        UnCons l fun v l =>
        UnI v .u64 fun x18_3 =>
        UnNil l (
        St1 m4 b2 0 (.int .u64 x18_0) fun m5 =>
        St1 m5 b2 1 (.int .u64 x18_1) fun m6 =>
        St1 m6 b2 2 (.int .u64 x18_2) fun m7 =>
        St1 m7 b2 3 (.int .u64 x18_3) fun m8 =>
        LdV m8 b2 0 fun v =>
        UnI v .u64 fun res0_0 =>
        LdV m8 b2 1 fun v =>
        UnI v .u64 fun res0_1 =>
        LdV m8 b2 2 fun v =>
        UnI v .u64 fun res0_2 =>
        LdV m8 b2 3 fun v =>
        UnI v .u64 fun res0_3 =>
        R (.returned (.agg #[.int .u64 res0_0, .int .u64 res0_1, .int .u64 res0_2, .int .u64 res0_3])) m8)) (panicR R))) (panicR R))) (
    Br (x7 == 91) (
     HC P class_reader_take.id #[.pointer r_0] m2 (Cont (fun v m3 =>
       UnI v .u8 fun x22 =>
       HC P class_reader_next.id #[.pointer r_0] m3 (Cont (fun v m4 =>
        UnI v .u8 fun x24 =>
        Br (x24 == 94) (
        HC P class_reader_take.id #[.pointer r_0] m4 (Cont (fun v m5 =>
        UnI v .u8 fun x28 =>
        k1  r_0 b2 0 (x24 == 94) R m5) (panicR R))) (
        k1  r_0 b2 0 (x24 == 94) R m4)) (panicR R))) (panicR R))) (
     HC P class_reader_sign.id #[.pointer r_0] m2 (Cont (fun v m3 =>
       UnI v .u8 fun x9 =>
       HC P class_run.id #[.int .u8 x9, .int .u8 x9] m3 (Cont (fun v m4 =>
        UnAgg v fun l =>
        UnCons l fun v l =>
        UnI v .u64 fun x12_0 =>
        UnCons l fun v l =>
        UnI v .u64 fun x12_1 =>
        UnCons l fun v l =>
        UnI v .u64 fun x12_2 =>
        UnCons l fun v l =>
        UnI v .u64 fun x12_3 =>
        UnNil l (
        St1 m4 b2 0 (.int .u64 x12_0) fun m5 =>
        St1 m5 b2 1 (.int .u64 x12_1) fun m6 =>
        St1 m6 b2 2 (.int .u64 x12_2) fun m7 =>
        St1 m7 b2 3 (.int .u64 x12_3) fun m8 =>
        LdV m8 b2 0 fun v =>
        UnI v .u64 fun res0_0 =>
        LdV m8 b2 1 fun v =>
        UnI v .u64 fun res0_1 =>
        LdV m8 b2 2 fun v =>
        UnI v .u64 fun res0_2 =>
        LdV m8 b2 3 fun v =>
        UnI v .u64 fun res0_3 =>
        R (.returned (.agg #[.int .u64 res0_0, .int .u64 res0_1, .int .u64 res0_2, .int .u64 res0_3])) m8)) (panicR R))) (panicR R))))) (panicR R))
noncomputable def e0A (R : Ending → Mem → Prop) : ACode := (.seq (.code (sL (body))) (.seq (.code (sL (sR (body)))) (.seq (.code (sL (sR (sR (body))))) (.seq (.code (sL (sR (sR (sR (body)))))) (.seq (.code (sL (sR (sR (sR (sR (body))))))) (.cut (k1E fun r_0 x2b x2o other_4 m => k1  r_0 x2b x2o other_4 R m) (sR (sR (sR (sR (sR (body))))))))))))
abbrev k1Q  (R : Ending → Mem → Prop) : Exit → Env → Mem → Prop := (bodyQ P fn R)
abbrev k3Q  (R : Ending → Mem → Prop) : Exit → Env → Mem → Prop := (k1Q  R)
abbrev l2Q  (R : Ending → Mem → Prop) : Exit → Env → Mem → Prop := (blockQ 1 (thenQ (acpt P od (panicR R) (.cut (k3E fun r_0 x2b x2o other_4 s_5b s_5o m => k3  r_0 x2b x2o other_4 s_5b s_5o R m) (sR (sR (sR (sR (sR (sR (sR (body))))))))) (k1Q  R)) (k1Q  R)))
theorem k3_eq  (R : Ending → Mem → Prop) (r_0 : Option Addr) (x2b : Nat) (x2o : Nat) (other_4 : Bool) (s_5b : Nat) (s_5o : Nat) (ρ : Env) (m : Mem) : k3  r_0 x2b x2o other_4 s_5b s_5o R m = acpt P od (panicR R) (k3A  R) (k3Q  R) (upd (upd (upd (upd ρ 5 (.pointer (some ⟨s_5b, s_5o, none⟩))) 4 (.bool other_4)) 2 (.pointer (some ⟨x2b, x2o, none⟩))) 0 (.pointer r_0)) m := by kernel_rfl
theorem k3_er  (R : Ending → Mem → Prop) : (k3A  R).erase = sR (sR (sR (sR (sR (sR (sR (body))))))) := by kernel_rfl
theorem k3_ok  (R : Ending → Mem → Prop) (ρ : Env) (m : Mem) (h : (k3E fun r_0 x2b x2o other_4 s_5b s_5o m => k3  r_0 x2b x2o other_4 s_5b s_5o R m) ρ m) : cpt P od (panicR R) (sR (sR (sR (sR (sR (sR (sR (body)))))))) (k3Q  R) ρ m := by
  unfold k3E at h
  obtain ⟨r_0, e0, h⟩ := h.ex
  obtain ⟨x2b, x2o, e2, h⟩ := h.ex
  obtain ⟨other_4, e4, h⟩ := h.ex
  obtain ⟨s_5b, s_5o, e5, h⟩ := h.ex
  rw [← upd_self e0, ← upd_self e2, ← upd_self e4, ← upd_self e5]
  rw [← k3_er  R]
  refine acpt_sound (P := P) (k3A  R) _ _ _ True.intro ?_
  exact Eq.mp (k3_eq  R r_0 x2b x2o other_4 s_5b s_5o ρ m) h
theorem l2_eq  (K2 : Option Addr → Nat → Nat → Bool → Nat → Nat → Mem → Prop) (R : Ending → Mem → Prop) (r_0 : Option Addr) (x2b : Nat) (x2o : Nat) (other_4 : Bool) (s_5b : Nat) (s_5o : Nat) (ρ : Env) (m : Mem) : l2B  K2 r_0 x2b x2o other_4 s_5b s_5o R m = acpt P od (panicR R) (l2A  K2 R) (thenQ (l2E K2) (l2Q  R)) (upd (upd (upd (upd ρ 5 (.pointer (some ⟨s_5b, s_5o, none⟩))) 4 (.bool other_4)) 2 (.pointer (some ⟨x2b, x2o, none⟩))) 0 (.pointer r_0)) m := by kernel_rfl
theorem l2_er  (K2 : Option Addr → Nat → Nat → Bool → Nat → Nat → Mem → Prop) (R : Ending → Mem → Prop) : (l2A  K2 R).erase = lP (bB (sL (sR (sR (sR (sR (sR (sR (body))))))))) := by kernel_rfl
theorem l2_ok  (R : Ending → Mem → Prop) (ρ : Env) (m : Mem) (h : (l2E fun r_0 x2b x2o other_4 s_5b s_5o m => l2  r_0 x2b x2o other_4 s_5b s_5o R m) ρ m) : cpt P od (panicR R) (.loop (lP (bB (sL (sR (sR (sR (sR (sR (sR (body))))))))))) (l2Q  R) ρ m := by
  unfold l2E at h
  obtain ⟨r_0, e0, h⟩ := h.ex
  obtain ⟨x2b, x2o, e2, h⟩ := h.ex
  obtain ⟨other_4, e4, h⟩ := h.ex
  obtain ⟨s_5b, s_5o, e5, h⟩ := h.ex
  obtain ⟨I, N, h0, hs⟩ := h
  refine ⟨fun N => l2E (I N), N, (by show l2E (I N) ρ m; unfold l2E; rw [e0, e2, e4, e5]; exact h0), ?_⟩
  clear h0 e0 e2 e4 e5
  intro N ρ m h
  unfold l2E at h
  obtain ⟨r_0, e0, h⟩ := h.ex
  obtain ⟨x2b, x2o, e2, h⟩ := h.ex
  obtain ⟨other_4, e4, h⟩ := h.ex
  obtain ⟨s_5b, s_5o, e5, h⟩ := h.ex
  refine cpt_mono (P := P) (lP (bB (sL (sR (sR (sR (sR (sR (sR (body)))))))))) (Q := thenQ (l2E fun r_0 x2b x2o other_4 s_5b s_5o m => ∃ N1, N1 < N ∧ I N1 r_0 x2b x2o other_4 s_5b s_5o m) (l2Q  R)) (fun e ρ m h => ?_) ρ m ?_
  · cases e with
    | normal =>
      have h : l2E (fun r_0 x2b x2o other_4 s_5b s_5o m => ∃ N1, N1 < N ∧ I N1 r_0 x2b x2o other_4 s_5b s_5o m) ρ m := h
      unfold l2E at h
      obtain ⟨r_0, e0, h⟩ := h.ex
      obtain ⟨x2b, x2o, e2, h⟩ := h.ex
      obtain ⟨other_4, e4, h⟩ := h.ex
      obtain ⟨s_5b, s_5o, e5, h⟩ := h.ex
      obtain ⟨N1, hlt, h⟩ := h
      exact ⟨N1, hlt, (by show l2E (I N1) ρ m; unfold l2E; rw [e0, e2, e4, e5]; exact h)⟩
    | _ => exact h
  have hh := hs N r_0 x2b x2o other_4 s_5b s_5o m h
  generalize (fun r_0 x2b x2o other_4 s_5b s_5o m => ∃ N1, N1 < N ∧ I N1 r_0 x2b x2o other_4 s_5b s_5o m : Option Addr → Nat → Nat → Bool → Nat → Nat → Mem → Prop) = K2 at hh ⊢
  rw [← upd_self e0, ← upd_self e2, ← upd_self e4, ← upd_self e5]
  rw [← l2_er  K2 R]
  refine acpt_sound (P := P) (l2A  K2 R) _ _ _ True.intro ?_
  exact Eq.mp (l2_eq  K2 R r_0 x2b x2o other_4 s_5b s_5o ρ m) hh
theorem k1_eq  (R : Ending → Mem → Prop) (r_0 : Option Addr) (x2b : Nat) (x2o : Nat) (other_4 : Bool) (ρ : Env) (m : Mem) : k1  r_0 x2b x2o other_4 R m = acpt P od (panicR R) (k1A  R) (k1Q  R) (upd (upd (upd ρ 4 (.bool other_4)) 2 (.pointer (some ⟨x2b, x2o, none⟩))) 0 (.pointer r_0)) m := by kernel_rfl
theorem k1_er  (R : Ending → Mem → Prop) : (k1A  R).erase = sR (sR (sR (sR (sR (body))))) := by kernel_rfl
theorem k1_ok  (R : Ending → Mem → Prop) (ρ : Env) (m : Mem) (h : (k1E fun r_0 x2b x2o other_4 m => k1  r_0 x2b x2o other_4 R m) ρ m) : cpt P od (panicR R) (sR (sR (sR (sR (sR (body)))))) (k1Q  R) ρ m := by
  unfold k1E at h
  obtain ⟨r_0, e0, h⟩ := h.ex
  obtain ⟨x2b, x2o, e2, h⟩ := h.ex
  obtain ⟨other_4, e4, h⟩ := h.ex
  rw [← upd_self e0, ← upd_self e2, ← upd_self e4]
  rw [← k1_er  R]
  refine acpt_sound (P := P) (k1A  R) _ _ _ ⟨⟨(fun ρ m h => k3_ok  R ρ m h), (fun ρ m h => l2_ok  R ρ m h)⟩, True.intro⟩ ?_
  exact Eq.mp (k1_eq  R r_0 x2b x2o other_4 ρ m) h
theorem e0_eq (r_0 : Option Addr) (R : Ending → Mem → Prop) (m : Mem) : e0 r_0 R m = acpt P od (panicR R) (e0A R) (bodyQ P fn R) (argE (#[.pointer r_0] : Array Value).toList) m := by kernel_rfl
theorem ok (r_0 : Option Addr) (R : Ending → Mem → Prop) (m : Mem) (h : e0 r_0 R m) : HC P id #[.pointer r_0] m R := by
  refine HC_of (fn := fn) (c := body) (od := od) (tb := tb) Go.Proofs.Tryd.func87 (by kernel_rfl) (by kernel_rfl) follows (by kernel_rfl) (of_decide_eq_true (by kernel_rfl)) ?_
  have he : (e0A R).erase = body := by kernel_rfl
  rw [← he]
  refine acpt_sound (P := P) (e0A R) _ _ _ ⟨⟨⟨⟨⟨(fun ρ m h => k1_ok  R ρ m h), True.intro⟩, True.intro⟩, True.intro⟩, True.intro⟩, True.intro⟩ ?_
  exact Eq.mp (e0_eq r_0 R m) h
end class_reader_class
/-! ### eyot/class.Least -/
namespace class_Least
noncomputable def fn : Func := Go.Proofs.Tryd.f88
noncomputable def body : Code := fn.body.getD .skip
def od : Nat → Ord := fun _ => .done
def tb : Nat → Tab := fun _ => (0, [], [])
def l1E (K : Int → Int → Int → Int → Int → Mem → Prop) : Env → Mem → Prop := fun ρ m => UnAgg (ρ 6) fun l => UnCons l fun v l => UnI v .u64 fun x6_0 => UnCons l fun v l => UnI v .u64 fun x6_1 => UnCons l fun v l => UnI v .u64 fun x6_2 => UnCons l fun v l => UnI v .u64 fun x6_3 => UnNil l (UnI (ρ 7) .i64 fun x7 => K x6_0 x6_1 x6_2 x6_3 x7 m)
def l1B  (K1 : Int → Int → Int → Int → Int → Mem → Prop) (x6_0 : Int) (x6_1 : Int) (x6_2 : Int) (x6_3 : Int) (x7 : Int) (R : Ending → Mem → Prop) (m : Mem) : Prop :=
 Br (decide (x7 < 4)) (
  IxI [x6_0, x6_1, x6_2, x6_3] x7 fun x10 =>
  Br (x10 != 0) (
   HC P math_bits_TrailingZeros64.id #[.int .u64 x10] m (Cont (fun v m1 =>
     UnI v .i64 fun x16 =>
     R (.returned (.tuple #[.int .u8 (IntKind.u8.wrap (IntKind.i64.wrap ((IntKind.i64.wrap (64 * x7)) + x16))), .bool true])) m1) (panicR R))) (
   K1 x6_0 x6_1 x6_2 x6_3 (IntKind.i64.wrap (x7 + 1)) m)) (
  R (.returned (.tuple #[.int .u8 0, .bool false])) m)
def l1  (x6_0 : Int) (x6_1 : Int) (x6_2 : Int) (x6_3 : Int) (x7 : Int) (R : Ending → Mem → Prop) (m : Mem) : Prop :=
  ∃ (I : Nat → Int → Int → Int → Int → Int → Mem → Prop) (N : Nat), I N x6_0 x6_1 x6_2 x6_3 x7 m ∧ ∀ N x6_0 x6_1 x6_2 x6_3 x7 m, I N x6_0 x6_1 x6_2 x6_3 x7 m → l1B  (fun x6_0 x6_1 x6_2 x6_3 x7 m => ∃ N1, N1 < N ∧ I N1 x6_0 x6_1 x6_2 x6_3 x7 m) x6_0 x6_1 x6_2 x6_3 x7 R m
noncomputable def l1A  (K1 : Int → Int → Int → Int → Int → Mem → Prop) (R : Ending → Mem → Prop) : ACode := (.code (lP (bB (sR (sL (sR (body)))))))
def e0 (s_0_0 : Int) (s_0_1 : Int) (s_0_2 : Int) (s_0_3 : Int) (R : Ending → Mem → Prop) (m : Mem) : Prop :=
 NewC m #[.int .u64 s_0_0, .int .u64 s_0_1, .int .u64 s_0_2, .int .u64 s_0_3] T_api_Set fun b_s_1 m1 =>
 LdV m1 b_s_1 0 fun v =>
 UnI v .u64 fun x6_0 =>
 LdV m1 b_s_1 1 fun v =>
 UnI v .u64 fun x6_1 =>
 LdV m1 b_s_1 2 fun v =>
 UnI v .u64 fun x6_2 =>
 LdV m1 b_s_1 3 fun v =>
 UnI v .u64 fun x6_3 =>
 l1  x6_0 x6_1 x6_2 x6_3 0 R m1
noncomputable def e0A (R : Ending → Mem → Prop) : ACode := (.seq (.code (sL (body))) (.seq (.seq (.code (sL (sL (sR (body))))) (.block 0 (.cut (l1E fun x6_0 x6_1 x6_2 x6_3 x7 m => l1  x6_0 x6_1 x6_2 x6_3 x7 R m) (.loop (lP (bB (sR (sL (sR (body)))))))))) (.code (sR (sR (body))))))
abbrev l1Q  (R : Ending → Mem → Prop) : Exit → Env → Mem → Prop := (blockQ 0 (thenQ (acpt P od (panicR R) (.code (sR (sR (body)))) (bodyQ P fn R)) (bodyQ P fn R)))
theorem l1_eq  (K1 : Int → Int → Int → Int → Int → Mem → Prop) (R : Ending → Mem → Prop) (x6_0 : Int) (x6_1 : Int) (x6_2 : Int) (x6_3 : Int) (x7 : Int) (ρ : Env) (m : Mem) : l1B  K1 x6_0 x6_1 x6_2 x6_3 x7 R m = acpt P od (panicR R) (l1A  K1 R) (thenQ (l1E K1) (l1Q  R)) (upd (upd ρ 7 (.int .i64 x7)) 6 (.agg [.int .u64 x6_0, .int .u64 x6_1, .int .u64 x6_2, .int .u64 x6_3].toArray)) m := by kernel_rfl
theorem l1_er  (K1 : Int → Int → Int → Int → Int → Mem → Prop) (R : Ending → Mem → Prop) : (l1A  K1 R).erase = lP (bB (sR (sL (sR (body))))) := by kernel_rfl
theorem l1_ok  (R : Ending → Mem → Prop) (ρ : Env) (m : Mem) (h : (l1E fun x6_0 x6_1 x6_2 x6_3 x7 m => l1  x6_0 x6_1 x6_2 x6_3 x7 R m) ρ m) : cpt P od (panicR R) (.loop (lP (bB (sR (sL (sR (body))))))) (l1Q  R) ρ m := by
  unfold l1E at h
  obtain ⟨lst6, e6, hq6_1⟩ := UnAgg.ex h; clear h
  obtain ⟨w6_0, t6_0, q6, hq6_2⟩ := UnCons.ex hq6_1; clear hq6_1; subst q6
  obtain ⟨x6_0, q6, hq6_3⟩ := UnI.ex hq6_2; clear hq6_2; subst q6
  obtain ⟨w6_1, t6_1, q6, hq6_4⟩ := UnCons.ex hq6_3; clear hq6_3; subst q6
  obtain ⟨x6_1, q6, hq6_5⟩ := UnI.ex hq6_4; clear hq6_4; subst q6
  obtain ⟨w6_2, t6_2, q6, hq6_6⟩ := UnCons.ex hq6_5; clear hq6_5; subst q6
  obtain ⟨x6_2, q6, hq6_7⟩ := UnI.ex hq6_6; clear hq6_6; subst q6
  obtain ⟨w6_3, t6_3, q6, hq6_8⟩ := UnCons.ex hq6_7; clear hq6_7; subst q6
  obtain ⟨x6_3, q6, hq6_9⟩ := UnI.ex hq6_8; clear hq6_8; subst q6
  obtain ⟨q6, hq6_10⟩ := UnNil.ex hq6_9; clear hq6_9; subst q6
  have h := hq6_10; clear hq6_10
  obtain ⟨x7, e7, h⟩ := h.ex
  obtain ⟨I, N, h0, hs⟩ := h
  refine ⟨fun N => l1E (I N), N, (by show l1E (I N) ρ m; unfold l1E; rw [e6, e7]; exact h0), ?_⟩
  clear h0 e6 e7
  intro N ρ m h
  unfold l1E at h
  obtain ⟨lst6, e6, hq6_1⟩ := UnAgg.ex h; clear h
  obtain ⟨w6_0, t6_0, q6, hq6_2⟩ := UnCons.ex hq6_1; clear hq6_1; subst q6
  obtain ⟨x6_0, q6, hq6_3⟩ := UnI.ex hq6_2; clear hq6_2; subst q6
  obtain ⟨w6_1, t6_1, q6, hq6_4⟩ := UnCons.ex hq6_3; clear hq6_3; subst q6
  obtain ⟨x6_1, q6, hq6_5⟩ := UnI.ex hq6_4; clear hq6_4; subst q6
  obtain ⟨w6_2, t6_2, q6, hq6_6⟩ := UnCons.ex hq6_5; clear hq6_5; subst q6
  obtain ⟨x6_2, q6, hq6_7⟩ := UnI.ex hq6_6; clear hq6_6; subst q6
  obtain ⟨w6_3, t6_3, q6, hq6_8⟩ := UnCons.ex hq6_7; clear hq6_7; subst q6
  obtain ⟨x6_3, q6, hq6_9⟩ := UnI.ex hq6_8; clear hq6_8; subst q6
  obtain ⟨q6, hq6_10⟩ := UnNil.ex hq6_9; clear hq6_9; subst q6
  have h := hq6_10; clear hq6_10
  obtain ⟨x7, e7, h⟩ := h.ex
  refine cpt_mono (P := P) (lP (bB (sR (sL (sR (body)))))) (Q := thenQ (l1E fun x6_0 x6_1 x6_2 x6_3 x7 m => ∃ N1, N1 < N ∧ I N1 x6_0 x6_1 x6_2 x6_3 x7 m) (l1Q  R)) (fun e ρ m h => ?_) ρ m ?_
  · cases e with
    | normal =>
      have h : l1E (fun x6_0 x6_1 x6_2 x6_3 x7 m => ∃ N1, N1 < N ∧ I N1 x6_0 x6_1 x6_2 x6_3 x7 m) ρ m := h
      unfold l1E at h
      obtain ⟨lst6, e6, hq6_1⟩ := UnAgg.ex h; clear h
      obtain ⟨w6_0, t6_0, q6, hq6_2⟩ := UnCons.ex hq6_1; clear hq6_1; subst q6
      obtain ⟨x6_0, q6, hq6_3⟩ := UnI.ex hq6_2; clear hq6_2; subst q6
      obtain ⟨w6_1, t6_1, q6, hq6_4⟩ := UnCons.ex hq6_3; clear hq6_3; subst q6
      obtain ⟨x6_1, q6, hq6_5⟩ := UnI.ex hq6_4; clear hq6_4; subst q6
      obtain ⟨w6_2, t6_2, q6, hq6_6⟩ := UnCons.ex hq6_5; clear hq6_5; subst q6
      obtain ⟨x6_2, q6, hq6_7⟩ := UnI.ex hq6_6; clear hq6_6; subst q6
      obtain ⟨w6_3, t6_3, q6, hq6_8⟩ := UnCons.ex hq6_7; clear hq6_7; subst q6
      obtain ⟨x6_3, q6, hq6_9⟩ := UnI.ex hq6_8; clear hq6_8; subst q6
      obtain ⟨q6, hq6_10⟩ := UnNil.ex hq6_9; clear hq6_9; subst q6
      have h := hq6_10; clear hq6_10
      obtain ⟨x7, e7, h⟩ := h.ex
      obtain ⟨N1, hlt, h⟩ := h
      exact ⟨N1, hlt, (by show l1E (I N1) ρ m; unfold l1E; rw [e6, e7]; exact h)⟩
    | _ => exact h
  have hh := hs N x6_0 x6_1 x6_2 x6_3 x7 m h
  generalize (fun x6_0 x6_1 x6_2 x6_3 x7 m => ∃ N1, N1 < N ∧ I N1 x6_0 x6_1 x6_2 x6_3 x7 m : Int → Int → Int → Int → Int → Mem → Prop) = K1 at hh ⊢
  rw [← upd_self e6, ← upd_self e7]
  rw [← l1_er  K1 R]
  refine acpt_sound (P := P) (l1A  K1 R) _ _ _ True.intro ?_
  exact Eq.mp (l1_eq  K1 R x6_0 x6_1 x6_2 x6_3 x7 ρ m) hh
theorem e0_eq (s_0_0 : Int) (s_0_1 : Int) (s_0_2 : Int) (s_0_3 : Int) (R : Ending → Mem → Prop) (m : Mem) : e0 s_0_0 s_0_1 s_0_2 s_0_3 R m = acpt P od (panicR R) (e0A R) (bodyQ P fn R) (argE (#[.agg #[.int .u64 s_0_0, .int .u64 s_0_1, .int .u64 s_0_2, .int .u64 s_0_3]] : Array Value).toList) m := by kernel_rfl
theorem ok (s_0_0 : Int) (s_0_1 : Int) (s_0_2 : Int) (s_0_3 : Int) (R : Ending → Mem → Prop) (m : Mem) (h : e0 s_0_0 s_0_1 s_0_2 s_0_3 R m) : HC P id #[.agg #[.int .u64 s_0_0, .int .u64 s_0_1, .int .u64 s_0_2, .int .u64 s_0_3]] m R := by
  refine HC_of (fn := fn) (c := body) (od := od) (tb := tb) Go.Proofs.Tryd.func88 (by kernel_rfl) (by kernel_rfl) follows (by kernel_rfl) (of_decide_eq_true (by kernel_rfl)) ?_
  have he : (e0A R).erase = body := by kernel_rfl
  rw [← he]
  refine acpt_sound (P := P) (e0A R) _ _ _ ⟨⟨True.intro, ⟨(fun ρ m h => l1_ok  R ρ m h), True.intro⟩⟩, True.intro⟩ ?_
  exact Eq.mp (e0_eq s_0_0 s_0_1 s_0_2 s_0_3 R m) h
end class_Least
/-! ### (*eyot/class.reader).next -/
namespace class_reader_next
noncomputable def fn : Func := Go.Proofs.Tryd.f90
noncomputable def body : Code := fn.body.getD .skip
def od : Nat → Ord := fun | 1 => ordL [(0, 3), (1, 3), (2, 3), (3, 1), (4, 3), (5, 3), (6, 3), (7, 0), (8, 3), (9, 3)] .done | 2 => ordL [(0, 3), (1, 3), (2, 3), (3, 1), (4, 3), (5, 3), (6, 3), (7, 0), (8, 3), (9, 3)] .done | _ => .done
def tb : Nat → Tab := fun | 1 => (0, [0, 1, 3, 7, 0, 16, 48, 112, 240, 511], [(0, 1, 4), (1, 8, 5), (2, 16, 6), (4, 32, 7), (0, 1, 8), (16, 128, 9), (32, 256, 10), (64, 512, 11), (128, 1024, 12), (264, 2112, 13)]) | 2 => (0, [0, 1, 3, 7, 0, 16, 48, 112, 255, 511], [(0, 1, 14), (1, 8192, 15), (2, 16384, 16), (4, 32768, 17), (0, 1, 18), (16, 131072, 19), (32, 262144, 20), (64, 524288, 21), (136, 1114112, 22), (511, 2097152, 3)]) | _ => (0, [], [])
def e0 (r_0 : Option Addr) (R : Ending → Mem → Prop) (m : Mem) : Prop :=
 Sub m fun r1 =>
 NilC r_0 (fun x4b x4o =>
  LdV r1 x4b (x4o + 1) fun v =>
  UnI v .i64 fun x6 =>
  NilC r_0 (fun x8b x8o =>
   LdV m x8b x8o fun v =>
   UnStr v fun x10 =>
   Br (decide (x6 < (x10.size : Int))) (
    Sub m fun r2 =>
    NilC r_0 (fun x14b x14o =>
     LdV r2 x14b x14o fun v =>
     UnStr v fun x16 =>
     NilC r_0 (fun x18b x18o =>
      LdV m x18b (x18o + 1) fun v =>
      UnI v .i64 fun x20 =>
      IxB x16 x20 fun x21 =>
      R (.returned (.int .u8 x21)) m) (False)) (False)) (
    R (.returned (.int .u8 0)) m)) (False)) (False)
noncomputable def e0A (R : Ending → Mem → Prop) : ACode := (.code (body))
theorem e0_eq (r_0 : Option Addr) (R : Ending → Mem → Prop) (m : Mem) : e0 r_0 R m = acpt P od (panicR R) (e0A R) (bodyQ P fn R) (argE (#[.pointer r_0] : Array Value).toList) m := by kernel_rfl
theorem ok (r_0 : Option Addr) (R : Ending → Mem → Prop) (m : Mem) (h : e0 r_0 R m) : HC P id #[.pointer r_0] m R := by
  refine HC_of (fn := fn) (c := body) (od := od) (tb := tb) Go.Proofs.Tryd.func90 (by kernel_rfl) (by kernel_rfl) follows (by kernel_rfl) (of_decide_eq_true (by kernel_rfl)) ?_
  have he : (e0A R).erase = body := by kernel_rfl
  rw [← he]
  refine acpt_sound (P := P) (e0A R) _ _ _ True.intro ?_
  exact Eq.mp (e0_eq r_0 R m) h
end class_reader_next
/-! ### (*eyot/class.reader).take -/
namespace class_reader_take
noncomputable def fn : Func := Go.Proofs.Tryd.f91
noncomputable def body : Code := fn.body.getD .skip
def od : Nat → Ord := fun | 1 => ordL [(0, 3), (1, 3), (2, 3), (3, 1), (4, 3), (5, 3), (6, 3), (7, 0), (8, 3), (9, 3)] .done | 4 => ordL [(0, 3), (1, 3), (2, 3), (3, 1), (4, 3), (5, 3), (6, 3), (7, 0), (8, 3), (9, 3), (10, 3)] .done | _ => .done
def tb : Nat → Tab := fun | 1 => (0, [0, 1, 3, 7, 0, 16, 48, 112, 240, 511], [(0, 1, 4), (1, 8, 5), (2, 16, 6), (4, 32, 7), (0, 1, 8), (16, 128, 9), (32, 256, 10), (64, 512, 11), (128, 1024, 12), (264, 2112, 13)]) | 4 => (0, [0, 1, 3, 7, 0, 16, 48, 112, 240, 511, 1023], [(0, 1, 23), (1, 4194304, 24), (2, 8388608, 25), (4, 16777216, 26), (0, 1, 27), (16, 67108864, 28), (32, 134217728, 29), (64, 268435456, 30), (128, 536870912, 31), (264, 1107296256, 32), (1023, 2147483648, 3)]) | _ => (0, [], [])
def e0 (r_0 : Option Addr) (R : Ending → Mem → Prop) (m : Mem) : Prop :=
 Sub m fun r1 =>
 NilC r_0 (fun x4b x4o =>
  LdV r1 x4b (x4o + 1) fun v =>
  UnI v .i64 fun x6 =>
  NilC r_0 (fun x8b x8o =>
   LdV m x8b x8o fun v =>
   UnStr v fun x10 =>
   Br (decide (x6 ≥ (x10.size : Int))) (
    R (.panicked [{ v := .iface T_class_refusal (.agg #[]), recovered := false }]) m) (
    NilC r_0 (fun x16b x16o =>
     LdV m x16b (x16o + 1) fun v =>
     UnI v .i64 fun x18 =>
     NilC r_0 (fun x20b x20o =>
      St1 m x20b (x20o + 1) (.int .i64 (IntKind.i64.wrap (x18 + 1))) fun m2 =>
      Sub m2 fun r3 =>
      NilC r_0 (fun x23b x23o =>
       LdV r3 x23b x23o fun v =>
       UnStr v fun x25 =>
       NilC r_0 (fun x27b x27o =>
        LdV m2 x27b (x27o + 1) fun v =>
        UnI v .i64 fun x29 =>
        IxB x25 (IntKind.i64.wrap (x29 - 1)) fun x31 =>
        R (.returned (.int .u8 x31)) m2) (False)) (False)) (R (.panicked (nilPanic P)) m)) (R (.panicked (nilPanic P)) m))) (False)) (False)
noncomputable def e0A (R : Ending → Mem → Prop) : ACode := (.code (body))
theorem e0_eq (r_0 : Option Addr) (R : Ending → Mem → Prop) (m : Mem) : e0 r_0 R m = acpt P od (panicR R) (e0A R) (bodyQ P fn R) (argE (#[.pointer r_0] : Array Value).toList) m := by kernel_rfl
theorem ok (r_0 : Option Addr) (R : Ending → Mem → Prop) (m : Mem) (h : e0 r_0 R m) : HC P id #[.pointer r_0] m R := by
  refine HC_of (fn := fn) (c := body) (od := od) (tb := tb) Go.Proofs.Tryd.func91 (by kernel_rfl) (by kernel_rfl) follows (by kernel_rfl) (of_decide_eq_true (by kernel_rfl)) ?_
  have he : (e0A R).erase = body := by kernel_rfl
  rw [← he]
  refine acpt_sound (P := P) (e0A R) _ _ _ True.intro ?_
  exact Eq.mp (e0_eq r_0 R m) h
end class_reader_take
/-! ### (*eyot/class.reader).sign -/
namespace class_reader_sign
noncomputable def fn : Func := Go.Proofs.Tryd.f92
noncomputable def body : Code := fn.body.getD .skip
def od : Nat → Ord := fun _ => .done
def tb : Nat → Tab := fun _ => (0, [], [])
def e0 (r_0 : Option Addr) (R : Ending → Mem → Prop) (m : Mem) : Prop :=
 HC P class_reader_take.id #[.pointer r_0] m (Cont (fun v m1 =>
   UnI v .u8 fun x6 =>
   Br (x6 != 92) (
    Br (decide (x6 < 33)) (
     R (.panicked [{ v := .iface T_class_refusal (.agg #[]), recovered := false }]) m1) (
     Br (decide (x6 > 126)) (
      R (.panicked [{ v := .iface T_class_refusal (.agg #[]), recovered := false }]) m1) (
      HC P strings_IndexByte.id #[.string (ByteArray.mk #[92, 124, 42, 43, 63, 40, 41, 91, 93, 46, 94, 45]), .int .u8 x6] m1 (Cont (fun v m2 =>
        UnI v .i64 fun x17 =>
        Br (decide (x17 ≥ 0)) (
        R (.panicked [{ v := .iface T_class_refusal (.agg #[]), recovered := false }]) m2) (
        R (.returned (.int .u8 x6)) m2)) (panicR R))))) (
    HC P class_reader_take.id #[.pointer r_0] m1 (Cont (fun v m2 =>
      UnI v .u8 fun x24 =>
      Br (x24 == 120) (
       HC P class_reader_digit.id #[.pointer r_0] m2 (Cont (fun v m3 =>
        UnI v .u8 fun x28 =>
        HC P class_reader_digit.id #[.pointer r_0] m3 (Cont (fun v m4 =>
        UnI v .u8 fun x32 =>
        R (.returned (.int .u8 (bitsV .or .u8 (shlV .u8 x28 4) x32))) m4) (panicR R))) (panicR R))) (
       HC P strings_IndexByte.id #[.string (ByteArray.mk #[92, 124, 42, 43, 63, 40, 41, 91, 93, 46, 94, 45]), .int .u8 x24] m2 (Cont (fun v m3 =>
        UnI v .i64 fun x35 =>
        Br (decide (x35 < 0)) (
        R (.panicked [{ v := .iface T_class_refusal (.agg #[]), recovered := false }]) m3) (
        R (.returned (.int .u8 x24)) m3)) (panicR R)))) (panicR R)))) (panicR R))
noncomputable def e0A (R : Ending → Mem → Prop) : ACode := (.code (body))
theorem e0_eq (r_0 : Option Addr) (R : Ending → Mem → Prop) (m : Mem) : e0 r_0 R m = acpt P od (panicR R) (e0A R) (bodyQ P fn R) (argE (#[.pointer r_0] : Array Value).toList) m := by kernel_rfl
theorem ok (r_0 : Option Addr) (R : Ending → Mem → Prop) (m : Mem) (h : e0 r_0 R m) : HC P id #[.pointer r_0] m R := by
  refine HC_of (fn := fn) (c := body) (od := od) (tb := tb) Go.Proofs.Tryd.func92 (by kernel_rfl) (by kernel_rfl) follows (by kernel_rfl) (of_decide_eq_true (by kernel_rfl)) ?_
  have he : (e0A R).erase = body := by kernel_rfl
  rw [← he]
  refine acpt_sound (P := P) (e0A R) _ _ _ True.intro ?_
  exact Eq.mp (e0_eq r_0 R m) h
end class_reader_sign
/-! ### eyot/class.run -/
namespace class_run
noncomputable def fn : Func := Go.Proofs.Tryd.f93
noncomputable def body : Code := fn.body.getD .skip
def od : Nat → Ord := fun _ => .done
def tb : Nat → Tab := fun _ => (0, [], [])
def l1E (K : Int → Nat → Nat → Option Addr → Nat → Nat → Int → Mem → Prop) : Env → Mem → Prop := fun ρ m => UnI (ρ 1) .u8 fun b_1 => UnPA (ρ 4) fun x4b x4o => UnS (ρ 5) fun l_5a l_5l l_5c => UnI (ρ 6) .i64 fun c_6 => K b_1 x4b x4o l_5a l_5l l_5c c_6 m
def l1B  (K1 : Int → Nat → Nat → Option Addr → Nat → Nat → Int → Mem → Prop) (b_1 : Int) (x4b : Nat) (x4o : Nat) (l_5a : Option Addr) (l_5l : Nat) (l_5c : Nat) (c_6 : Int) (R : Ending → Mem → Prop) (m : Mem) : Prop :=
 Br (decide (c_6 ≤ (IntKind.i64.wrap b_1))) (
  NewC m #[.int .u8 (IntKind.u8.wrap c_6)] T_uint8 fun b18 m1 =>
  BiN P .append #[T_sl_uint8, T_sl_uint8] T_sl_uint8 #[false, false] #[.slice l_5a l_5l l_5c, .slice (some ⟨b18, 0, none⟩) 1 1] m1 (fun w m2 =>
   UnS w fun x19a x19l x19c =>
   K1 b_1 x4b x4o x19a x19l x19c (IntKind.i64.wrap (c_6 + 1)) m2) (panicR R)) (
  HC P class_Of.id #[.slice l_5a l_5l l_5c] m (Cont (fun v m1 =>
    UnAgg v fun l =>
    UnCons l fun v l =>
    UnI v .u64 fun x21_0 =>
    UnCons l fun v l =>
    UnI v .u64 fun x21_1 =>
    UnCons l fun v l =>
    UnI v .u64 fun x21_2 =>
    UnCons l fun v l =>
    UnI v .u64 fun x21_3 =>
    UnNil l (
     St1 m1 x4b x4o (.int .u64 x21_0) fun m2 =>
     St1 m2 x4b (x4o + 1) (.int .u64 x21_1) fun m3 =>
     St1 m3 x4b (x4o + 2) (.int .u64 x21_2) fun m4 =>
     St1 m4 x4b (x4o + 3) (.int .u64 x21_3) fun m5 =>
     LdV m5 x4b x4o fun v =>
     UnI v .u64 fun res0_0 =>
     LdV m5 x4b (x4o + 1) fun v =>
     UnI v .u64 fun res0_1 =>
     LdV m5 x4b (x4o + 2) fun v =>
     UnI v .u64 fun res0_2 =>
     LdV m5 x4b (x4o + 3) fun v =>
     UnI v .u64 fun res0_3 =>
     R (.returned (.agg #[.int .u64 res0_0, .int .u64 res0_1, .int .u64 res0_2, .int .u64 res0_3])) m5)) (panicR R)))
def l1  (b_1 : Int) (x4b : Nat) (x4o : Nat) (l_5a : Option Addr) (l_5l : Nat) (l_5c : Nat) (c_6 : Int) (R : Ending → Mem → Prop) (m : Mem) : Prop :=
  ∃ (I : Nat → Int → Nat → Nat → Option Addr → Nat → Nat → Int → Mem → Prop) (N : Nat), I N b_1 x4b x4o l_5a l_5l l_5c c_6 m ∧ ∀ N b_1 x4b x4o l_5a l_5l l_5c c_6 m, I N b_1 x4b x4o l_5a l_5l l_5c c_6 m → l1B  (fun b_1 x4b x4o l_5a l_5l l_5c c_6 m => ∃ N1, N1 < N ∧ I N1 b_1 x4b x4o l_5a l_5l l_5c c_6 m) b_1 x4b x4o l_5a l_5l l_5c c_6 R m
noncomputable def l1A  (K1 : Int → Nat → Nat → Option Addr → Nat → Nat → Int → Mem → Prop) (R : Ending → Mem → Prop) : ACode := (.code (lP (bB (sR (sL (sR (sR (body))))))))
def e0 (a_0 : Int) (b_1 : Int) (R : Ending → Mem → Prop) (m : Mem) : Prop :=
 NewC m #[.int .u64 0, .int .u64 0, .int .u64 0, .int .u64 0] T_api_Set fun b4 m1 =>
 l1  b_1 b4 0 none 0 0 (IntKind.i64.wrap a_0) R m1
noncomputable def e0A (R : Ending → Mem → Prop) : ACode := (.seq (.code (sL (body))) (.seq (.code (sL (sR (body)))) (.seq (.seq (.code (sL (sL (sR (sR (body)))))) (.block 0 (.cut (l1E fun b_1 x4b x4o l_5a l_5l l_5c c_6 m => l1  b_1 x4b x4o l_5a l_5l l_5c c_6 R m) (.loop (lP (bB (sR (sL (sR (sR (body))))))))))) (.code (sR (sR (sR (body))))))))
abbrev l1Q  (R : Ending → Mem → Prop) : Exit → Env → Mem → Prop := (blockQ 0 (thenQ (acpt P od (panicR R) (.code (sR (sR (sR (body))))) (bodyQ P fn R)) (bodyQ P fn R)))
theorem l1_eq  (K1 : Int → Nat → Nat → Option Addr → Nat → Nat → Int → Mem → Prop) (R : Ending → Mem → Prop) (b_1 : Int) (x4b : Nat) (x4o : Nat) (l_5a : Option Addr) (l_5l : Nat) (l_5c : Nat) (c_6 : Int) (ρ : Env) (m : Mem) : l1B  K1 b_1 x4b x4o l_5a l_5l l_5c c_6 R m = acpt P od (panicR R) (l1A  K1 R) (thenQ (l1E K1) (l1Q  R)) (upd (upd (upd (upd ρ 6 (.int .i64 c_6)) 5 (.slice l_5a l_5l l_5c)) 4 (.pointer (some ⟨x4b, x4o, none⟩))) 1 (.int .u8 b_1)) m := by kernel_rfl
theorem l1_er  (K1 : Int → Nat → Nat → Option Addr → Nat → Nat → Int → Mem → Prop) (R : Ending → Mem → Prop) : (l1A  K1 R).erase = lP (bB (sR (sL (sR (sR (body)))))) := by kernel_rfl
theorem l1_ok  (R : Ending → Mem → Prop) (ρ : Env) (m : Mem) (h : (l1E fun b_1 x4b x4o l_5a l_5l l_5c c_6 m => l1  b_1 x4b x4o l_5a l_5l l_5c c_6 R m) ρ m) : cpt P od (panicR R) (.loop (lP (bB (sR (sL (sR (sR (body)))))))) (l1Q  R) ρ m := by
  unfold l1E at h
  obtain ⟨b_1, e1, h⟩ := h.ex
  obtain ⟨x4b, x4o, e4, h⟩ := h.ex
  obtain ⟨l_5a, l_5l, l_5c, e5, h⟩ := h.ex
  obtain ⟨c_6, e6, h⟩ := h.ex
  obtain ⟨I, N, h0, hs⟩ := h
  refine ⟨fun N => l1E (I N), N, (by show l1E (I N) ρ m; unfold l1E; rw [e1, e4, e5, e6]; exact h0), ?_⟩
  clear h0 e1 e4 e5 e6
  intro N ρ m h
  unfold l1E at h
  obtain ⟨b_1, e1, h⟩ := h.ex
  obtain ⟨x4b, x4o, e4, h⟩ := h.ex
  obtain ⟨l_5a, l_5l, l_5c, e5, h⟩ := h.ex
  obtain ⟨c_6, e6, h⟩ := h.ex
  refine cpt_mono (P := P) (lP (bB (sR (sL (sR (sR (body))))))) (Q := thenQ (l1E fun b_1 x4b x4o l_5a l_5l l_5c c_6 m => ∃ N1, N1 < N ∧ I N1 b_1 x4b x4o l_5a l_5l l_5c c_6 m) (l1Q  R)) (fun e ρ m h => ?_) ρ m ?_
  · cases e with
    | normal =>
      have h : l1E (fun b_1 x4b x4o l_5a l_5l l_5c c_6 m => ∃ N1, N1 < N ∧ I N1 b_1 x4b x4o l_5a l_5l l_5c c_6 m) ρ m := h
      unfold l1E at h
      obtain ⟨b_1, e1, h⟩ := h.ex
      obtain ⟨x4b, x4o, e4, h⟩ := h.ex
      obtain ⟨l_5a, l_5l, l_5c, e5, h⟩ := h.ex
      obtain ⟨c_6, e6, h⟩ := h.ex
      obtain ⟨N1, hlt, h⟩ := h
      exact ⟨N1, hlt, (by show l1E (I N1) ρ m; unfold l1E; rw [e1, e4, e5, e6]; exact h)⟩
    | _ => exact h
  have hh := hs N b_1 x4b x4o l_5a l_5l l_5c c_6 m h
  generalize (fun b_1 x4b x4o l_5a l_5l l_5c c_6 m => ∃ N1, N1 < N ∧ I N1 b_1 x4b x4o l_5a l_5l l_5c c_6 m : Int → Nat → Nat → Option Addr → Nat → Nat → Int → Mem → Prop) = K1 at hh ⊢
  rw [← upd_self e1, ← upd_self e4, ← upd_self e5, ← upd_self e6]
  rw [← l1_er  K1 R]
  refine acpt_sound (P := P) (l1A  K1 R) _ _ _ True.intro ?_
  exact Eq.mp (l1_eq  K1 R b_1 x4b x4o l_5a l_5l l_5c c_6 ρ m) hh
theorem e0_eq (a_0 : Int) (b_1 : Int) (R : Ending → Mem → Prop) (m : Mem) : e0 a_0 b_1 R m = acpt P od (panicR R) (e0A R) (bodyQ P fn R) (argE (#[.int .u8 a_0, .int .u8 b_1] : Array Value).toList) m := by kernel_rfl
theorem ok (a_0 : Int) (b_1 : Int) (R : Ending → Mem → Prop) (m : Mem) (h : e0 a_0 b_1 R m) : HC P id #[.int .u8 a_0, .int .u8 b_1] m R := by
  refine HC_of (fn := fn) (c := body) (od := od) (tb := tb) Go.Proofs.Tryd.func93 (by kernel_rfl) (by kernel_rfl) follows (by kernel_rfl) (of_decide_eq_true (by kernel_rfl)) ?_
  have he : (e0A R).erase = body := by kernel_rfl
  rw [← he]
  refine acpt_sound (P := P) (e0A R) _ _ _ ⟨⟨⟨True.intro, ⟨(fun ρ m h => l1_ok  R ρ m h), True.intro⟩⟩, True.intro⟩, True.intro⟩ ?_
  exact Eq.mp (e0_eq a_0 b_1 R m) h
end class_run
/-! ### (*eyot/class.reader).part -/
namespace class_reader_part
noncomputable def fn : Func := Go.Proofs.Tryd.f94
noncomputable def body : Code := fn.body.getD .skip
def od : Nat → Ord := fun _ => .done
def tb : Nat → Tab := fun _ => (0, [], [])
def e0 (r_0 : Option Addr) (R : Ending → Mem → Prop) (m : Mem) : Prop :=
 NewC m #[.int .u64 0, .int .u64 0, .int .u64 0, .int .u64 0] T_api_Set fun b2 m1 =>
 HC P class_reader_sign.id #[.pointer r_0] m1 (Cont (fun v m2 =>
   UnI v .u8 fun x6 =>
   HC P class_reader_next.id #[.pointer r_0] m2 (Cont (fun v m3 =>
     UnI v .u8 fun x8 =>
     Br (x8 != 45) (
      HC P class_run.id #[.int .u8 x6, .int .u8 x6] m3 (Cont (fun v m4 =>
        UnAgg v fun l =>
        UnCons l fun v l =>
        UnI v .u64 fun x12_0 =>
        UnCons l fun v l =>
        UnI v .u64 fun x12_1 =>
        UnCons l fun v l =>
        UnI v .u64 fun x12_2 =>
        UnCons l fun v l =>
        UnI v .u64 fun x12_3 =>
        UnNil l (
        St1 m4 b2 0 (.int .u64 x12_0) fun m5 =>
        St1 m5 b2 1 (.int .u64 x12_1) fun m6 =>
        St1 m6 b2 2 (.int .u64 x12_2) fun m7 =>
        St1 m7 b2 3 (.int .u64 x12_3) fun m8 =>
        LdV m8 b2 0 fun v =>
        UnI v .u64 fun res0_0 =>
        LdV m8 b2 1 fun v =>
        UnI v .u64 fun res0_1 =>
        LdV m8 b2 2 fun v =>
        UnI v .u64 fun res0_2 =>
        LdV m8 b2 3 fun v =>
        UnI v .u64 fun res0_3 =>
        R (.returned (.agg #[.int .u64 res0_0, .int .u64 res0_1, .int .u64 res0_2, .int .u64 res0_3])) m8)) (panicR R))) (
      HC P class_reader_take.id #[.pointer r_0] m3 (Cont (fun v m4 =>
        UnI v .u8 fun x14 =>
        HC P class_reader_sign.id #[.pointer r_0] m4 (Cont (fun v m5 =>
        UnI v .u8 fun x16 =>
        Br (decide (x16 < x6)) (
        R (.panicked [{ v := .iface T_class_refusal (.agg #[]), recovered := false }]) m5) (
        HC P class_run.id #[.int .u8 x6, .int .u8 x16] m5 (Cont (fun v m6 =>
        UnAgg v fun l =>
        UnCons l fun v l =>
        UnI v .u64 fun x24_0 =>
        UnCons l fun v l =>
        UnI v .u64 fun x24_1 =>
        UnCons l fun v l =>
        UnI v .u64 fun x24_2 =>
        UnCons l fun v l =>
        UnI v .u64 fun x24_3 =>
        UnNil l (
        St1 m6 b2 0 (.int .u64 x24_0) fun m7 =>
        St1 m7 b2 1 (.int .u64 x24_1) fun m8 =>
        St1 m8 b2 2 (.int .u64 x24_2) fun m9 =>
        St1 m9 b2 3 (.int .u64 x24_3) fun m10 =>
        LdV m10 b2 0 fun v =>
        UnI v .u64 fun res0_0 =>
        LdV m10 b2 1 fun v =>
        UnI v .u64 fun res0_1 =>
        LdV m10 b2 2 fun v =>
        UnI v .u64 fun res0_2 =>
        LdV m10 b2 3 fun v =>
        UnI v .u64 fun res0_3 =>
        R (.returned (.agg #[.int .u64 res0_0, .int .u64 res0_1, .int .u64 res0_2, .int .u64 res0_3])) m10)) (panicR R)))) (panicR R))) (panicR R)))) (panicR R))) (panicR R))
noncomputable def e0A (R : Ending → Mem → Prop) : ACode := (.code (body))
theorem e0_eq (r_0 : Option Addr) (R : Ending → Mem → Prop) (m : Mem) : e0 r_0 R m = acpt P od (panicR R) (e0A R) (bodyQ P fn R) (argE (#[.pointer r_0] : Array Value).toList) m := by kernel_rfl
theorem ok (r_0 : Option Addr) (R : Ending → Mem → Prop) (m : Mem) (h : e0 r_0 R m) : HC P id #[.pointer r_0] m R := by
  refine HC_of (fn := fn) (c := body) (od := od) (tb := tb) Go.Proofs.Tryd.func94 (by kernel_rfl) (by kernel_rfl) follows (by kernel_rfl) (of_decide_eq_true (by kernel_rfl)) ?_
  have he : (e0A R).erase = body := by kernel_rfl
  rw [← he]
  refine acpt_sound (P := P) (e0A R) _ _ _ True.intro ?_
  exact Eq.mp (e0_eq r_0 R m) h
end class_reader_part
/-! ### eyot/class.Or -/
namespace class_Or
noncomputable def fn : Func := Go.Proofs.Tryd.f95
noncomputable def body : Code := fn.body.getD .skip
def od : Nat → Ord := fun _ => .done
def tb : Nat → Tab := fun _ => (0, [], [])
def e0 (a_0_0 : Int) (a_0_1 : Int) (a_0_2 : Int) (a_0_3 : Int) (b_1_0 : Int) (b_1_1 : Int) (b_1_2 : Int) (b_1_3 : Int) (R : Ending → Mem → Prop) (m : Mem) : Prop :=
 NewC m #[.int .u64 a_0_0, .int .u64 a_0_1, .int .u64 a_0_2, .int .u64 a_0_3] T_api_Set fun b_a_2 m1 =>
 NewC m1 #[.int .u64 b_1_0, .int .u64 b_1_1, .int .u64 b_1_2, .int .u64 b_1_3] T_api_Set fun b_3 m2 =>
 NewC m2 #[.int .u64 0, .int .u64 0, .int .u64 0, .int .u64 0] T_api_Set fun b4 m3 =>
 LdV m3 b_a_2 0 fun v =>
 UnI v .u64 fun x5_0 =>
 LdV m3 b_a_2 1 fun v =>
 UnI v .u64 fun x5_1 =>
 LdV m3 b_a_2 2 fun v =>
 UnI v .u64 fun x5_2 =>
 LdV m3 b_a_2 3 fun v =>
 UnI v .u64 fun x5_3 =>
 LdV m3 b_3 0 fun v =>
 UnI v .u64 fun x6_0 =>
 LdV m3 b_3 1 fun v =>
 UnI v .u64 fun x6_1 =>
 LdV m3 b_3 2 fun v =>
 UnI v .u64 fun x6_2 =>
 LdV m3 b_3 3 fun v =>
 UnI v .u64 fun x6_3 =>
 HC P class_with.id #[.agg #[.int .u64 x5_0, .int .u64 x5_1, .int .u64 x5_2, .int .u64 x5_3], .agg #[.int .u64 x6_0, .int .u64 x6_1, .int .u64 x6_2, .int .u64 x6_3], .func (.func class_Or_1.id) #[] #[]] m3 (Cont (fun v m4 =>
   UnAgg v fun l =>
   UnCons l fun v l =>
   UnI v .u64 fun x7_0 =>
   UnCons l fun v l =>
   UnI v .u64 fun x7_1 =>
   UnCons l fun v l =>
   UnI v .u64 fun x7_2 =>
   UnCons l fun v l =>
   UnI v .u64 fun x7_3 =>
   UnNil l (
    St1 m4 b4 0 (.int .u64 x7_0) fun m5 =>
    St1 m5 b4 1 (.int .u64 x7_1) fun m6 =>
    St1 m6 b4 2 (.int .u64 x7_2) fun m7 =>
    St1 m7 b4 3 (.int .u64 x7_3) fun m8 =>
    LdV m8 b4 0 fun v =>
    UnI v .u64 fun res0_0 =>
    LdV m8 b4 1 fun v =>
    UnI v .u64 fun res0_1 =>
    LdV m8 b4 2 fun v =>
    UnI v .u64 fun res0_2 =>
    LdV m8 b4 3 fun v =>
    UnI v .u64 fun res0_3 =>
    R (.returned (.agg #[.int .u64 res0_0, .int .u64 res0_1, .int .u64 res0_2, .int .u64 res0_3])) m8)) (panicR R))
noncomputable def e0A (R : Ending → Mem → Prop) : ACode := (.code (body))
theorem e0_eq (a_0_0 : Int) (a_0_1 : Int) (a_0_2 : Int) (a_0_3 : Int) (b_1_0 : Int) (b_1_1 : Int) (b_1_2 : Int) (b_1_3 : Int) (R : Ending → Mem → Prop) (m : Mem) : e0 a_0_0 a_0_1 a_0_2 a_0_3 b_1_0 b_1_1 b_1_2 b_1_3 R m = acpt P od (panicR R) (e0A R) (bodyQ P fn R) (argE (#[.agg #[.int .u64 a_0_0, .int .u64 a_0_1, .int .u64 a_0_2, .int .u64 a_0_3], .agg #[.int .u64 b_1_0, .int .u64 b_1_1, .int .u64 b_1_2, .int .u64 b_1_3]] : Array Value).toList) m := by kernel_rfl
theorem ok (a_0_0 : Int) (a_0_1 : Int) (a_0_2 : Int) (a_0_3 : Int) (b_1_0 : Int) (b_1_1 : Int) (b_1_2 : Int) (b_1_3 : Int) (R : Ending → Mem → Prop) (m : Mem) (h : e0 a_0_0 a_0_1 a_0_2 a_0_3 b_1_0 b_1_1 b_1_2 b_1_3 R m) : HC P id #[.agg #[.int .u64 a_0_0, .int .u64 a_0_1, .int .u64 a_0_2, .int .u64 a_0_3], .agg #[.int .u64 b_1_0, .int .u64 b_1_1, .int .u64 b_1_2, .int .u64 b_1_3]] m R := by
  refine HC_of (fn := fn) (c := body) (od := od) (tb := tb) Go.Proofs.Tryd.func95 (by kernel_rfl) (by kernel_rfl) follows (by kernel_rfl) (of_decide_eq_true (by kernel_rfl)) ?_
  have he : (e0A R).erase = body := by kernel_rfl
  rw [← he]
  refine acpt_sound (P := P) (e0A R) _ _ _ True.intro ?_
  exact Eq.mp (e0_eq a_0_0 a_0_1 a_0_2 a_0_3 b_1_0 b_1_1 b_1_2 b_1_3 R m) h
end class_Or
/-! ### math/bits.TrailingZeros64 -/
namespace math_bits_TrailingZeros64
noncomputable def fn : Func := Go.Proofs.Tryd.f96
noncomputable def body : Code := fn.body.getD .skip
def od : Nat → Ord := fun _ => .done
def tb : Nat → Tab := fun _ => (0, [], [])
def e0 (x_0 : Int) (R : Ending → Mem → Prop) (m : Mem) : Prop :=
 Br (x_0 == 0) (
  R (.returned (.int .i64 64)) m) (
  0 ≤ (shrV .u64 (IntKind.u64.wrap ((bitsV .and .u64 x_0 (IntKind.u64.wrap (0 - x_0))) * 285870213051353865)) 58 : Int) ∧ (shrV .u64 (IntKind.u64.wrap ((bitsV .and .u64 x_0 (IntKind.u64.wrap (0 - x_0))) * 285870213051353865)) 58 : Int) < (64 : Nat) ∧ (
   LdV m 1 (0 + (shrV .u64 (IntKind.u64.wrap ((bitsV .and .u64 x_0 (IntKind.u64.wrap (0 - x_0))) * 285870213051353865)) 58 : Int).toNat * 1) fun v =>
   UnI v .u8 fun x12 =>
   R (.returned (.int .i64 (IntKind.i64.wrap x12))) m))
noncomputable def e0A (R : Ending → Mem → Prop) : ACode := (.code (body))
theorem e0_eq (x_0 : Int) (R : Ending → Mem → Prop) (m : Mem) : e0 x_0 R m = acpt P od (panicR R) (e0A R) (bodyQ P fn R) (argE (#[.int .u64 x_0] : Array Value).toList) m := by kernel_rfl
theorem ok (x_0 : Int) (R : Ending → Mem → Prop) (m : Mem) (h : e0 x_0 R m) : HC P id #[.int .u64 x_0] m R := by
  refine HC_of (fn := fn) (c := body) (od := od) (tb := tb) Go.Proofs.Tryd.func96 (by kernel_rfl) (by kernel_rfl) follows (by kernel_rfl) (of_decide_eq_true (by kernel_rfl)) ?_
  have he : (e0A R).erase = body := by kernel_rfl
  rw [← he]
  refine acpt_sound (P := P) (e0A R) _ _ _ True.intro ?_
  exact Eq.mp (e0_eq x_0 R m) h
end math_bits_TrailingZeros64
end
end Go.E
set_option linter.unusedVariables false
set_option maxRecDepth 100000
namespace Go.E
open Go.H
noncomputable section
/-! ### (*eyot/class.reader).digit -/
namespace class_reader_digit
noncomputable def fn : Func := Go.Proofs.Tryd.f98
noncomputable def body : Code := fn.body.getD .skip
def od : Nat → Ord := fun _ => .done
def tb : Nat → Tab := fun _ => (0, [], [])
def e0 (r_0 : Option Addr) (R : Ending → Mem → Prop) (m : Mem) : Prop :=
 HC P class_reader_take.id #[.pointer r_0] m (Cont (fun v m1 =>
   UnI v .u8 fun x5 =>
   HC P strings_IndexByte.id #[.string (ByteArray.mk #[48, 49, 50, 51, 52, 53, 54, 55, 56, 57, 97, 98, 99, 100, 101, 102]), .int .u8 x5] m1 (Cont (fun v m2 =>
     UnI v .i64 fun x6 =>
     Br (decide (x6 < 0)) (
      R (.panicked [{ v := .iface T_class_refusal (.agg #[]), recovered := false }]) m2) (
      R (.returned (.int .u8 (IntKind.u8.wrap x6))) m2)) (panicR R))) (panicR R))
noncomputable def e0A (R : Ending → Mem → Prop) : ACode := (.code (body))
theorem e0_eq (r_0 : Option Addr) (R : Ending → Mem → Prop) (m : Mem) : e0 r_0 R m = acpt P od (panicR R) (e0A R) (bodyQ P fn R) (argE (#[.pointer r_0] : Array Value).toList) m := by kernel_rfl
theorem ok (r_0 : Option Addr) (R : Ending → Mem → Prop) (m : Mem) (h : e0 r_0 R m) : HC P id #[.pointer r_0] m R := by
  refine HC_of (fn := fn) (c := body) (od := od) (tb := tb) Go.Proofs.Tryd.func98 (by kernel_rfl) (by kernel_rfl) follows (by kernel_rfl) (of_decide_eq_true (by kernel_rfl)) ?_
  have he : (e0A R).erase = body := by kernel_rfl
  rw [← he]
  refine acpt_sound (P := P) (e0A R) _ _ _ True.intro ?_
  exact Eq.mp (e0_eq r_0 R m) h
end class_reader_digit
/-! ### eyot/class.Of -/
namespace class_Of
noncomputable def fn : Func := Go.Proofs.Tryd.f99
noncomputable def body : Code := fn.body.getD .skip
def od : Nat → Ord := fun _ => .done
def tb : Nat → Tab := fun _ => (0, [], [])
def l1E (K : Nat → Nat → Nat → Nat → Option Addr → Nat → Nat → Int → Int → Mem → Prop) : Env → Mem → Prop := fun ρ m => UnPA (ρ 2) fun x2b x2o => UnPA (ρ 3) fun s_3b s_3o => UnS (ρ 6) fun x6a x6l x6c => UnI (ρ 7) .i64 fun x7 => UnI (ρ 8) .i64 fun x8 => K x2b x2o s_3b s_3o x6a x6l x6c x7 x8 m
def l1B  (K1 : Nat → Nat → Nat → Nat → Option Addr → Nat → Nat → Int → Int → Mem → Prop) (x2b : Nat) (x2o : Nat) (s_3b : Nat) (s_3o : Nat) (x6a : Option Addr) (x6l : Nat) (x6c : Nat) (x7 : Int) (x8 : Int) (R : Ending → Mem → Prop) (m : Mem) : Prop :=
 Br (decide (x8 < x7)) (
  IxS x6a x6l x8 1 fun x10b x10o =>
  LdV m x10b x10o fun v =>
  UnI v .u8 fun x11 =>
  0 ≤ (IntKind.u8.wrap (Int.tdiv x11 64) : Int) ∧ (IntKind.u8.wrap (Int.tdiv x11 64) : Int) < (4 : Nat) ∧ (
   LdV m s_3b (s_3o + (IntKind.u8.wrap (Int.tdiv x11 64) : Int).toNat * 1) fun v =>
   UnI v .u64 fun x15 =>
   NnI (Int.tmod x11 64) (
    0 ≤ (IntKind.u8.wrap (Int.tdiv x11 64) : Int) ∧ (IntKind.u8.wrap (Int.tdiv x11 64) : Int) < (4 : Nat) ∧ (
     St1 m s_3b (s_3o + (IntKind.u8.wrap (Int.tdiv x11 64) : Int).toNat * 1) (.int .u64 (bitsV .or .u64 x15 (shlV .u64 1 (Int.tmod x11 64)))) fun m1 =>
     K1 x2b x2o s_3b s_3o x6a x6l x6c x7 (IntKind.i64.wrap (x8 + 1)) m1)))) (
  LdV m s_3b s_3o fun v =>
  UnI v .u64 fun x22_0 =>
  LdV m s_3b (s_3o + 1) fun v =>
  UnI v .u64 fun x22_1 =>
  LdV m s_3b (s_3o + 2) fun v =>
  UnI v .u64 fun x22_2 =>
  LdV m s_3b (s_3o + 3) fun v =>
  UnI v .u64 fun x22_3 =>
  St1 m x2b x2o (.int .u64 x22_0) fun m1 =>
  St1 m1 x2b (x2o + 1) (.int .u64 x22_1) fun m2 =>
  St1 m2 x2b (x2o + 2) (.int .u64 x22_2) fun m3 =>
  St1 m3 x2b (x2o + 3) (.int .u64 x22_3) fun m4 =>
  LdV m4 x2b x2o fun v =>
  UnI v .u64 fun res0_0 =>
  LdV m4 x2b (x2o + 1) fun v =>
  UnI v .u64 fun res0_1 =>
  LdV m4 x2b (x2o + 2) fun v =>
  UnI v .u64 fun res0_2 =>
  LdV m4 x2b (x2o + 3) fun v =>
  UnI v .u64 fun res0_3 =>
  R (.returned (.agg #[.int .u64 res0_0, .int .u64 res0_1, .int .u64 res0_2, .int .u64 res0_3])) m4)
def l1  (x2b : Nat) (x2o : Nat) (s_3b : Nat) (s_3o : Nat) (x6a : Option Addr) (x6l : Nat) (x6c : Nat) (x7 : Int) (x8 : Int) (R : Ending → Mem → Prop) (m : Mem) : Prop :=
  ∃ (I : Nat → Nat → Nat → Nat → Nat → Option Addr → Nat → Nat → Int → Int → Mem → Prop) (N : Nat), I N x2b x2o s_3b s_3o x6a x6l x6c x7 x8 m ∧ ∀ N x2b x2o s_3b s_3o x6a x6l x6c x7 x8 m, I N x2b x2o s_3b s_3o x6a x6l x6c x7 x8 m → l1B  (fun x2b x2o s_3b s_3o x6a x6l x6c x7 x8 m => ∃ N1, N1 < N ∧ I N1 x2b x2o s_3b s_3o x6a x6l x6c x7 x8 m) x2b x2o s_3b s_3o x6a x6l x6c x7 x8 R m
noncomputable def l1A  (K1 : Nat → Nat → Nat → Nat → Option Addr → Nat → Nat → Int → Int → Mem → Prop) (R : Ending → Mem → Prop) : ACode := (.code (lP (bB (sR (sL (sR (sR (body))))))))
def e0 (l_0a : Option Addr) (l_0l : Nat) (l_0c : Nat) (R : Ending → Mem → Prop) (m : Mem) : Prop :=
 NewC m #[.int .u64 0, .int .u64 0, .int .u64 0, .int .u64 0] T_api_Set fun b2 m1 =>
 NewC m1 #[.int .u64 0, .int .u64 0, .int .u64 0, .int .u64 0] T_api_Set fun b_s_3 m2 =>
 l1  b2 0 b_s_3 0 l_0a l_0l l_0c ((l_0l : Nat) : Int) 0 R m2
noncomputable def e0A (R : Ending → Mem → Prop) : ACode := (.seq (.code (sL (body))) (.seq (.code (sL (sR (body)))) (.seq (.seq (.code (sL (sL (sR (sR (body)))))) (.block 0 (.cut (l1E fun x2b x2o s_3b s_3o x6a x6l x6c x7 x8 m => l1  x2b x2o s_3b s_3o x6a x6l x6c x7 x8 R m) (.loop (lP (bB (sR (sL (sR (sR (body))))))))))) (.code (sR (sR (sR (body))))))))
abbrev l1Q  (R : Ending → Mem → Prop) : Exit → Env → Mem → Prop := (blockQ 0 (thenQ (acpt P od (panicR R) (.code (sR (sR (sR (body))))) (bodyQ P fn R)) (bodyQ P fn R)))
theorem l1_eq  (K1 : Nat → Nat → Nat → Nat → Option Addr → Nat → Nat → Int → Int → Mem → Prop) (R : Ending → Mem → Prop) (x2b : Nat) (x2o : Nat) (s_3b : Nat) (s_3o : Nat) (x6a : Option Addr) (x6l : Nat) (x6c : Nat) (x7 : Int) (x8 : Int) (ρ : Env) (m : Mem) : l1B  K1 x2b x2o s_3b s_3o x6a x6l x6c x7 x8 R m = acpt P od (panicR R) (l1A  K1 R) (thenQ (l1E K1) (l1Q  R)) (upd (upd (upd (upd (upd ρ 8 (.int .i64 x8)) 7 (.int .i64 x7)) 6 (.slice x6a x6l x6c)) 3 (.pointer (some ⟨s_3b, s_3o, none⟩))) 2 (.pointer (some ⟨x2b, x2o, none⟩))) m := by kernel_rfl
theorem l1_er  (K1 : Nat → Nat → Nat → Nat → Option Addr → Nat → Nat → Int → Int → Mem → Prop) (R : Ending → Mem → Prop) : (l1A  K1 R).erase = lP (bB (sR (sL (sR (sR (body)))))) := by kernel_rfl
theorem l1_ok  (R : Ending → Mem → Prop) (ρ : Env) (m : Mem) (h : (l1E fun x2b x2o s_3b s_3o x6a x6l x6c x7 x8 m => l1  x2b x2o s_3b s_3o x6a x6l x6c x7 x8 R m) ρ m) : cpt P od (panicR R) (.loop (lP (bB (sR (sL (sR (sR (body)))))))) (l1Q  R) ρ m := by
  unfold l1E at h
  obtain ⟨x2b, x2o, e2, h⟩ := h.ex
  obtain ⟨s_3b, s_3o, e3, h⟩ := h.ex
  obtain ⟨x6a, x6l, x6c, e6, h⟩ := h.ex
  obtain ⟨x7, e7, h⟩ := h.ex
  obtain ⟨x8, e8, h⟩ := h.ex
  obtain ⟨I, N, h0, hs⟩ := h
  refine ⟨fun N => l1E (I N), N, (by show l1E (I N) ρ m; unfold l1E; rw [e2, e3, e6, e7, e8]; exact h0), ?_⟩
  clear h0 e2 e3 e6 e7 e8
  intro N ρ m h
  unfold l1E at h
  obtain ⟨x2b, x2o, e2, h⟩ := h.ex
  obtain ⟨s_3b, s_3o, e3, h⟩ := h.ex
  obtain ⟨x6a, x6l, x6c, e6, h⟩ := h.ex
  obtain ⟨x7, e7, h⟩ := h.ex
  obtain ⟨x8, e8, h⟩ := h.ex
  refine cpt_mono (P := P) (lP (bB (sR (sL (sR (sR (body))))))) (Q := thenQ (l1E fun x2b x2o s_3b s_3o x6a x6l x6c x7 x8 m => ∃ N1, N1 < N ∧ I N1 x2b x2o s_3b s_3o x6a x6l x6c x7 x8 m) (l1Q  R)) (fun e ρ m h => ?_) ρ m ?_
  · cases e with
    | normal =>
      have h : l1E (fun x2b x2o s_3b s_3o x6a x6l x6c x7 x8 m => ∃ N1, N1 < N ∧ I N1 x2b x2o s_3b s_3o x6a x6l x6c x7 x8 m) ρ m := h
      unfold l1E at h
      obtain ⟨x2b, x2o, e2, h⟩ := h.ex
      obtain ⟨s_3b, s_3o, e3, h⟩ := h.ex
      obtain ⟨x6a, x6l, x6c, e6, h⟩ := h.ex
      obtain ⟨x7, e7, h⟩ := h.ex
      obtain ⟨x8, e8, h⟩ := h.ex
      obtain ⟨N1, hlt, h⟩ := h
      exact ⟨N1, hlt, (by show l1E (I N1) ρ m; unfold l1E; rw [e2, e3, e6, e7, e8]; exact h)⟩
    | _ => exact h
  have hh := hs N x2b x2o s_3b s_3o x6a x6l x6c x7 x8 m h
  generalize (fun x2b x2o s_3b s_3o x6a x6l x6c x7 x8 m => ∃ N1, N1 < N ∧ I N1 x2b x2o s_3b s_3o x6a x6l x6c x7 x8 m : Nat → Nat → Nat → Nat → Option Addr → Nat → Nat → Int → Int → Mem → Prop) = K1 at hh ⊢
  rw [← upd_self e2, ← upd_self e3, ← upd_self e6, ← upd_self e7, ← upd_self e8]
  rw [← l1_er  K1 R]
  refine acpt_sound (P := P) (l1A  K1 R) _ _ _ True.intro ?_
  exact Eq.mp (l1_eq  K1 R x2b x2o s_3b s_3o x6a x6l x6c x7 x8 ρ m) hh
theorem e0_eq (l_0a : Option Addr) (l_0l : Nat) (l_0c : Nat) (R : Ending → Mem → Prop) (m : Mem) : e0 l_0a l_0l l_0c R m = acpt P od (panicR R) (e0A R) (bodyQ P fn R) (argE (#[.slice l_0a l_0l l_0c] : Array Value).toList) m := by kernel_rfl
theorem ok (l_0a : Option Addr) (l_0l : Nat) (l_0c : Nat) (R : Ending → Mem → Prop) (m : Mem) (h : e0 l_0a l_0l l_0c R m) : HC P id #[.slice l_0a l_0l l_0c] m R := by
  refine HC_of (fn := fn) (c := body) (od := od) (tb := tb) Go.Proofs.Tryd.func99 (by kernel_rfl) (by kernel_rfl) follows (by kernel_rfl) (of_decide_eq_true (by kernel_rfl)) ?_
  have he : (e0A R).erase = body := by kernel_rfl
  rw [← he]
  refine acpt_sound (P := P) (e0A R) _ _ _ ⟨⟨⟨True.intro, ⟨(fun ρ m h => l1_ok  R ρ m h), True.intro⟩⟩, True.intro⟩, True.intro⟩ ?_
  exact Eq.mp (e0_eq l_0a l_0l l_0c R m) h
end class_Of
/-! ### eyot/class.Or$1 -/
namespace class_Or_1
noncomputable def fn : Func := Go.Proofs.Tryd.f100
noncomputable def body : Code := fn.body.getD .skip
def od : Nat → Ord := fun _ => .done
def tb : Nat → Tab := fun _ => (0, [], [])
def e0 (x_0 : Int) (y_1 : Int) (R : Ending → Mem → Prop) (m : Mem) : Prop :=
 R (.returned (.int .u64 (bitsV .or .u64 x_0 y_1))) m
noncomputable def e0A (R : Ending → Mem → Prop) : ACode := (.code (body))
theorem e0_eq (x_0 : Int) (y_1 : Int) (R : Ending → Mem → Prop) (m : Mem) : e0 x_0 y_1 R m = acpt P od (panicR R) (e0A R) (bodyQ P fn R) (argE (#[.int .u64 x_0, .int .u64 y_1] : Array Value).toList) m := by kernel_rfl
theorem ok (x_0 : Int) (y_1 : Int) (R : Ending → Mem → Prop) (m : Mem) (h : e0 x_0 y_1 R m) : HC P id #[.int .u64 x_0, .int .u64 y_1] m R := by
  refine HC_of (fn := fn) (c := body) (od := od) (tb := tb) Go.Proofs.Tryd.func100 (by kernel_rfl) (by kernel_rfl) follows (by kernel_rfl) (of_decide_eq_true (by kernel_rfl)) ?_
  have he : (e0A R).erase = body := by kernel_rfl
  rw [← he]
  refine acpt_sound (P := P) (e0A R) _ _ _ True.intro ?_
  exact Eq.mp (e0_eq x_0 y_1 R m) h
end class_Or_1
end
end Go.E
set_option linter.unusedVariables false
namespace Go.E
open Go.H
theorem eU8 : ElemOK P T_sl_uint8 T_uint8 (.int .u8 0) 1 1 := .of (by kernel_rfl) (by kernel_rfl) rfl
end Go.E
set_option linter.unusedVariables false
set_option linter.unusedSimpArgs false
namespace Go.E
open Go.H
attribute [local irreducible] BiN MkS ConvN LookN MapUpN CallV HC
theorem St1.four {m : Mem} {b : Nat} {x0 x1 x2 x3 u0 u1 u2 u3 : Value} {e : TypeId} {K : Mem → Prop} (h : m b = some (.cells #[x0, x1, x2, x3] e (0, 0))) (h0 : notOne u0 = false) (h1 : notOne u1 = false) (h2 : notOne u2 = false) (h3 : notOne u3 = false)
    (k : K (m.set b (.cells #[u0, u1, u2, u3] e (0, 0)))) : St1 m b 0 u0 fun m1 => St1 m1 b 1 u1 fun m2 => St1 m2 b 2 u2 fun m3 => St1 m3 b 3 u3 K := by
  refine St1.to #[u0, x1, x2, x3] h (by simp) h0 rfl ?_
  refine St1.to #[u0, u1, x2, x3] (set_same _ _ _) (by simp) h1 rfl ?_
  rw [set_set]
  refine St1.to #[u0, u1, u2, x3] (set_same _ _ _) (by simp) h2 rfl ?_
  rw [set_set]
  refine St1.to #[u0, u1, u2, u3] (set_same _ _ _) (by simp) h3 rfl ?_
  rw [set_set]
  exact k
theorem get4 {m : Mem} {b : Nat} {u0 u1 u2 u3 : Int} {e : TypeId} {fr : Nat × Nat} {K : Int → Int → Int → Int → Prop} (h : m b = some (.cells #[.int .u64 u0, .int .u64 u1, .int .u64 u2, .int .u64 u3] e fr)) (k : K u0 u1 u2 u3) :
    LdV m b 0 fun v => UnI v .u64 fun x0 => LdV m b 1 fun v => UnI v .u64 fun x1 => LdV m b 2 fun v => UnI v .u64 fun x2 => LdV m b 3 fun v => UnI v .u64 fun x3 => K x0 x1 x2 x3 :=
  LdV.s0 h (LdV.s1 h (LdV.s2 h (LdV.s3 h k)))
theorem put4 {m : Mem} {b : Nat} {x0 x1 x2 x3 : Value} {u0 u1 u2 u3 : Int} {e : TypeId} {K : Mem → Prop} (h : m b = some (.cells #[x0, x1, x2, x3] e (0, 0)))
    (k : K (m.set b (.cells #[.int .u64 u0, .int .u64 u1, .int .u64 u2, .int .u64 u3] e (0, 0)))) : St1 m b 0 (.int .u64 u0) fun m1 => St1 m1 b 1 (.int .u64 u1) fun m2 => St1 m2 b 2 (.int .u64 u2) fun m3 => St1 m3 b 3 (.int .u64 u3) K :=
  St1.four h rfl rfl rfl rfl k
/-- A result is stored into its own place and read back. -/
theorem out4 {m : Mem} {b : Nat} {x0 x1 x2 x3 : Value} {u0 u1 u2 u3 : Int} {e : TypeId} {K : Int → Int → Int → Int → Mem → Prop} (h : m b = some (.cells #[x0, x1, x2, x3] e (0, 0)))
    (k : K u0 u1 u2 u3 (m.set b (.cells #[.int .u64 u0, .int .u64 u1, .int .u64 u2, .int .u64 u3] e (0, 0)))) :
    St1 m b 0 (.int .u64 u0) fun m1 => St1 m1 b 1 (.int .u64 u1) fun m2 => St1 m2 b 2 (.int .u64 u2) fun m3 => St1 m3 b 3 (.int .u64 u3) fun m4 =>
    LdV m4 b 0 fun v => UnI v .u64 fun x0 => LdV m4 b 1 fun v => UnI v .u64 fun x1 => LdV m4 b 2 fun v => UnI v .u64 fun x2 => LdV m4 b 3 fun v => UnI v .u64 fun x3 => K x0 x1 x2 x3 m4 :=
  put4 h (get4 (set_same _ _ _) k)
theorem UnSet.mk {u0 u1 u2 u3 : Int} {K : Int → Int → Int → Int → Prop} (k : K u0 u1 u2 u3) :
    UnAgg (.agg #[.int .u64 u0, .int .u64 u1, .int .u64 u2, .int .u64 u3]) fun l => UnCons l fun v l => UnI v .u64 fun x0 => UnCons l fun v l => UnI v .u64 fun x1 => UnCons l fun v l => UnI v .u64 fun x2 => UnCons l fun v l => UnI v .u64 fun x3 => UnNil l (K x0 x1 x2 x3) := k
theorem ContSet.mk {u0 u1 u2 u3 : Int} {K : Int → Int → Int → Int → Mem → Prop} {Pn : List PanicEntry → Mem → Prop} {m : Mem} (k : K u0 u1 u2 u3 m) :
    Cont (fun v m => UnAgg v fun l => UnCons l fun v l => UnI v .u64 fun x0 => UnCons l fun v l => UnI v .u64 fun x1 => UnCons l fun v l => UnI v .u64 fun x2 => UnCons l fun v l => UnI v .u64 fun x3 => UnNil l (K x0 x1 x2 x3 m)) Pn
      (.returned (.agg #[.int .u64 u0, .int .u64 u1, .int .u64 u2, .int .u64 u3])) m := k
theorem with_spec {fid : FuncId} {op : Int → Int → Int} (hop : ∀ (m : Mem) (x y : Int) (R : Ending → Mem → Prop), R (.returned (.int .u64 (op x y))) m → HC P fid #[.int .u64 x, .int .u64 y] m R)
    {a0 a1 a2 a3 b0 b1 b2 b3 : Int} {m : Mem} {R : Ending → Mem → Prop}
    (h : ∀ m', Le m m' → R (.returned (.agg #[.int .u64 (op a0 b0), .int .u64 (op a1 b1), .int .u64 (op a2 b2), .int .u64 (op a3 b3)])) m') :
    HC P class_with.id #[.agg #[.int .u64 a0, .int .u64 a1, .int .u64 a2, .int .u64 a3], .agg #[.int .u64 b0, .int .u64 b1, .int .u64 b2, .int .u64 b3], .func (.func fid) #[] #[]] m R := by
  refine class_with.ok _ _ _ _ _ _ _ _ _ _ _ ?_
  intro ba hba bb hbb b6 hb6
  have hx1 : Le m (m.set ba (.cells #[.int .u64 a0, .int .u64 a1, .int .u64 a2, .int .u64 a3] T_api_Set (0, 0))) := Le.set hba _
  have hne1 : bb ≠ ba := fun e => by subst e; rw [set_same] at hbb; cases hbb
  have hne2 : b6 ≠ bb := fun e => by subst e; rw [set_same] at hb6; cases hb6
  have hne3 : b6 ≠ ba := fun e => by subst e; rw [set_other _ _ hne1.symm, set_same] at hb6; cases hb6
  have hmb : m bb = none := by rw [set_other _ _ hne1] at hbb; exact hbb
  have hm6 : m b6 = none := by rw [set_other _ _ hne2, set_other _ _ hne3] at hb6; exact hb6
  let W : Nat → Nat → Int → Int → Int := fun i j x y => if j < i then op x y else x
  refine ⟨fun N f a3b a3o b4b b4o x6b x6o i mm => f = .func (.func fid) #[] #[] ∧ a3b = ba ∧ a3o = 0 ∧ b4b = bb ∧ b4o = 0 ∧ x6b = b6 ∧ x6o = 0 ∧ ∃ k : Nat, i = k ∧ N = 4 - k ∧ k ≤ 4 ∧
    mm ba = some (.cells #[.int .u64 (W k 0 a0 b0), .int .u64 (W k 1 a1 b1), .int .u64 (W k 2 a2 b2), .int .u64 (W k 3 a3 b3)] T_api_Set (0, 0)) ∧
    mm bb = some (.cells #[.int .u64 b0, .int .u64 b1, .int .u64 b2, .int .u64 b3] T_api_Set (0, 0)) ∧ mm b6 = some (.cells #[.int .u64 0, .int .u64 0, .int .u64 0, .int .u64 0] T_api_Set (0, 0)) ∧ Le m mm, 4,
    ⟨rfl, rfl, rfl, rfl, rfl, rfl, rfl, 0, rfl, rfl, by omega, ?_, ?_, set_same _ _ _, ?_⟩, ?_⟩
  · rw [set_other _ _ hne3.symm, set_other _ _ hne1.symm, set_same]; rfl
  · rw [set_other _ _ hne2.symm, set_same]
  · exact (hx1.trans (Le.set hbb _)).trans (Le.set hb6 _)
  rintro N f a3b a3o b4b b4o x6b x6o i mm ⟨rfl, rfl, rfl, rfl, rfl, rfl, rfl, k, rfl, rfl, hk4, hA, hB, h6, hle⟩
  refine BrD (fun hlt => ?_) (fun hge => ?_)
  · have hk : k < 4 := by omega
    refine ⟨mm, Le.refl _, ?_⟩
    refine ⟨by omega, by omega, ?_⟩
    have hk' : k = 0 ∨ k = 1 ∨ k = 2 ∨ k = 3 := by omega
    rcases hk' with rfl | rfl | rfl | rfl
    · refine LdV.of hA rfl ?_
      refine ⟨by omega, by omega, ?_⟩
      refine LdV.of hB rfl ?_
      refine CallV.of ?_
      refine hop _ _ _ _ ?_
      refine ⟨by omega, by omega, ?_⟩
      refine St1.to #[.int .u64 (W 1 0 a0 b0), .int .u64 (W 1 1 a1 b1), .int .u64 (W 1 2 a2 b2), .int .u64 (W 1 3 a3 b3)] hA (by simp) rfl rfl ?_
      refine ⟨_, ?_, rfl, rfl, rfl, rfl, rfl, rfl, rfl, 1, ?_, rfl, by omega, set_same _ _ _, ?_, ?_, ?_⟩
      · omega
      · rw [wi (by omega) (by omega)]; rfl
      · rw [set_other _ _ hne1]; exact hB
      · rw [set_other _ _ hne3]; exact h6
      · exact Chg.to_le (Chg.set mm _ _) hle (fun b e => by rw [show b = a3b from e]; exact hba)
    · refine LdV.of hA rfl ?_
      refine ⟨by omega, by omega, ?_⟩
      refine LdV.of hB rfl ?_
      refine CallV.of ?_
      refine hop _ _ _ _ ?_
      refine ⟨by omega, by omega, ?_⟩
      refine St1.to #[.int .u64 (W 2 0 a0 b0), .int .u64 (W 2 1 a1 b1), .int .u64 (W 2 2 a2 b2), .int .u64 (W 2 3 a3 b3)] hA (by simp) rfl rfl ?_
      refine ⟨_, ?_, rfl, rfl, rfl, rfl, rfl, rfl, rfl, 2, ?_, rfl, by omega, set_same _ _ _, ?_, ?_, ?_⟩
      · omega
      · rw [wi (by omega) (by omega)]; rfl
      · rw [set_other _ _ hne1]; exact hB
      · rw [set_other _ _ hne3]; exact h6
      · exact Chg.to_le (Chg.set mm _ _) hle (fun b e => by rw [show b = a3b from e]; exact hba)
    · refine LdV.of hA rfl ?_
      refine ⟨by omega, by omega, ?_⟩
      refine LdV.of hB rfl ?_
      refine CallV.of ?_
      refine hop _ _ _ _ ?_
      refine ⟨by omega, by omega, ?_⟩
      refine St1.to #[.int .u64 (W 3 0 a0 b0), .int .u64 (W 3 1 a1 b1), .int .u64 (W 3 2 a2 b2), .int .u64 (W 3 3 a3 b3)] hA (by simp) rfl rfl ?_
      refine ⟨_, ?_, rfl, rfl, rfl, rfl, rfl, rfl, rfl, 3, ?_, rfl, by omega, set_same _ _ _, ?_, ?_, ?_⟩
      · omega
      · rw [wi (by omega) (by omega)]; rfl
      · rw [set_other _ _ hne1]; exact hB
      · rw [set_other _ _ hne3]; exact h6
      · exact Chg.to_le (Chg.set mm _ _) hle (fun b e => by rw [show b = a3b from e]; exact hba)
    · refine LdV.of hA rfl ?_
      refine ⟨by omega, by omega, ?_⟩
      refine LdV.of hB rfl ?_
      refine CallV.of ?_
      refine hop _ _ _ _ ?_
      refine ⟨by omega, by omega, ?_⟩
      refine St1.to #[.int .u64 (W 4 0 a0 b0), .int .u64 (W 4 1 a1 b1), .int .u64 (W 4 2 a2 b2), .int .u64 (W 4 3 a3 b3)] hA (by simp) rfl rfl ?_
      refine ⟨_, ?_, rfl, rfl, rfl, rfl, rfl, rfl, rfl, 4, ?_, rfl, by omega, set_same _ _ _, ?_, ?_, ?_⟩
      · omega
      · rw [wi (by omega) (by omega)]; rfl
      · rw [set_other _ _ hne1]; exact hB
      · rw [set_other _ _ hne3]; exact h6
      · exact Chg.to_le (Chg.set mm _ _) hle (fun b e => by rw [show b = a3b from e]; exact hba)
  · have hk : k = 4 := by omega
    subst hk
    refine get4 hA ?_
    refine out4 h6 ?_
    exact h _ (Chg.to_le (Chg.set mm _ _) hle (fun b e => by rw [show b = x6b from e]; exact hm6))
theorem Or_spec {f g : Nat → Bool} {m : Mem} {R : Ending → Mem → Prop} (h : ∀ m', Le m m' → R (.returned (setv fun b => f b || g b)) m') : HC P class_Or.id #[setv f, setv g] m R := by
  refine class_Or.ok _ _ _ _ _ _ _ _ _ _ ?_
  intro ba hba bb hbb b4 hb4
  have hne : bb ≠ ba := fun e => by subst e; rw [set_same] at hbb; cases hbb
  have hne2 : b4 ≠ bb := fun e => by subst e; rw [set_same] at hb4; cases hb4
  have hne3 : b4 ≠ ba := fun e => by subst e; rw [set_other _ _ hne.symm, set_same] at hb4; cases hb4
  have hm4 : m b4 = none := by rw [set_other _ _ hne2, set_other _ _ hne3] at hb4; exact hb4
  have hle := ((Le.set hba (.cells #[.int .u64 (L f 0), .int .u64 (L f 1), .int .u64 (L f 2), .int .u64 (L f 3)] T_api_Set (0, 0))).trans (Le.set hbb (.cells #[.int .u64 (L g 0), .int .u64 (L g 1), .int .u64 (L g 2), .int .u64 (L g 3)] T_api_Set (0, 0)))).trans (Le.set hb4 (.cells #[.int .u64 0, .int .u64 0, .int .u64 0, .int .u64 0] T_api_Set (0, 0)))
  refine get4 (by rw [set_other _ _ hne3.symm, set_other _ _ hne.symm, set_same]) ?_
  refine get4 (by rw [set_other _ _ hne2.symm, set_same]) ?_
  refine with_spec (op := bitsV .or .u64) (fun m x y R k => class_Or_1.ok _ _ _ _ k) ?_
  intro m' hle'
  refine ContSet.mk ?_
  refine out4 (hle' _ _ (set_same _ _ _)) ?_
  have hk := h _ (Chg.to_le (Chg.set m' b4 (.cells #[.int .u64 (bitsV .or .u64 (L f 0) (L g 0)), .int .u64 (bitsV .or .u64 (L f 1) (L g 1)), .int .u64 (bitsV .or .u64 (L f 2) (L g 2)), .int .u64 (bitsV .or .u64 (L f 3) (L g 3))] T_api_Set (0, 0))) (hle.trans hle') (fun b e => by rw [show b = b4 from e]; exact hm4))
  simp only [L_or] at hk ⊢
  exact hk
theorem Not_spec {f : Nat → Bool} {m : Mem} {R : Ending → Mem → Prop} (h : ∀ m', Le m m' → R (.returned (setv fun b => !f b)) m') : HC P class_Not.id #[setv f] m R := by
  refine class_Not.ok _ _ _ _ _ _ ?_
  intro ba hba b4 hb4
  have hne3 : b4 ≠ ba := fun e => by subst e; rw [set_same] at hb4; cases hb4
  have hm4 : m b4 = none := by rw [set_other _ _ hne3] at hb4; exact hb4
  have hle := (Le.set hba (.cells #[.int .u64 (L f 0), .int .u64 (L f 1), .int .u64 (L f 2), .int .u64 (L f 3)] T_api_Set (0, 0))).trans (Le.set hb4 (.cells #[.int .u64 0, .int .u64 0, .int .u64 0, .int .u64 0] T_api_Set (0, 0)))
  refine get4 (by rw [set_other _ _ hne3.symm, set_same]) ?_
  refine get4 (by rw [set_other _ _ hne3.symm, set_same]) ?_
  refine with_spec (op := fun x _ => bitsV .xor .u64 18446744073709551615 x) (fun m x y R k => class_Not_1.ok _ _ _ _ k) ?_
  intro m' hle'
  refine ContSet.mk ?_
  refine out4 (hle' _ _ (set_same _ _ _)) ?_
  have hk := h _ (Chg.to_le (Chg.set m' b4 (.cells #[.int .u64 (bitsV .xor .u64 18446744073709551615 (L f 0)), .int .u64 (bitsV .xor .u64 18446744073709551615 (L f 1)), .int .u64 (bitsV .xor .u64 18446744073709551615 (L f 2)), .int .u64 (bitsV .xor .u64 18446744073709551615 (L f 3))] T_api_Set (0, 0))) (hle.trans hle') (fun b e => by rw [show b = b4 from e]; exact hm4))
  simp only [L_not] at hk ⊢
  exact hk
theorem byte_div {b : Nat} (hb : b < 256) : IntKind.u8.wrap (Int.tdiv (b : Int) 64) = ((b / 64 : Nat) : Int) := by
  rw [Int.tdiv_eq_ediv_of_nonneg (by omega), IntKind.wrap_u8]; omega
theorem byte_mod {b : Nat} : Int.tmod (b : Int) 64 = ((b % 64 : Nat) : Int) := by
  rw [Int.tmod_eq_emod_of_nonneg (by omega)]; omega
theorem limb_get {f : Nat → Bool} {k : Nat} (hk : k < 4) : (#[Value.int .u64 (L f 0), .int .u64 (L f 1), .int .u64 (L f 2), .int .u64 (L f 3)] : Array Value)[k]? = some (.int .u64 (L f k)) := by
  have : k = 0 ∨ k = 1 ∨ k = 2 ∨ k = 3 := by omega
  rcases this with rfl | rfl | rfl | rfl <;> rfl
theorem Has_spec {f : Nat → Bool} {b : Nat} (hb : b < 256) {m : Mem} {R : Ending → Mem → Prop} (h : ∀ m', Le m m' → R (.returned (.bool (f b))) m') : HC P class_Has.id #[setv f, .int .u8 (b : Int)] m R := by
  refine class_Has.ok _ _ _ _ _ _ _ ?_
  intro ba hba
  rw [byte_div hb, byte_mod]
  refine ⟨by omega, by omega, ?_⟩
  refine LdV.of (set_same _ _ _) (v := .int .u64 (L f (b / 64))) (by rw [show 0 + ((b / 64 : Nat) : Int).toNat * 1 = b / 64 by omega]; exact limb_get (by omega)) ?_
  refine UnI.mk (NnI.mk (by omega) ?_)
  rw [L_has _ _ (by omega), show 64 * (b / 64) + b % 64 = b by omega]
  exact h _ (Le.set hba _)
theorem RHas_spec {f : Nat → Bool} {b : Nat} (hb : b < 256) {m : Mem} {R : Ending → Mem → Prop} (h : ∀ m', Le m m' → R (.returned (.bool (f b))) m') : HC P eyotref8_Has.id #[setv f, .int .u8 (b : Int)] m R := by
  refine eyotref8_Has.ok _ _ _ _ _ _ _ ?_
  intro ba hba
  rw [byte_div hb, byte_mod]
  refine ⟨by omega, by omega, ?_⟩
  refine LdV.of (set_same _ _ _) (v := .int .u64 (L f (b / 64))) (by rw [show 0 + ((b / 64 : Nat) : Int).toNat * 1 = b / 64 by omega]; exact limb_get (by omega)) ?_
  refine UnI.mk (NnI.mk (by omega) ?_)
  rw [L_has _ _ (by omega), show 64 * (b / 64) + b % 64 = b by omega]
  exact h _ (Le.set hba _)
end Go.E
set_option linter.unusedVariables false
set_option linter.unusedSimpArgs false
namespace Go.E
open Go.H
attribute [local irreducible] BiN MkS ConvN LookN MapUpN CallV HC
abbrev cells4 (f : Nat → Bool) : Array Value := #[.int .u64 (L f 0), .int .u64 (L f 1), .int .u64 (L f 2), .int .u64 (L f 3)]
theorem limb_set (F : Nat → Bool) {c : Nat} (hc : c < 256) :
    (cells4 F).setIfInBounds (c / 64) (.int .u64 (bitsV .or .u64 (L F (c / 64)) (shlV .u64 1 ((c % 64 : Nat) : Int)))) = cells4 fun b => F b || b == c := by
  have hm : c % 64 < 64 := by omega
  rw [L_add F (c / 64) hm]
  have e : 64 * (c / 64) + c % 64 = c := by omega
  have ne : ∀ k', k' ≠ c / 64 → L (fun b => F b || b == c) k' = L F k' := by
    intro k' hk
    have := L_add_ne F (k := c / 64) (k' := k') hm hk
    rw [e] at this
    exact this
  rw [e]
  have : c / 64 = 0 ∨ c / 64 = 1 ∨ c / 64 = 2 ∨ c / 64 = 3 := by omega
  rcases this with h | h | h | h <;> rw [h] at ne ⊢
  · show #[Value.int .u64 _, Value.int .u64 (L F 1), Value.int .u64 (L F 2), Value.int .u64 (L F 3)] = cells4 _
    unfold cells4
    rw [ne 1 (by omega), ne 2 (by omega), ne 3 (by omega)]
  · unfold cells4
    rw [ne 0 (by omega), ne 2 (by omega), ne 3 (by omega)]
    rfl
  · unfold cells4
    rw [ne 0 (by omega), ne 1 (by omega), ne 3 (by omega)]
    rfl
  · unfold cells4
    rw [ne 0 (by omega), ne 1 (by omega), ne 2 (by omega)]
    rfl
/-- The bytes of a list, as a set. -/
def inB (bs : List UInt8) (b : Nat) : Bool := bs.any fun c => b == c.toNat
theorem inB_take {bs : List UInt8} {k : Nat} (h : k < bs.length) : (fun b => inB (bs.take k) b || b == bs[k].toNat) = inB (bs.take (k + 1)) := by
  funext b
  unfold inB
  rw [List.take_add_one, List.any_append, List.getElem?_eq_getElem h]
  simp
theorem zero4 : cells4 (inB []) = #[.int .u64 0, .int .u64 0, .int .u64 0, .int .u64 0] := by
  have : inB [] = fun _ => false := rfl
  unfold cells4
  rw [this, L_zero, L_zero, L_zero, L_zero]
theorem Of_spec {m : Mem} {a : Option Addr} {l c : Nat} {bs : List UInt8} (hb : CellsAt m a (u8s bs)) (hl : bs.length = l) (hmax : bs.length < 2 ^ 62) {R : Ending → Mem → Prop}
    (h : ∀ m', Le m m' → R (.returned (setv (inB bs))) m') : HC P class_Of.id #[.slice a l c] m R := by
  refine class_Of.ok _ _ _ _ _ ?_
  intro b2 hb2 b3 hb3
  have hne : b3 ≠ b2 := fun e => by subst e; rw [set_same] at hb3; cases hb3
  have hm3 : m b3 = none := by rw [set_other _ _ hne] at hb3; exact hb3
  refine ⟨fun N x2b x2o s3b s3o xa xl xc x7 x8 mm => x2b = b2 ∧ x2o = 0 ∧ s3b = b3 ∧ s3o = 0 ∧ xa = a ∧ xl = l ∧ xc = c ∧ x7 = (l : Int) ∧ ∃ k : Nat, x8 = k ∧ N = l - k ∧ k ≤ l ∧
    mm b3 = some (.cells (cells4 (inB (bs.take k))) T_api_Set (0, 0)) ∧ mm b2 = some (.cells #[.int .u64 0, .int .u64 0, .int .u64 0, .int .u64 0] T_api_Set (0, 0)) ∧ Le m mm, l,
    ⟨rfl, rfl, rfl, rfl, rfl, rfl, rfl, rfl, 0, rfl, rfl, by omega, ?_, ?_, ?_⟩, ?_⟩
  · rw [set_same]; rw [List.take_zero, zero4]
  · rw [set_other _ _ hne.symm, set_same]
  · exact (Le.set hb2 _).trans (Le.set hb3 _)
  rintro N x2b x2o s3b s3o xa xl xc x7 x8 mm ⟨rfl, rfl, rfl, rfl, rfl, rfl, rfl, rfl, k, rfl, rfl, hk, hs, h2, hle⟩
  refine BrD (fun hlt => ?_) (fun hge => ?_)
  · have hk' : k < bs.length := by omega
    have hcl : bs[k].toNat < 256 := by have := UInt8.toNat_lt bs[k]; omega
    refine IxS.u8s (hb.le hle) hl (by omega) (by omega) ?_
    intro x hx
    rw [Int.toNat_natCast, List.getElem?_eq_getElem hk'] at hx
    cases hx
    refine UnI.mk ?_
    rw [byte_div hcl, byte_mod]
    refine ⟨by omega, by omega, ?_⟩
    refine LdV.of hs (v := .int .u64 (L (inB (bs.take k)) (bs[k].toNat / 64))) (by rw [show 0 + ((bs[k].toNat / 64 : Nat) : Int).toNat * 1 = bs[k].toNat / 64 by omega]; exact limb_get (by omega)) ?_
    refine UnI.mk (NnI.mk (by omega) ⟨by omega, by omega, ?_⟩)
    refine St1.to (cells4 (inB (bs.take (k + 1)))) hs (by show _ < 4; omega) rfl ?_ ?_
    · rw [show 0 + ((bs[k].toNat / 64 : Nat) : Int).toNat * 1 = bs[k].toNat / 64 by omega, limb_set _ hcl, inB_take hk']
    refine ⟨_, ?_, rfl, rfl, rfl, rfl, rfl, rfl, rfl, rfl, k + 1, ?_, rfl, by omega, set_same _ _ _, ?_, ?_⟩
    · omega
    · rw [wi (by omega) (by omega)]; omega
    · rw [set_other _ _ hne.symm]; exact h2
    · exact Chg.to_le (Chg.set mm _ _) hle (fun b e => by rw [show b = s3b from e]; exact hm3)
  · have : k = bs.length := by omega
    subst this
    rw [List.take_length] at hs
    refine get4 hs ?_
    refine out4 h2 ?_
    exact h _ (Chg.to_le (Chg.set mm _ _) hle (fun b e => by rw [show b = x2b from e]; exact hb2))
theorem ROf_spec {m : Mem} {a : Option Addr} {l c : Nat} {bs : List UInt8} (hb : CellsAt m a (u8s bs)) (hl : bs.length = l) (hmax : bs.length < 2 ^ 62) {R : Ending → Mem → Prop}
    (h : ∀ m', Le m m' → R (.returned (setv (inB bs))) m') : HC P eyotref8_Of.id #[.slice a l c] m R := by
  refine eyotref8_Of.ok _ _ _ _ _ ?_
  intro b2 hb2 b3 hb3
  have hne : b3 ≠ b2 := fun e => by subst e; rw [set_same] at hb3; cases hb3
  have hm3 : m b3 = none := by rw [set_other _ _ hne] at hb3; exact hb3
  refine ⟨fun N xa xl xc x2b x2o s3b s3o x8 mm => x2b = b2 ∧ x2o = 0 ∧ s3b = b3 ∧ s3o = 0 ∧ xa = a ∧ xl = l ∧ xc = c ∧ ∃ k : Nat, x8 = k ∧ N = l - k ∧ k ≤ l ∧
    mm b3 = some (.cells (cells4 (inB (bs.take k))) T_api_Set (0, 0)) ∧ mm b2 = some (.cells #[.int .u64 0, .int .u64 0, .int .u64 0, .int .u64 0] T_api_Set (0, 0)) ∧ Le m mm, l,
    ⟨rfl, rfl, rfl, rfl, rfl, rfl, rfl, 0, rfl, rfl, by omega, ?_, ?_, ?_⟩, ?_⟩
  · rw [set_same]; rw [List.take_zero, zero4]
  · rw [set_other _ _ hne.symm, set_same]
  · exact (Le.set hb2 _).trans (Le.set hb3 _)
  rintro N xa xl xc x2b x2o s3b s3o x8 mm ⟨rfl, rfl, rfl, rfl, rfl, rfl, rfl, k, rfl, rfl, hk, hs, h2, hle⟩
  refine BrD (fun hlt => ?_) (fun hge => ?_)
  · have hk' : k < bs.length := by omega
    have hcl : bs[k].toNat < 256 := by have := UInt8.toNat_lt bs[k]; omega
    refine ⟨mm, Le.refl _, ?_⟩
    refine IxS.u8s (hb.le hle) hl (by omega) (by omega) ?_
    intro x hx
    rw [Int.toNat_natCast, List.getElem?_eq_getElem hk'] at hx
    cases hx
    refine UnI.mk ?_
    rw [byte_div hcl]
    refine ⟨by omega, by omega, ?_⟩
    refine LdV.of hs (v := .int .u64 (L (inB (bs.take k)) (bs[k].toNat / 64))) (by rw [show 0 + ((bs[k].toNat / 64 : Nat) : Int).toNat * 1 = bs[k].toNat / 64 by omega]; exact limb_get (by omega)) ?_
    refine UnI.mk ?_
    refine IxS.u8s (hb.le hle) hl (by omega) (by omega) ?_
    intro x hx
    rw [Int.toNat_natCast, List.getElem?_eq_getElem hk'] at hx
    cases hx
    refine UnI.mk ?_
    rw [byte_mod]
    refine NnI.mk (by omega) ⟨by omega, by omega, ?_⟩
    refine St1.to (cells4 (inB (bs.take (k + 1)))) hs (by show _ < 4; omega) rfl ?_ ?_
    · rw [show 0 + ((bs[k].toNat / 64 : Nat) : Int).toNat * 1 = bs[k].toNat / 64 by omega, limb_set _ hcl, inB_take hk']
    refine ⟨_, ?_, rfl, rfl, rfl, rfl, rfl, rfl, rfl, k + 1, ?_, rfl, by omega, set_same _ _ _, ?_, ?_⟩
    · omega
    · rw [wi (by omega) (by omega)]; omega
    · rw [set_other _ _ hne.symm]; exact h2
    · exact Chg.to_le (Chg.set mm _ _) hle (fun b e => by rw [show b = s3b from e]; exact hm3)
  · have : k = bs.length := by omega
    subst this
    rw [List.take_length] at hs
    refine get4 hs ?_
    refine out4 h2 ?_
    exact h _ (Chg.to_le (Chg.set mm _ _) hle (fun b e => by rw [show b = x2b from e]; exact hb2))
/-- A row of bytes under way, new over ms. -/
structure RwB (ms mm : Mem) (a : Option Addr) (l c : Nat) (bs : List UInt8) : Prop where
  le : Le ms mm
  own : Own mm T_uint8 1 a l c (u8s bs)
  fr : Fresh ms a
theorem RwB.nil {ms mm : Mem} (h : Le ms mm) : RwB ms mm none 0 0 [] := ⟨h, Own.nil _ _ _, Fresh.none _⟩
theorem RwB.len {ms mm : Mem} {a : Option Addr} {l c : Nat} {bs : List UInt8} (h : RwB ms mm a l c bs) : bs.length = l := by have := h.own.1; simpa [u8s] using this
theorem RwB.mono {ms mm mm' : Mem} {a : Option Addr} {l c : Nat} {bs : List UInt8} (h : RwB ms mm a l c bs) (k : Le mm mm') : RwB ms mm' a l c bs := ⟨h.le.trans k, Own.le k h.own, h.fr⟩
theorem RwB.push {ms mm : Mem} {a : Option Addr} {l c : Nat} {bs : List UInt8} (h : RwB ms mm a l c bs) (x : UInt8) (hlen : l ≤ 1000000000)
    {ty : TypeId} {cs : Array Bool} {K : Value → Mem → Prop} {Pn : List PanicEntry → Mem → Prop}
    (k : ∀ a' c' m', RwB ms m' a' (l + 1) c' (bs ++ [x]) → K (.slice a' (l + 1) c') m') :
    ∀ b, mm b = none → BiN P .append #[T_sl_uint8, T_sl_uint8] ty cs #[.slice a l c, .slice (some ⟨b, 0, none⟩) 1 1] (mm.set b (.cells #[.int .u8 x.toNat] T_uint8 (0, 0))) K Pn := by
  refine push_one eU8 h.own rfl hlen (by omega) ?_
  intro a' c' m' hch ho hb
  refine k a' c' m' ⟨hch.to_le h.le (fun b e => h.fr b e), by simpa [u8s] using ho, ?_⟩
  rcases hb with hb | hb
  · intro b e; exact h.fr b (hb ▸ e)
  · exact Fresh.le h.le hb
/-- The bytes from one on. -/
def rng (a k : Nat) : List UInt8 := (List.range' a k).map UInt8.ofNat
theorem rng_len (a k : Nat) : (rng a k).length = k := by simp [rng]
theorem rng_succ (a k : Nat) : rng a (k + 1) = rng a k ++ [UInt8.ofNat (a + k)] := by simp [rng, List.range'_concat]
theorem inB_rng {a k : Nat} (h : a + k ≤ 256) (c : Nat) : inB (rng a k) c = (decide (a ≤ c) && decide (c < a + k)) := by
  induction k with
  | zero =>
    have : ¬ (a ≤ c ∧ c < a + 0) := by omega
    simp only [Nat.add_zero] at this ⊢
    by_cases h1 : a ≤ c
    · have : ¬ c < a := by omega
      simp [inB, rng, h1, this]
    · simp [inB, rng, h1]
  | succ k ih =>
    have ih := ih (by omega)
    have e : inB (rng a (k + 1)) c = (inB (rng a k) c || c == a + k) := by
      unfold inB
      rw [rng_succ, List.any_append]
      have : (UInt8.ofNat (a + k)).toNat = a + k := by rw [UInt8.toNat_ofNat']; omega
      rw [List.any_cons, List.any_nil, this, Bool.or_false]
    rw [e, ih]
    rw [Bool.eq_iff_iff]
    simp only [Bool.or_eq_true, Bool.and_eq_true, decide_eq_true_eq, beq_iff_eq]
    omega
/-- The bytes from one to another one. -/
abbrev fromTo (a b : Nat) : Nat → Bool := fun c => decide (a ≤ c) && decide (c ≤ b)
theorem run_spec {a b : Nat} (ha : a < 256) (hb : b < 256) {m : Mem} {R : Ending → Mem → Prop} (h : ∀ m', Le m m' → R (.returned (setv (fromTo a b))) m') :
    HC P class_run.id #[.int .u8 (a : Int), .int .u8 (b : Int)] m R := by
  refine class_run.ok _ _ _ _ ?_
  intro b4 hb4
  rw [wi (n := (a : Int)) (by omega) (by omega)]
  have hle0 := Le.set hb4 (.cells #[.int .u64 0, .int .u64 0, .int .u64 0, .int .u64 0] T_api_Set (0, 0))
  generalize hms : m.set b4 (.cells #[.int .u64 0, .int .u64 0, .int .u64 0, .int .u64 0] T_api_Set (0, 0)) = ms at hle0
  have h4 : ms b4 = some (.cells #[.int .u64 0, .int .u64 0, .int .u64 0, .int .u64 0] T_api_Set (0, 0)) := by rw [← hms]; exact set_same _ _ _
  refine ⟨fun N b1 x4b x4o la ll lc c6 mm => b1 = b ∧ x4b = b4 ∧ x4o = 0 ∧ ∃ k : Nat, ll = k ∧ c6 = ((a + k : Nat) : Int) ∧ N = 256 - k ∧ (k = 0 ∨ a + k ≤ b + 1) ∧ RwB ms mm la k lc (rng a k), 256,
    ⟨rfl, rfl, rfl, 0, rfl, rfl, rfl, .inl rfl, RwB.nil (Le.refl _)⟩, ?_⟩
  rintro N b1 x4b x4o la ll lc c6 mm ⟨rfl, rfl, rfl, k, rfl, rfl, rfl, hk, hr⟩
  unfold class_run.l1B
  rw [wi (n := (b : Int)) (by omega) (by omega)]
  refine BrD (fun hlt => ?_) (fun hge => ?_)
  · have hw : IntKind.u8.wrap ((a + ll : Nat) : Int) = (((UInt8.ofNat (a + ll)).toNat : Nat) : Int) := by
      rw [IntKind.wrap_u8, UInt8.toNat_ofNat']; omega
    rw [hw]
    refine hr.push _ (by omega) ?_
    intro a' c' m' hr'
    refine UnS.mk ?_
    refine ⟨_, ?_, rfl, rfl, rfl, ll + 1, rfl, ?_, rfl, .inr (by omega), by rw [rng_succ]; exact hr'⟩
    · omega
    · rw [wi (by omega) (by omega)]; omega
  · have hlen : (rng a ll).length = ll := rng_len a ll
    refine Of_spec hr.own.cells hlen (by omega) ?_
    intro m' hle
    refine ContSet.mk ?_
    refine out4 (hle _ _ (hr.le _ _ h4)) ?_
    have hk := h _ (Chg.to_le (Chg.set m' x4b (cells4 (inB (rng a ll)) |> fun c => .cells c T_api_Set (0, 0))) ((hle0.trans hr.le).trans hle) (fun b e => by rw [show b = x4b from e]; exact hb4))
    have e : setv (inB (rng a ll)) = setv (fromTo a b) := setv_eq fun c hc => by
      by_cases hab : a + ll ≤ 256
      · rw [inB_rng hab, Bool.eq_iff_iff]
        simp only [Bool.and_eq_true, decide_eq_true_eq]
        omega
      · omega
    show R (.returned (setv (inB (rng a ll)))) _
    rw [e]
    exact hk
end Go.E
set_option linter.unusedVariables false
set_option linter.unusedSimpArgs false
namespace Go.E
open Go.H
theorem dbTab_len : dbTab.length = 64 := by decide
attribute [local irreducible] BiN MkS ConvN LookN MapUpN CallV HC limb dbTab
/-- The first place of a byte; -1: none. -/
def ixB (s : ByteArray) (c : Nat) : Int :=
  match (List.range s.size).find? fun i => s[i]! == UInt8.ofNat c with
  | some i => (i : Int)
  | none => -1
theorem pt_index {s : ByteArray} {c : Nat} (hc : c < 256) {m : Mem} {Q : Value → Mem → Prop} {E : Value → Mem → Prop} (k : Q (.int .i64 (ixB s c)) m) :
    pt P (Extern.BytealgIndexByte.indexByte #[.string s, .int .u8 (c : Int)]) Q E m := by
  have h : (Extern.BytealgIndexByte.indexByte #[.string s, .int .u8 (c : Int)]) = (match (List.range s.size).find? fun i => s[i]! == UInt8.ofNat c with
    | some i => pure (goInt i)
    | none => pure (goInt (-1)) : Sem Value) := rfl
  rw [h]
  unfold ixB at k
  cases hx : (List.range s.size).find? fun i => s[i]! == UInt8.ofNat c with
  | some i => rw [hx] at k; exact k
  | none => rw [hx] at k; exact k
theorem Bytealg_spec {s : ByteArray} {c : Nat} (hc : c < 256) {m : Mem} {R : Ending → Mem → Prop} (k : R (.returned (.int .i64 (ixB s c))) m) :
    HC P internal_bytealg_IndexByteString.id #[.string s, .int .u8 (c : Int)] m R := by
  have hf : P.funcs[internal_bytealg_IndexByteString.id]? = some Go.Proofs.Tryd.f85 := Go.Proofs.Tryd.func85
  have hn : (Go.Proofs.Tryd.f85.name == "runtime.NumGoroutine") = false := by kernel_rfl
  have hb : Go.Proofs.Tryd.f85.body.isNone = true := by kernel_rfl
  have hx : Extern.findNext Go.Proofs.Tryd.f85 = none := by kernel_rfl
  have hy : Extern.find Go.Proofs.Tryd.f85 = some Extern.BytealgIndexByte.indexByte := by kernel_rfl
  unfold HC
  refine .inr ?_
  generalize hov : Extern.BytealgIndexByte.indexByte = ov at hy
  have key : pt P (ov #[.string s, .int .u8 (c : Int)]) (fun v m' => R (.returned v) m') (fun v m' => R (.panicked [{ v := v, recovered := false }]) m') m := by
    subst hov
    exact pt_index hc k
  unfold callFunc
  rw [pt_bind]
  show pt P (Sem.program .pure) _ _ m
  simp only [pt]
  rw [hf]
  simp only [hn, Bool.false_eq_true, if_false, hb, if_true]
  rw [pt_bind]
  show pt P (Sem.mark _ (Sem.pure ())) _ _ m
  simp only [pt, hx, hy]
  rw [pt_bind]
  exact key
theorem IndexByte_spec {s : ByteArray} {c : Nat} (hc : c < 256) {m : Mem} {R : Ending → Mem → Prop} (k : R (.returned (.int .i64 (ixB s c))) m) :
    HC P strings_IndexByte.id #[.string s, .int .u8 (c : Int)] m R := by
  refine strings_IndexByte.ok _ _ _ _ ?_
  refine internal_stringslite_IndexByte.ok _ _ _ _ ?_
  refine Bytealg_spec hc ?_
  dsimp only [Cont]
  exact UnI.mk (UnI.mk k)
/-- The package variable 'math/bits.deBruijn64tab' is laid. -/
def Glob (m : Mem) : Prop := CellsAt m (some ⟨1, 0, none⟩) (dbTab.map fun (x : Nat) => Value.int .u8 (x : Int))
theorem Glob.le {m m' : Mem} (h : Glob m) (k : Le m m') : Glob m' := CellsAt.le k h
theorem TZ_spec {n t : Nat} (hn : n < 18446744073709551616) (ht : n.testBit t = true) (hl : ∀ j, j < t → n.testBit j = false) {m : Mem} (hG : Glob m) {R : Ending → Mem → Prop}
    (k : R (.returned (.int .i64 (t : Int))) m) : HC P math_bits_TrailingZeros64.id #[.int .u64 (n : Int)] m R := by
  refine math_bits_TrailingZeros64.ok _ _ _ ?_
  have h0 : n ≠ 0 := by intro e; subst e; simp at ht
  obtain ⟨h64, hi⟩ := tz_index hn ht hl
  have hdb := db_at t h64
  unfold math_bits_TrailingZeros64.e0
  refine BrEf (by omega) ?_
  rw [hi]
  generalize 2 ^ t * 285870213051353865 % 18446744073709551616 / 288230376151711744 = j at hdb
  have hlt : j < 64 := by
    have : j < dbTab.length := by
      apply Decidable.byContradiction; intro h
      rw [List.getElem?_eq_none (by omega)] at hdb; cases hdb
    have h64 := dbTab_len
    omega
  refine ⟨by omega, by omega, ?_⟩
  have hc := hG j (.int .u8 (t : Int)) (by rw [List.getElem?_map, hdb]; rfl)
  refine LdV.mk (v := .int .u8 (t : Int)) (by rw [show 0 + (j : Int).toNat * 1 = 0 + j by omega]; exact hc) ?_
  refine UnI.mk ?_
  rw [wi (by omega) (by omega)]
  exact k
theorem Least_some {f : Nat → Bool} {t : Nat} (ht : t < 256) (hf : f t = true) (hl : ∀ j, j < t → f j = false) {m : Mem} (hG : Glob m) {R : Ending → Mem → Prop}
    (k : ∀ m', Le m m' → R (.returned (.tuple #[.int .u8 (t : Int), .bool true])) m') : HC P class_Least.id #[setv f] m R := by
  refine class_Least.ok _ _ _ _ _ _ ?_
  intro b1 hb1
  refine get4 (set_same _ _ _) ?_
  have hle := Le.set hb1 (.cells (cells4 f) T_api_Set (0, 0))
  have hG' := hG.le hle
  refine ⟨fun N x0 x1 x2 x3 i mm => x0 = L f 0 ∧ x1 = L f 1 ∧ x2 = L f 2 ∧ x3 = L f 3 ∧ mm = m.set b1 (.cells (cells4 f) T_api_Set (0, 0)) ∧ ∃ j : Nat, i = j ∧ N = 4 - j ∧ j ≤ t / 64, 4,
    ⟨rfl, rfl, rfl, rfl, rfl, 0, rfl, rfl, by omega⟩, ?_⟩
  rintro N x0 x1 x2 x3 i mm ⟨rfl, rfl, rfl, rfl, rfl, j, rfl, rfl, hj⟩
  refine BrDt (by omega) ?_
  have hget : [L f 0, L f 1, L f 2, L f 3].getD (j : Int).toNat 0 = L f j := by
    have : j = 0 ∨ j = 1 ∨ j = 2 ∨ j = 3 := by omega
    rcases this with rfl | rfl | rfl | rfl <;> rfl
  refine ⟨by omega, by show (j : Int) < 4; omega, ?_⟩
  rw [hget]
  by_cases e : j = t / 64
  · have hb : (limb f j).testBit (t % 64) = true := by rw [limb_test f j (by omega), show 64 * j + t % 64 = t by omega]; exact hf
    have hlo : ∀ i, i < t % 64 → (limb f j).testBit i = false := by
      intro i hi; rw [limb_test f j (by omega)]; exact hl _ (by omega)
    have h0 : limb f j ≠ 0 := by intro e; rw [e] at hb; simp at hb
    refine BrNt (by unfold L; omega) ?_
    refine TZ_spec (limb_lt f j) hb hlo hG' ?_
    dsimp only [Cont]
    refine UnI.mk ?_
    rw [wi (n := 64 * (j : Int)) (by omega) (by omega), wi (by omega) (by omega), IntKind.wrap_u8, show (64 * (j : Int) + ((t % 64 : Nat) : Int)) % 256 = (t : Int) by omega]
    exact k _ hle
  · have h0 : limb f j = 0 := by
      have : (0 : Nat) = limb f j := limb_ext (by omega) fun i hi => by rw [hl _ (by omega)]; simp
      exact this.symm
    refine BrNf (by unfold L; omega) ?_
    refine ⟨_, ?_, rfl, rfl, rfl, rfl, rfl, j + 1, ?_, rfl, by omega⟩
    · omega
    · rw [wi (by omega) (by omega)]; omega
theorem Least_none {f : Nat → Bool} (hf : ∀ b, b < 256 → f b = false) {m : Mem} {R : Ending → Mem → Prop}
    (k : ∀ m', Le m m' → R (.returned (.tuple #[.int .u8 0, .bool false])) m') : HC P class_Least.id #[setv f] m R := by
  refine class_Least.ok _ _ _ _ _ _ ?_
  intro b1 hb1
  refine get4 (set_same _ _ _) ?_
  have hle := Le.set hb1 (.cells (cells4 f) T_api_Set (0, 0))
  refine ⟨fun N x0 x1 x2 x3 i mm => x0 = L f 0 ∧ x1 = L f 1 ∧ x2 = L f 2 ∧ x3 = L f 3 ∧ mm = m.set b1 (.cells (cells4 f) T_api_Set (0, 0)) ∧ ∃ j : Nat, i = j ∧ N = 4 - j ∧ j ≤ 4, 4,
    ⟨rfl, rfl, rfl, rfl, rfl, 0, rfl, rfl, by omega⟩, ?_⟩
  rintro N x0 x1 x2 x3 i mm ⟨rfl, rfl, rfl, rfl, rfl, j, rfl, rfl, hj⟩
  refine BrD (fun hlt => ?_) (fun hge => k _ hle)
  have hget : [L f 0, L f 1, L f 2, L f 3].getD (j : Int).toNat 0 = L f j := by
    have : j = 0 ∨ j = 1 ∨ j = 2 ∨ j = 3 := by omega
    rcases this with rfl | rfl | rfl | rfl <;> rfl
  refine ⟨by omega, by show (j : Int) < 4; omega, ?_⟩
  rw [hget]
  have h0 : limb f j = 0 := by
    have : (0 : Nat) = limb f j := limb_ext (by omega) fun i hi => by rw [hf _ (by omega)]; simp
    exact this.symm
  refine BrNf (by unfold L; omega) ?_
  refine ⟨_, ?_, rfl, rfl, rfl, rfl, rfl, j + 1, ?_, rfl, by omega⟩
  · omega
  · rw [wi (by omega) (by omega)]; omega
end Go.E
set_option linter.unusedVariables false
set_option linter.unusedSimpArgs false
namespace Go.E
open Go.H
/-- The byte that stands there; 0: none. -/
def nx (l : List UInt8) (i : Nat) : Nat := (l.getD i 0).toNat
theorem nx_lt (l : List UInt8) (i : Nat) : nx l i < 256 := by have := UInt8.toNat_lt (l.getD i 0); unfold nx; omega
theorem nx_out {l : List UInt8} {i : Nat} (h : l.length ≤ i) : nx l i = 0 := by
  unfold nx; rw [List.getD_eq_getElem?_getD, List.getElem?_eq_none h]; rfl
theorem bt_nx {s : ByteArray} {i : Nat} (h : i < s.size) : bt s (i : Int) = ((nx s.data.toList i : Nat) : Int) := by
  rw [bt_get (by simpa using h)]
  unfold nx
  have : i < s.data.toList.length := by simpa using h
  rw [List.getD_eq_getElem?_getD, List.getElem?_eq_getElem this]
  rfl
def special : List Nat := [92, 124, 42, 43, 63, 40, 41, 91, 93, 46, 94, 45]
def isSp (c : Nat) : Bool := special.contains c
/-- a digit of sixteen; 16: none -/
def dig (c : Nat) : Nat := if 48 ≤ c ∧ c ≤ 57 then c - 48 else if 97 ≤ c ∧ c ≤ 102 then c - 87 else 16
/-- A sign: its byte, and where it ends. -/
def sgn (l : List UInt8) (i : Nat) : Option (Nat × Nat) :=
  if l.length ≤ i then none
  else if nx l i ≠ 92 then
    if nx l i < 33 ∨ 126 < nx l i ∨ isSp (nx l i) = true then none else some (nx l i, i + 1)
  else if l.length ≤ i + 1 then none
  else if nx l (i + 1) = 120 then
    if l.length ≤ i + 2 ∨ dig (nx l (i + 2)) = 16 ∨ l.length ≤ i + 3 ∨ dig (nx l (i + 3)) = 16 then none
    else some (dig (nx l (i + 2)) * 16 + dig (nx l (i + 3)), i + 4)
  else if isSp (nx l (i + 1)) = true then some (nx l (i + 1), i + 2) else none
/-- A part: its first and last byte, and where it ends. -/
def prt (l : List UInt8) (i : Nat) : Option ((Nat × Nat) × Nat) :=
  match sgn l i with
  | none => none
  | some (a, n) =>
    if nx l n ≠ 45 then some ((a, a), n)
    else match sgn l (n + 1) with
      | none => none
      | some (b, n') => if b < a then none else some ((a, b), n')
def prts (l : List UInt8) : Nat → Nat → (Nat → Bool) → Option ((Nat → Bool) × Nat)
  | 0, _, _ => none
  | k + 1, i, S =>
    if nx l i = 93 then some (S, i + 1)
    else match prt l i with
      | none => none
      | some ((a, b), n) => prts l k n fun c => S c || fromTo a b c
/-- A class as it is read, an empty one too. -/
def cls0 (l : List UInt8) : Option ((Nat → Bool) × Nat) :=
  if nx l 0 = 46 then some ((fun b => !false), 1)
  else if nx l 0 = 91 then
    match prt l (if nx l 1 = 94 then 2 else 1) with
    | none => none
    | some ((a, b), n) =>
      match prts l (l.length + 1) n (fromTo a b) with
      | none => none
      | some (S, e) => some (if nx l 1 = 94 then (fun c => !S c) else S, e)
  else match sgn l 0 with
    | none => none
    | some (c, n) => some (fromTo c c, n)
def emptyS (S : Nat → Bool) : Bool := (List.range 256).all fun b => !S b
def cls (l : List UInt8) : Option ((Nat → Bool) × Nat) :=
  match cls0 l with
  | none => none
  | some (S, e) => if emptyS S = true then none else some (S, e)
theorem sgn_lt {l : List UInt8} {i c n : Nat} (h : sgn l i = some (c, n)) : c < 256 ∧ i < n ∧ n ≤ l.length := by
  unfold sgn at h
  have h1 := nx_lt l i
  have h2 := nx_lt l (i + 1)
  have hd : ∀ c, dig c ≤ 16 := by intro c; unfold dig; split <;> (try split) <;> omega
  split at h; · cases h
  split at h
  · split at h; · cases h
    cases h; omega
  split at h; · cases h
  split at h
  · split at h; · cases h
    rename_i hx
    simp only [not_or] at hx
    have d1 := hd (nx l (i + 2)); have d2 := hd (nx l (i + 3))
    cases h
    omega
  split at h
  · cases h; omega
  · cases h
theorem prt_lt {l : List UInt8} {i a b n : Nat} (h : prt l i = some ((a, b), n)) : a ≤ b ∧ b < 256 ∧ i < n ∧ n ≤ l.length := by
  unfold prt at h
  cases h1 : sgn l i with
  | none => rw [h1] at h; cases h
  | some x =>
    obtain ⟨a1, n1⟩ := x
    rw [h1] at h
    have k1 := sgn_lt h1
    dsimp only at h
    split at h
    · cases h; omega
    · cases h2 : sgn l (n1 + 1) with
      | none => rw [h2] at h; cases h
      | some y =>
        obtain ⟨b1, n2⟩ := y
        rw [h2] at h
        have k2 := sgn_lt h2
        dsimp only at h
        split at h
        · cases h
        · cases h; omega
end Go.E
set_option linter.unusedVariables false
set_option linter.unusedSimpArgs false
namespace Go.E
open Go.H
attribute [local irreducible] BiN MkS ConvN LookN MapUpN CallV HC limb dbTab
abbrev rdr (m : Mem) (r : Nat) (s : ByteArray) (i : Nat) : Prop := m r = some (.cells #[.string s, .int .i64 (i : Int)] T_class_reader (0, 0))
abbrev refusal : Value := .iface T_class_refusal (.agg #[])
abbrev pan : Ending := .panicked [{ v := refusal, recovered := false }]
abbrev lst (s : ByteArray) : List UInt8 := s.data.toList
theorem lst_len (s : ByteArray) : (lst s).length = s.size := by simp [lst]
theorem next_spec {m : Mem} {r : Nat} {s : ByteArray} {i : Nat} (hr : rdr m r s i) {R : Ending → Mem → Prop} (k : R (.returned (.int .u8 (nx (lst s) i : Nat))) m) :
    HC P class_reader_next.id #[.pointer (some ⟨r, 0, none⟩)] m R := by
  refine class_reader_next.ok _ _ _ ?_
  refine ⟨m, Le.refl _, ?_⟩
  refine LdV.s1 hr (UnI.mk ?_)
  refine LdV.s0 hr (UnStr.mk ?_)
  refine BrD (fun hlt => ?_) (fun hge => ?_)
  · refine ⟨m, Le.refl _, ?_⟩
    refine LdV.s0 hr (UnStr.mk ?_)
    refine LdV.s1 hr (UnI.mk ?_)
    refine ⟨by omega, by omega, ?_⟩
    rw [bt_nx (by omega)]
    exact k
  · rw [nx_out (by rw [lst_len]; omega)] at k
    exact k
theorem take_spec {m : Mem} {r : Nat} {s : ByteArray} {i : Nat} (hr : rdr m r s i) (hs : s.size < 2 ^ 62) {R : Ending → Mem → Prop}
    (k : i < s.size → ∀ m', Chg (fun b => b = r) m m' → rdr m' r s (i + 1) → R (.returned (.int .u8 (nx (lst s) i : Nat))) m') (kp : s.size ≤ i → R pan m) :
    HC P class_reader_take.id #[.pointer (some ⟨r, 0, none⟩)] m R := by
  refine class_reader_take.ok _ _ _ ?_
  refine ⟨m, Le.refl _, ?_⟩
  refine LdV.s1 hr (UnI.mk ?_)
  refine LdV.s0 hr (UnStr.mk ?_)
  refine BrD (fun hge => kp (by omega)) (fun hlt => ?_)
  refine LdV.s1 hr (UnI.mk ?_)
  rw [wi (n := (i : Int) + 1) (by omega) (by omega)]
  refine St1.to #[.string s, .int .i64 ((i + 1 : Nat) : Int)] hr (by simp) rfl rfl ?_
  refine ⟨_, Le.refl _, ?_⟩
  have h2 : rdr (m.set r (.cells #[.string s, .int .i64 ((i + 1 : Nat) : Int)] T_class_reader (0, 0))) r s (i + 1) := set_same _ _ _
  refine LdV.s0 h2 (UnStr.mk ?_)
  refine LdV.s1 h2 (UnI.mk ?_)
  rw [wi (n := ((i + 1 : Nat) : Int) - 1) (by omega) (by omega), show ((i + 1 : Nat) : Int) - 1 = (i : Int) by omega]
  refine ⟨by omega, by omega, ?_⟩
  rw [bt_nx (by omega)]
  exact k (by omega) _ (Chg.set m r _) h2
theorem ix_sp : ∀ c, c < 256 → (0 ≤ ixB (ByteArray.mk #[92, 124, 42, 43, 63, 40, 41, 91, 93, 46, 94, 45]) c) = (isSp c = true) := by
  have h : ∀ c, c < 256 → (decide (0 ≤ ixB (ByteArray.mk #[92, 124, 42, 43, 63, 40, 41, 91, 93, 46, 94, 45]) c)) = isSp c := by decide +kernel
  intro c hc
  rw [← h c hc]; simp
theorem ix_hex : ∀ c, c < 256 → ixB (ByteArray.mk #[48, 49, 50, 51, 52, 53, 54, 55, 56, 57, 97, 98, 99, 100, 101, 102]) c = if dig c = 16 then -1 else (dig c : Int) := by decide +kernel
theorem dig_le (c : Nat) : dig c ≤ 16 := by unfold dig; split <;> (try split) <;> omega
theorem digit_spec {m : Mem} {r : Nat} {s : ByteArray} {i : Nat} (hr : rdr m r s i) (hs : s.size < 2 ^ 62) {R : Ending → Mem → Prop}
    (k : i < s.size → dig (nx (lst s) i) ≠ 16 → ∀ m', Chg (fun b => b = r) m m' → rdr m' r s (i + 1) → R (.returned (.int .u8 (dig (nx (lst s) i) : Nat))) m')
    (kp : (s.size ≤ i ∨ dig (nx (lst s) i) = 16) → ∀ m', Chg (fun b => b = r) m m' → R pan m') :
    HC P class_reader_digit.id #[.pointer (some ⟨r, 0, none⟩)] m R := by
  refine class_reader_digit.ok _ _ _ ?_
  refine take_spec hr hs (fun hi m' hch hr' => ?_) (fun hi => kp (.inl hi) m (Chg.refl _ _))
  dsimp only [Cont]
  refine UnI.mk ?_
  refine IndexByte_spec (nx_lt _ _) ?_
  dsimp only [Cont]
  refine UnI.mk ?_
  rw [ix_hex _ (nx_lt _ _)]
  have := dig_le (nx (lst s) i)
  by_cases h : dig (nx (lst s) i) = 16
  · rw [if_pos h]
    exact BrDt (by omega) (kp (.inr h) m' hch)
  · rw [if_neg h]
    refine BrDf (by omega) ?_
    rw [IntKind.wrap_u8, show ((dig (nx (lst s) i) : Nat) : Int) % 256 = (dig (nx (lst s) i) : Nat) by omega]
    exact k hi h m' hch hr'
theorem hex_join : ∀ a, a < 16 → ∀ b, b < 16 → bitsV .or .u8 (shlV .u8 ((a : Nat) : Int) 4) ((b : Nat) : Int) = ((a * 16 + b : Nat) : Int) := by decide +kernel
theorem sign_spec {m : Mem} {r : Nat} {s : ByteArray} {i : Nat} (hr : rdr m r s i) (hs : s.size < 2 ^ 62) {R : Ending → Mem → Prop}
    (k : ∀ c n, sgn (lst s) i = some (c, n) → ∀ m', Chg (fun b => b = r) m m' → rdr m' r s n → R (.returned (.int .u8 (c : Nat))) m')
    (kp : sgn (lst s) i = none → ∀ m', Chg (fun b => b = r) m m' → R pan m') :
    HC P class_reader_sign.id #[.pointer (some ⟨r, 0, none⟩)] m R := by
  refine class_reader_sign.ok _ _ _ ?_
  have hll := lst_len s
  unfold sgn at k kp
  refine take_spec hr hs (fun hi m1 hch1 hr1 => ?_) (fun hi => kp (by rw [if_pos (by omega)]) m (Chg.refl _ _))
  rw [if_neg (by omega)] at k kp
  dsimp only [Cont]
  refine UnI.mk ?_
  refine BrN (fun hne => ?_) (fun heq => ?_)
  · rw [if_pos (by omega)] at k kp
    refine BrD (fun h => kp (by rw [if_pos (.inl (by omega))]) m1 hch1) (fun h1 => ?_)
    refine BrD (fun h => kp (by rw [if_pos (.inr (.inl (by omega)))]) m1 hch1) (fun h2 => ?_)
    refine IndexByte_spec (nx_lt _ _) ?_
    dsimp only [Cont]
    refine UnI.mk ?_
    refine BrD (fun h => ?_) (fun h3 => ?_)
    · have h : 0 ≤ ixB _ (nx (lst s) i) := h
      rw [ix_sp _ (nx_lt _ _)] at h
      exact kp (by rw [if_pos (.inr (.inr h))]) m1 hch1
    · have h3 : ¬ (0 ≤ ixB _ (nx (lst s) i)) := h3
      rw [ix_sp _ (nx_lt _ _)] at h3
      exact k _ _ (by rw [if_neg (fun h => h.elim (fun h => by omega) (fun h => h.elim (fun h => by omega) (fun h => h3 h)))]) m1 hch1 hr1
  · rw [if_neg (by omega)] at k kp
    refine take_spec hr1 hs (fun hi2 m2 hch2 hr2 => ?_) (fun hi2 => kp (by rw [if_pos (by omega)]) m1 hch1)
    have hch2' := hch1.trans hch2 (fun _ _ e => e)
    rw [if_neg (by omega)] at k kp
    dsimp only [Cont]
    refine UnI.mk ?_
    refine BrE (fun hx => ?_) (fun hx => ?_)
    · rw [if_pos (by omega)] at k kp
      refine digit_spec hr2 hs (fun hi3 hd3 m3 hch3 hr3 => ?_) (fun h3 m3 hch3 => kp (by rw [if_pos (h3.elim (fun h => .inl (by omega)) (fun h => .inr (.inl h)))]) m3 (hch2'.trans hch3 (fun _ _ e => e)))
      dsimp only [Cont]
      refine UnI.mk ?_
      have hch3' := hch2'.trans hch3 (fun _ _ e => e)
      refine digit_spec hr3 hs (fun hi4 hd4 m4 hch4 hr4 => ?_) (fun h4 m4 hch4 => kp (by rw [if_pos (h4.elim (fun h => .inr (.inr (.inl (by omega)))) (fun h => .inr (.inr (.inr h))))]) m4 (hch3'.trans hch4 (fun _ _ e => e)))
      dsimp only [Cont]
      refine UnI.mk ?_
      have d3 := dig_le (nx (lst s) (i + 2)); have d4 := dig_le (nx (lst s) (i + 3))
      have e3 : dig (nx (lst s) (i + 2)) < 16 := by have hd3 : dig (nx (lst s) (i + 2)) ≠ 16 := hd3; omega
      have e4 : dig (nx (lst s) (i + 3)) < 16 := by have hd4 : dig (nx (lst s) (i + 3)) ≠ 16 := hd4; omega
      rw [hex_join _ e3 _ e4]
      exact k _ _ (by rw [if_neg (fun h => h.elim (fun h => by omega) (fun h => h.elim (fun h => hd3 h) (fun h => h.elim (fun h => by omega) (fun h => hd4 h))))]) m4 (hch3'.trans hch4 (fun _ _ e => e)) hr4
    · rw [if_neg (by omega)] at k kp
      refine IndexByte_spec (nx_lt _ _) ?_
      dsimp only [Cont]
      refine UnI.mk ?_
      refine BrD (fun h => ?_) (fun h3 => ?_)
      · have h : ixB _ (nx (lst s) (i + 1)) < 0 := h
        have h : ¬ (0 ≤ ixB (ByteArray.mk #[92, 124, 42, 43, 63, 40, 41, 91, 93, 46, 94, 45]) (nx (lst s) (i + 1))) := by omega
        rw [ix_sp _ (nx_lt _ _)] at h
        exact kp (by rw [if_neg h]) m2 hch2'
      · have h3 : ¬ ixB _ (nx (lst s) (i + 1)) < 0 := h3
        have h3 : (0 ≤ ixB (ByteArray.mk #[92, 124, 42, 43, 63, 40, 41, 91, 93, 46, 94, 45]) (nx (lst s) (i + 1))) := by omega
        rw [ix_sp _ (nx_lt _ _)] at h3
        exact k _ _ (by rw [if_pos h3]) m2 hch2' hr2
end Go.E
set_option linter.unusedVariables false
set_option linter.unusedSimpArgs false
namespace Go.E
open Go.H
attribute [local irreducible] BiN MkS ConvN LookN MapUpN CallV HC limb dbTab
abbrev z4 : Array Value := #[.int .u64 0, .int .u64 0, .int .u64 0, .int .u64 0]
/-- A result's own place, while the reader goes on. -/
structure Cel (m mm : Mem) (r b : Nat) (c : Array Value) : Prop where
  at_ : mm b = some (.cells c T_api_Set (0, 0))
  ne : b ≠ r
  new : m b = none
  ch : Chg (fun x => x = r) m mm
theorem Cel.mk0 {m : Mem} {r b : Nat} {c : Array Value} (hr : m r ≠ none) (hb : m b = none) : Cel m (m.set b (.cells c T_api_Set (0, 0))) r b c :=
  ⟨set_same _ _ _, fun e => hr (e ▸ hb), hb, (Le.set hb _).chg _⟩
theorem Cel.step {m mm m' : Mem} {r b : Nat} {c : Array Value} (h : Cel m mm r b c) (k : Chg (fun x => x = r) mm m') : Cel m m' r b c :=
  ⟨k.eq _ _ h.at_ h.ne, h.ne, h.new, h.ch.trans k (fun _ _ e => e)⟩
theorem Cel.le {m mm m' : Mem} {r b : Nat} {c : Array Value} (h : Cel m mm r b c) (k : Le mm m') : Cel m m' r b c := h.step (k.chg _)
theorem Cel.put {m mm : Mem} {r b : Nat} {c : Array Value} (h : Cel m mm r b c) (c' : Array Value) : Cel m (mm.set b (.cells c' T_api_Set (0, 0))) r b c' := by
  refine ⟨set_same _ _ _, h.ne, h.new, ?_⟩
  refine ⟨fun x o hx hn => ?_, fun x hx => ?_⟩
  · have : x ≠ b := fun e => by subst e; rw [h.new] at hx; cases hx
    rw [set_other _ _ this]
    exact h.ch.eq x o hx hn
  · by_cases e : x = b
    · subst e; rw [set_same]; simp
    · rw [set_other _ _ e]; exact h.ch.live x hx
theorem part_spec {m : Mem} {r : Nat} {s : ByteArray} {i : Nat} (hr : rdr m r s i) (hs : s.size < 2 ^ 62) {R : Ending → Mem → Prop}
    (k : ∀ a b n, prt (lst s) i = some ((a, b), n) → ∀ m', Chg (fun b => b = r) m m' → rdr m' r s n → R (.returned (setv (fromTo a b))) m')
    (kp : prt (lst s) i = none → ∀ m', Chg (fun b => b = r) m m' → R pan m') :
    HC P class_reader_part.id #[.pointer (some ⟨r, 0, none⟩)] m R := by
  refine class_reader_part.ok _ _ _ ?_
  intro b2 hb2
  have c0 := Cel.mk0 (r := r) (c := z4) (by rw [hr]; simp) hb2
  have hr0 : rdr (m.set b2 (.cells z4 T_api_Set (0, 0))) r s i := by show _ = _; rw [set_other _ _ c0.ne.symm]; exact hr
  unfold prt at k kp
  refine sign_spec hr0 hs (fun a n hsg m1 hch1 hr1 => ?_) (fun hsg m1 hch1 => kp (by rw [hsg]) m1 (c0.step hch1).ch)
  rw [hsg] at k kp
  dsimp only at k kp
  have ha := (sgn_lt hsg).1
  have c1 := c0.step hch1
  dsimp only [Cont]
  refine UnI.mk ?_
  refine next_spec hr1 ?_
  dsimp only [Cont]
  refine UnI.mk ?_
  refine BrN (fun hne => ?_) (fun heq => ?_)
  · rw [if_pos (by omega)] at k
    refine run_spec ha ha ?_
    intro m2 hle2
    refine ContSet.mk ?_
    refine out4 (c1.le hle2).at_ ?_
    refine k a a n rfl _ ((c1.le hle2).put _).ch ?_
    show _ = _
    rw [set_other _ _ c1.ne.symm]; exact hle2 _ _ hr1
  · rw [if_neg (by omega)] at k kp
    refine take_spec hr1 hs (fun hi m2 hch2 hr2 => ?_) (fun hi => ?_)
    rotate_left
    · rw [nx_out (by rw [lst_len]; omega)] at heq; cases heq
    have c2 := c1.step hch2
    dsimp only [Cont]
    refine UnI.mk ?_
    refine sign_spec hr2 hs (fun b n' hsg2 m3 hch3 hr3 => ?_) (fun hsg2 m3 hch3 => kp (by rw [hsg2]) m3 (c2.step hch3).ch)
    rw [hsg2] at k kp
    dsimp only at k kp
    have hb := (sgn_lt hsg2).1
    have c3 := c2.step hch3
    dsimp only [Cont]
    refine UnI.mk ?_
    refine BrD (fun hlt => kp (by rw [if_pos (by omega)]) m3 c3.ch) (fun hge => ?_)
    rw [if_neg (by omega)] at k
    refine run_spec ha hb ?_
    intro m4 hle4
    refine ContSet.mk ?_
    refine out4 (c3.le hle4).at_ ?_
    refine k a b n' rfl _ ((c3.le hle4).put _).ch ?_
    show _ = _
    rw [set_other _ _ c3.ne.symm]; exact hle4 _ _ hr3
/-- Behind the last part. -/
theorem k3_spec {m mm : Mem} {r b2 b5 : Nat} {s : ByteArray} {i : Nat} {S : Nat → Bool} {other : Bool} (hi : i < s.size) (hs : s.size < 2 ^ 62) (hr : rdr mm r s i) (c2 : Cel m mm r b2 z4) (c5 : Cel m mm r b5 (cells4 S)) (hne : b2 ≠ b5) {R : Ending → Mem → Prop}
    (k : ∀ m', Chg (fun b => b = r) m m' → rdr m' r s (i + 1) → R (.returned (setv (if other = true then (fun c => !S c) else S))) m') :
    class_reader_class.k3 (some ⟨r, 0, none⟩) b2 0 other b5 0 R mm := by
  unfold class_reader_class.k3
  refine take_spec hr hs (fun _ m1 hch1 hr1 => ?_) (fun h => by omega)
  have d2 := c2.step hch1; have d5 := c5.step hch1
  dsimp only [Cont]
  refine UnI.mk ?_
  cases other with
  | true =>
    refine Br.mk (fun _ => ?_) (fun h => by cases h)
    refine get4 d5.at_ ?_
    refine Not_spec ?_
    intro m2 hle2
    refine ContSet.mk ?_
    have e2 := d2.le hle2; have e5 := d5.le hle2
    refine put4 e5.at_ ?_
    have f5 := e5.put (cells4 fun c => !S c)
    refine get4 f5.at_ ?_
    have f2 : (m2.set b5 (.cells (cells4 fun c => !S c) T_api_Set (0, 0))) b2 = some (.cells z4 T_api_Set (0, 0)) := by rw [set_other _ _ hne]; exact e2.at_
    refine out4 f2 ?_
    refine k _ (Cel.put ⟨f2, e2.ne, e2.new, f5.ch⟩ _).ch ?_
    show _ = _
    rw [set_other _ _ e2.ne.symm, set_other _ _ e5.ne.symm]; exact hle2 _ _ hr1
  | false =>
    refine Br.mk (fun h => by cases h) (fun _ => ?_)
    refine get4 d5.at_ ?_
    refine out4 d2.at_ ?_
    refine k _ (d2.put _).ch ?_
    show _ = _
    rw [set_other _ _ d2.ne.symm]; exact hr1
theorem loop_spec {m mm : Mem} {r b2 b5 : Nat} {s : ByteArray} {n : Nat} {S : Nat → Bool} {other : Bool} (hs : s.size < 2 ^ 62) (hn : n ≤ s.size) (hr : rdr mm r s n) (c2 : Cel m mm r b2 z4) (c5 : Cel m mm r b5 (cells4 S)) (hne : b2 ≠ b5) {R : Ending → Mem → Prop}
    (k : ∀ S' e, prts (lst s) (s.size + 1) n S = some (S', e) → ∀ m', Chg (fun b => b = r) m m' → rdr m' r s e → R (.returned (setv (if other = true then (fun c => !S' c) else S'))) m')
    (kp : prts (lst s) (s.size + 1) n S = none → ∀ m', Chg (fun b => b = r) m m' → R pan m') :
    class_reader_class.l2 (some ⟨r, 0, none⟩) b2 0 other b5 0 R mm := by
  have hll := lst_len s
  refine ⟨fun N ra x2b x2o o s5b s5o mm => ra = some ⟨r, 0, none⟩ ∧ x2b = b2 ∧ x2o = 0 ∧ o = other ∧ s5b = b5 ∧ s5o = 0 ∧ ∃ n' S2, s.size < N + n' ∧ n' ≤ s.size ∧ rdr mm r s n' ∧ Cel m mm r b2 z4 ∧ Cel m mm r b5 (cells4 S2) ∧ prts (lst s) N n' S2 = prts (lst s) (s.size + 1) n S, s.size + 1,
    ⟨rfl, rfl, rfl, rfl, rfl, rfl, n, S, by omega, hn, hr, c2, c5, rfl⟩, ?_⟩
  clear hr c2 c5
  rintro N ra x2b x2o o s5b s5o mm ⟨rfl, rfl, rfl, rfl, rfl, rfl, n', S2, hN, hn', hr, c2, c5, hp⟩
  obtain ⟨N, rfl⟩ : ∃ N', N = N' + 1 := ⟨N - 1, by omega⟩
  unfold class_reader_class.l2B
  refine next_spec hr ?_
  dsimp only [Cont]
  refine UnI.mk ?_
  rw [prts] at hp
  refine BrN (fun h93 => ?_) (fun h93 => ?_)
  · rw [if_neg (by omega)] at hp
    refine ⟨mm.wo (fun b => b = r), wo_le _ _, ?_⟩
    have hw : ∀ b, b ≠ r → (mm.wo fun b => b = r) b = mm b := fun b hb => wo_in hb
    refine get4 (by rw [hw _ c5.ne]; exact c5.at_) ?_
    refine part_spec hr hs (fun a b n2 hpr m3 hch3 hr3 => ?_) (fun hpr m3 hch3 => kp (by rw [← hp, hpr]) m3 (c2.step hch3).ch)
    rw [hpr] at hp
    dsimp only at hp
    obtain ⟨hab, hb, hin, hle⟩ := prt_lt hpr
    refine ContSet.mk ?_
    refine ⟨mm.wo (fun b => b = r), Le.refl _, fun b o hb => ?_, ?_⟩
    · by_cases e : b = r
      · rw [wo_out (F := fun b => b = r) e] at hb; cases hb
      · rw [hw _ e] at hb; exact hch3.eq _ _ hb e
    refine Or_spec ?_
    intro m4 hle4
    refine ContSet.mk ?_
    have d5 := (c5.step hch3).le hle4
    refine put4 d5.at_ ?_
    have e5 := d5.put (cells4 fun c => S2 c || fromTo a b c)
    have d2 := (c2.step hch3).le hle4
    refine ⟨N, by omega, rfl, rfl, rfl, rfl, rfl, rfl, n2, fun c => S2 c || fromTo a b c, by omega, by omega, ?_, ⟨?_, d2.ne, d2.new, e5.ch⟩, e5, hp⟩
    · show _ = _
      rw [set_other _ _ d5.ne.symm]; exact hle4 _ _ hr3
    · rw [set_other _ _ hne]; exact d2.at_
  · rw [if_pos (by omega)] at hp
    have hi : n' < s.size := by
      apply Decidable.byContradiction
      intro h
      rw [nx_out (by omega)] at h93; cases h93
    exact k3_spec hi hs hr c2 c5 hne fun m' hch hr' => k S2 (n' + 1) hp.symm m' hch hr'
theorem class_spec {m : Mem} {r : Nat} {s : ByteArray} (hr : rdr m r s 0) (hs : s.size < 2 ^ 62) {R : Ending → Mem → Prop}
    (k : ∀ S e, cls0 (lst s) = some (S, e) → ∀ m', Chg (fun b => b = r) m m' → rdr m' r s e → R (.returned (setv S)) m')
    (kp : cls0 (lst s) = none → ∀ m', Chg (fun b => b = r) m m' → R pan m') :
    HC P class_reader_class.id #[.pointer (some ⟨r, 0, none⟩)] m R := by
  have hll := lst_len s
  refine class_reader_class.ok _ _ _ ?_
  intro b2 hb2
  have c0 := Cel.mk0 (r := r) (c := z4) (by rw [hr]; simp) hb2
  have hr0 : rdr (m.set b2 (.cells z4 T_api_Set (0, 0))) r s 0 := by show _ = _; rw [set_other _ _ c0.ne.symm]; exact hr
  unfold cls0 at k kp
  refine next_spec hr0 ?_
  dsimp only [Cont]
  refine UnI.mk ?_
  refine BrE (fun h46 => ?_) (fun h46 => ?_)
  · rw [if_pos (by omega)] at k
    refine take_spec hr0 hs (fun hi m1 hch1 hr1 => ?_) (fun hi => by rw [nx_out (by omega)] at h46; cases h46)
    dsimp only [Cont]
    refine UnI.mk ?_
    have hz : (.agg #[.int .u64 0, .int .u64 0, .int .u64 0, .int .u64 0] : Value) = setv fun _ => false := by
      unfold setv; rw [L_zero, L_zero, L_zero, L_zero]
    rw [hz]
    refine Not_spec ?_
    intro m2 hle2
    refine ContSet.mk ?_
    have c1 := (c0.step hch1).le hle2
    refine out4 c1.at_ ?_
    refine k _ _ rfl _ (c1.put _).ch ?_
    show _ = _
    rw [set_other _ _ c1.ne.symm]; exact hle2 _ _ hr1
  rw [if_neg (by omega)] at k kp
  refine BrE (fun h91 => ?_) (fun h91 => ?_)
  · rw [if_pos (by omega)] at k kp
    refine take_spec hr0 hs (fun hi m1 hch1 hr1 => ?_) (fun hi => by rw [nx_out (by omega)] at h91; cases h91)
    have c1 := c0.step hch1
    dsimp only [Cont]
    refine UnI.mk ?_
    refine next_spec hr1 ?_
    dsimp only [Cont]
    refine UnI.mk ?_
    have rest : ∀ (n0 : Nat) (other : Bool) (m3 : Mem), (if nx (lst s) 1 = 94 then 2 else 1) = n0 → other = decide (nx (lst s) 1 = 94) → rdr m3 r s n0 → Cel m m3 r b2 z4 →
        class_reader_class.k1 (some ⟨r, 0, none⟩) b2 0 other R m3 := by
      intro n0 other m3 hn0 hot hr3 c3
      rw [hn0] at k kp
      unfold class_reader_class.k1
      refine part_spec hr3 hs (fun a b n hpr m4 hch4 hr4 => ?_) (fun hpr m4 hch4 => kp (by rw [hpr]) m4 (c3.step hch4).ch)
      rw [hpr] at k kp
      dsimp only at k kp
      obtain ⟨hab, hb, hin, hle⟩ := prt_lt hpr
      refine ContSet.mk ?_
      intro b5 hb5
      have c4 := c3.step hch4
      have hne : b2 ≠ b5 := fun e => by subst e; rw [c4.at_] at hb5; cases hb5
      have hm5 : m b5 = none := c4.ch.new hb5
      have hr5 : b5 ≠ r := fun e => by subst e; rw [hr4] at hb5; cases hb5
      refine put4 (set_same _ _ _) ?_
      rw [set_set]
      have c5 : Cel m (m4.set b5 (.cells (cells4 (fromTo a b)) T_api_Set (0, 0))) r b5 (cells4 (fromTo a b)) :=
        ⟨set_same _ _ _, hr5, hm5, c4.ch.trans ((Le.set hb5 _).chg _) (fun _ _ e => e)⟩
      refine loop_spec (n := n) (S := fromTo a b) hs (by omega) ?_ (c4.le (Le.set hb5 _)) c5 hne (fun S' e hp m' hch hr' => ?_) (fun hp m' hch => kp (by rw [hll, hp]) m' hch)
      · show _ = _
        rw [set_other _ _ hr5.symm]; exact hr4
      · subst hot
        by_cases h : nx (lst s) 1 = 94
        · have := k (fun c => !S' c) e (by rw [hll, hp]; simp [h]) m' hch hr'
          simpa [h] using this
        · have := k S' e (by rw [hll, hp]; simp [h]) m' hch hr'
          simpa [h] using this
    have hd : (((nx (lst s) 1 : Nat) : Int) == 94) = decide (nx (lst s) 1 = 94) := by
      rw [Bool.eq_iff_iff]; simp only [beq_iff_eq, decide_eq_true_eq]; omega
    refine BrE (fun h94 => ?_) (fun h94 => ?_)
    · refine take_spec hr1 hs (fun hi m2 hch2 hr2 => ?_) (fun hi => by rw [nx_out (by omega)] at h94; cases h94)
      dsimp only [Cont]
      refine UnI.mk ?_
      exact rest 2 _ m2 (by rw [if_pos (show nx (lst s) 1 = 94 by have h94 : ((nx (lst s) 1 : Nat) : Int) = 94 := h94; omega)]) hd hr2 (c1.step hch2)
    · exact rest 1 _ m1 (by rw [if_neg (show ¬ nx (lst s) 1 = 94 by have h94 : ¬ ((nx (lst s) 1 : Nat) : Int) = 94 := h94; omega)]) hd hr1 c1
  · rw [if_neg (by omega)] at k kp
    refine sign_spec hr0 hs (fun c n hsg m1 hch1 hr1 => ?_) (fun hsg m1 hch1 => kp (by rw [hsg]) m1 (c0.step hch1).ch)
    rw [hsg] at k
    dsimp only at k
    have hc := (sgn_lt hsg).1
    dsimp only [Cont]
    refine UnI.mk ?_
    refine run_spec hc hc ?_
    intro m2 hle2
    refine ContSet.mk ?_
    have c1 := (c0.step hch1).le hle2
    refine out4 c1.at_ ?_
    refine k _ _ rfl _ (c1.put _).ch ?_
    show _ = _
    rw [set_other _ _ c1.ne.symm]; exact hle2 _ _ hr1
end Go.E
set_option linter.unusedVariables false
set_option linter.unusedSimpArgs false
namespace Go.E
open Go.H
attribute [local irreducible] BiN MkS ConvN LookN MapUpN CallV HC limb dbTab
/-- Three results under way. -/
structure PS (m mm : Mem) (b2 b3 b4 : Nat) (c2 : Array Value) (n e : Int) : Prop where
  le : Le m mm
  a2 : mm b2 = some (.cells c2 T_api_Set (0, 0))
  a3 : mm b3 = some (.cells #[.int .i64 n] T_int (0, 0))
  a4 : mm b4 = some (.cells #[.int .i64 e] T_api_Errno (0, 0))
  n23 : b2 ≠ b3
  n24 : b2 ≠ b4
  n34 : b3 ≠ b4
  w2 : m b2 = none
  w3 : m b3 = none
  w4 : m b4 = none
section
variable {m mm m' : Mem} {b2 b3 b4 : Nat} {c2 : Array Value} {n e : Int}
theorem PS.step (h : PS m mm b2 b3 b4 c2 n e) {r : Nat} (hr : m r = none) (h2 : b2 ≠ r) (h3 : b3 ≠ r) (h4 : b4 ≠ r) (k : Chg (fun b => b = r) mm m') : PS m m' b2 b3 b4 c2 n e :=
  ⟨k.to_le h.le (fun b x => by rw [show b = r from x]; exact hr), k.eq _ _ h.a2 h2, k.eq _ _ h.a3 h3, k.eq _ _ h.a4 h4, h.n23, h.n24, h.n34, h.w2, h.w3, h.w4⟩
theorem PS.mono (h : PS m mm b2 b3 b4 c2 n e) (k : Le mm m') : PS m m' b2 b3 b4 c2 n e :=
  ⟨h.le.trans k, k _ _ h.a2, k _ _ h.a3, k _ _ h.a4, h.n23, h.n24, h.n34, h.w2, h.w3, h.w4⟩
theorem PS.p2 (h : PS m mm b2 b3 b4 c2 n e) (c : Array Value) : PS m (mm.set b2 (.cells c T_api_Set (0, 0))) b2 b3 b4 c n e :=
  ⟨Chg.to_le (Chg.set mm _ _) h.le (fun b x => by rw [show b = b2 from x]; exact h.w2), set_same _ _ _, by rw [set_other _ _ h.n23.symm]; exact h.a3, by rw [set_other _ _ h.n24.symm]; exact h.a4, h.n23, h.n24, h.n34, h.w2, h.w3, h.w4⟩
theorem PS.p3 (h : PS m mm b2 b3 b4 c2 n e) (c : Int) : PS m (mm.set b3 (.cells #[.int .i64 c] T_int (0, 0))) b2 b3 b4 c2 c e :=
  ⟨Chg.to_le (Chg.set mm _ _) h.le (fun b x => by rw [show b = b3 from x]; exact h.w3), by rw [set_other _ _ h.n23]; exact h.a2, set_same _ _ _, by rw [set_other _ _ h.n34.symm]; exact h.a4, h.n23, h.n24, h.n34, h.w2, h.w3, h.w4⟩
theorem PS.p4 (h : PS m mm b2 b3 b4 c2 n e) (c : Int) : PS m (mm.set b4 (.cells #[.int .i64 c] T_api_Errno (0, 0))) b2 b3 b4 c2 n c :=
  ⟨Chg.to_le (Chg.set mm _ _) h.le (fun b x => by rw [show b = b4 from x]; exact h.w4), by rw [set_other _ _ h.n24]; exact h.a2, by rw [set_other _ _ h.n34]; exact h.a3, set_same _ _ _, h.n23, h.n24, h.n34, h.w2, h.w3, h.w4⟩
theorem PS.out {u0 u1 u2 u3 : Int} (h : PS m mm b2 b3 b4 #[.int .u64 u0, .int .u64 u1, .int .u64 u2, .int .u64 u3] n e) {R : Ending → Mem → Prop} (k : R (.returned (.tuple #[.agg #[.int .u64 u0, .int .u64 u1, .int .u64 u2, .int .u64 u3], .int .i64 n, .int .i64 e])) mm) :
    class_Parse.out b2 0 b3 0 b4 0 R mm := get4 h.a2 (LdV.s0 h.a3 (UnI.mk (LdV.s0 h.a4 (UnI.mk k))))
theorem PS.fail {x0 x1 x2 x3 : Value} (h : PS m mm b2 b3 b4 #[x0, x1, x2, x3] n e) {R : Ending → Mem → Prop} (k : ∀ m', Le m m' → R (.returned (.tuple #[setv fun _ => false, .int .i64 0, .int .i64 2])) m') :
    DefR P class_Parse_1.id #[.pointer (some ⟨b2, 0, none⟩), .pointer (some ⟨b3, 0, none⟩), .pointer (some ⟨b4, 0, none⟩)] (class_Parse.out b2 0 b3 0 b4 0 R) pan mm := by
  refine ⟨refusal, rfl, class_Parse_1.df_some _ _ _ _ _ ?_⟩
  intro b hb
  have h1 := h.mono (Le.set hb (.cells #[] T_class_refusal (0, 0)))
  refine put4 h1.a2 ?_
  have h2 := h1.p2 z4
  refine St1.to #[.int .i64 0] h2.a3 (by simp) rfl rfl ?_
  have h3 := h2.p3 0
  refine St1.to #[.int .i64 2] h3.a4 (by simp) rfl rfl ?_
  have h4 := h3.p4 2
  refine h4.out ?_
  have := k _ h4.le
  have hz : (setv fun _ => false) = .agg z4 := by unfold setv; rw [L_zero, L_zero, L_zero, L_zero]
  rw [hz] at this
  exact this
end
theorem empty_all {S : Nat → Bool} (h : emptyS S = true) : ∀ b, b < 256 → S b = false := by
  intro b hb
  unfold emptyS at h
  rw [List.all_eq_true] at h
  have := h b (by simpa using hb)
  simpa using this
theorem empty_ex {S : Nat → Bool} (h : ¬ emptyS S = true) : ∃ t, t < 256 ∧ S t = true ∧ ∀ j, j < t → S j = false := by
  have hex : ∃ t, t < 256 ∧ S t = true := by
    apply Decidable.byContradiction
    intro hn
    refine h ?_
    unfold emptyS
    rw [List.all_eq_true]
    intro b hb
    have hb : b < 256 := by simpa using hb
    cases hS : S b with
    | false => rfl
    | true => exact absurd ⟨b, hb, hS⟩ hn
  obtain ⟨t, ht⟩ := hex
  obtain ⟨k, hk, hm⟩ := least (p := fun t => t < 256 ∧ S t = true) ht
  refine ⟨k, hk.1, hk.2, fun j hj => ?_⟩
  have := hm j hj
  cases hS : S j with
  | false => rfl
  | true => exact absurd ⟨by omega, hS⟩ this
theorem ContTB.mk {a : Int} {b : Bool} {K : Int → Bool → Mem → Prop} {Pn : List PanicEntry → Mem → Prop} {m : Mem} (k : K a b m) :
    Cont (fun v m => UnTup v fun us0 => UnCons us0 fun w us1 => UnI w .u8 fun x0 => UnCons us1 fun w us2 => UnB w fun x1 => UnNil us2 (K x0 x1 m)) Pn (.returned (.tuple #[.int .u8 a, .bool b])) m := k
theorem Parse_spec {s : ByteArray} {m : Mem} (hG : Glob m) (hs : s.size < 2 ^ 62) {R : Ending → Mem → Prop}
    (k : ∀ S e, cls (lst s) = some (S, e) → ∀ m', Le m m' → R (.returned (.tuple #[setv S, .int .i64 (e : Nat), .int .i64 0])) m')
    (kp : cls (lst s) = none → ∀ m', Le m m' → R (.returned (.tuple #[setv fun _ => false, .int .i64 0, .int .i64 2])) m') :
    HC P class_Parse.id #[.string s] m R := by
  refine class_Parse.ok _ _ _ ?_
  intro b2 h2 b3 h3 b4 h4
  have n32 : b3 ≠ b2 := fun e => by subst e; rw [set_same] at h3; cases h3
  have n43 : b4 ≠ b3 := fun e => by subst e; rw [set_same] at h4; cases h4
  have n42 : b4 ≠ b2 := fun e => by subst e; rw [set_other _ _ n32.symm, set_same] at h4; cases h4
  have w3 : m b3 = none := by rw [set_other _ _ n32] at h3; exact h3
  have w4 : m b4 = none := by rw [set_other _ _ n43, set_other _ _ n42] at h4; exact h4
  have p0 : PS m (((m.set b2 (.cells z4 T_api_Set (0, 0))).set b3 (.cells #[.int .i64 0] T_int (0, 0))).set b4 (.cells #[.int .i64 0] T_api_Errno (0, 0))) b2 b3 b4 z4 0 0 :=
    ⟨((Le.set h2 _).trans (Le.set h3 _)).trans (Le.set h4 _), by rw [set_other _ _ n42.symm, set_other _ _ n32.symm, set_same], by rw [set_other _ _ n43.symm, set_same], set_same _ _ _, n32.symm, n42.symm, n43.symm, h2, w3, w4⟩
  generalize ((m.set b2 (.cells z4 T_api_Set (0, 0))).set b3 (.cells #[.int .i64 0] T_int (0, 0))).set b4 (.cells #[.int .i64 0] T_api_Errno (0, 0)) = m3 at p0
  unfold class_Parse.rest0 class_Parse.k1
  intro r hr
  have p1 := p0.mono (Le.set hr (.cells #[.string s, .int .i64 0] T_class_reader (0, 0)))
  have hrm : m r = none := p0.le.new hr
  have e2 : b2 ≠ r := fun e => by subst e; rw [p0.a2] at hr; cases hr
  have e3 : b3 ≠ r := fun e => by subst e; rw [p0.a3] at hr; cases hr
  have e4 : b4 ≠ r := fun e => by subst e; rw [p0.a4] at hr; cases hr
  unfold cls at k kp
  refine class_spec (r := r) (s := s) (set_same _ _ _) hs (fun S e hc m4 hch hr4 => ?_) (fun hc m4 hch => ?_)
  rotate_left
  · rw [hc] at kp
    exact (p1.step hrm e2 e3 e4 hch).fail (kp rfl)
  rw [hc] at k kp
  dsimp only at k kp
  have p2 := p1.step hrm e2 e3 e4 hch
  refine ContSet.mk ?_
  refine put4 p2.a2 ?_
  have p3 := p2.p2 (cells4 S)
  refine get4 p3.a2 ?_
  by_cases hem : emptyS S = true
  · rw [if_pos hem] at kp
    refine Least_none (empty_all hem) ?_
    intro m5 hle5
    refine ContTB.mk ?_
    exact (p3.mono hle5).fail (kp rfl)
  · rw [if_neg hem] at k
    obtain ⟨t, ht, hf, hl⟩ := empty_ex hem
    refine Least_some ht hf hl (hG.le p3.le) ?_
    intro m5 hle5
    have p4 := p3.mono hle5
    have hr5 : rdr m5 r s e := hle5 _ _ (by rw [set_other _ _ e2.symm]; exact hr4)
    refine ContTB.mk ?_
    refine ⟨m5, Le.refl _, ?_⟩
    refine get4 p4.a2 ?_
    refine LdV.s1 hr5 (UnI.mk ?_)
    refine put4 p4.a2 ?_
    have p5 := p4.p2 (cells4 S)
    refine ⟨_, ?_, Le.refl _, ?_⟩
    · intro b o hb
      by_cases eb : b = b2
      · subst eb; rw [p4.a2] at hb; cases hb; exact set_same _ _ _
      · rw [set_other _ _ eb]; exact hb
    refine St1.to #[.int .i64 (e : Nat)] p5.a3 (by simp) rfl rfl ?_
    have p6 := p5.p3 (e : Nat)
    refine St1.to #[.int .i64 0] p6.a4 (by simp) rfl rfl ?_
    have p7 := p6.p4 0
    refine class_Parse_1.df_none _ _ _ _ _ ?_
    intro b hb
    have p8 := p7.mono (Le.set hb (.cells #[] T_class_refusal (0, 0)))
    exact p8.out (k S e rfl _ p8.le)
end Go.E
set_option linter.unusedVariables false
set_option linter.unusedSimpArgs false
namespace Go.E
open Go.H
attribute [local irreducible] BiN MkS ConvN LookN MapUpN CallV HC limb dbTab
abbrev hexB : ByteArray := ByteArray.mk #[48, 49, 50, 51, 52, 53, 54, 55, 56, 57, 97, 98, 99, 100, 101, 102]
end Go.E
set_option linter.unusedVariables false
set_option linter.unusedSimpArgs false
set_option maxRecDepth 20000
namespace Go.E
open Go.H
attribute [local irreducible] BiN MkS ConvN LookN MapUpN CallV HC limb dbTab
/-- The bytes below k of a set. -/
def flt (f : Nat → Bool) (k : Nat) : List UInt8 := ((List.range k).filter f).map UInt8.ofNat
theorem flt_succ (f : Nat → Bool) (k : Nat) : flt f (k + 1) = if f k = true then flt f k ++ [UInt8.ofNat k] else flt f k := by
  unfold flt
  rw [List.range_succ, List.filter_append]
  cases h : f k <;> simp [h]
theorem flt_len (f : Nat → Bool) (k : Nat) : (flt f k).length ≤ k := by
  unfold flt
  rw [List.length_map]
  exact Nat.le_trans (List.length_filter_le _ _) (by simp)
theorem inB_flt {f : Nat → Bool} {k : Nat} (h : k ≤ 256) (c : Nat) : inB (flt f k) c = (decide (c < k) && f c) := by
  induction k with
  | zero => simp [flt, inB]
  | succ k ih =>
    have ih := ih (by omega)
    have hk : (UInt8.ofNat k).toNat = k := by rw [UInt8.toNat_ofNat']; omega
    rw [flt_succ]
    cases hf : f k with
    | false =>
      simp only [Bool.false_eq_true, if_false]
      rw [ih, Bool.eq_iff_iff]
      simp only [Bool.and_eq_true, decide_eq_true_eq]
      constructor
      · rintro ⟨h1, h2⟩; exact ⟨by omega, h2⟩
      · rintro ⟨h1, h2⟩
        refine ⟨?_, h2⟩
        have : c ≠ k := fun e => by subst e; rw [hf] at h2; cases h2
        omega
    | true =>
      simp only [if_true]
      have e : inB (flt f k ++ [UInt8.ofNat k]) c = (inB (flt f k) c || c == k) := by
        unfold inB
        rw [List.any_append, List.any_cons, List.any_nil, hk, Bool.or_false]
      rw [e, ih, Bool.eq_iff_iff]
      simp only [Bool.or_eq_true, Bool.and_eq_true, decide_eq_true_eq, beq_iff_eq]
      constructor
      · rintro (⟨h1, h2⟩ | rfl)
        · exact ⟨by omega, h2⟩
        · exact ⟨by omega, hf⟩
      · rintro ⟨h1, h2⟩
        by_cases e : c = k
        · exact .inr e
        · exact .inl ⟨by omega, h2⟩
theorem setv_flt (f : Nat → Bool) : setv (inB (flt f 256)) = setv f := setv_eq fun c hc => by rw [inB_flt (Nat.le_refl _)]; simp [hc]
theorem u8w {k : Nat} (h : k < 256) : IntKind.u8.wrap (k : Int) = (k : Int) := by rw [IntKind.wrap_u8]; omega
theorem u8n {k : Nat} (h : k < 256) : (k : Int) = (((UInt8.ofNat k).toNat : Nat) : Int) := by rw [UInt8.toNat_ofNat']; omega
theorem RNot_spec {f : Nat → Bool} {m : Mem} {R : Ending → Mem → Prop} (h : ∀ m', Le m m' → R (.returned (setv fun b => !f b)) m') : HC P eyotref8_Not.id #[setv f] m R := by
  refine eyotref8_Not.ok _ _ _ _ _ _ ?_
  intro ba hba b2 hb2
  have hne : b2 ≠ ba := fun e => by subst e; rw [set_same] at hb2; cases hb2
  have hm2 : m b2 = none := by rw [set_other _ _ hne] at hb2; exact hb2
  have hle0 := (Le.set hba (.cells (cells4 f) T_api_Set (0, 0))).trans (Le.set hb2 (.cells z4 T_api_Set (0, 0)))
  have ea : ((m.set ba (.cells (cells4 f) T_api_Set (0, 0))).set b2 (.cells z4 T_api_Set (0, 0))) ba = some (.cells (cells4 f) T_api_Set (0, 0)) := by rw [set_other _ _ hne.symm, set_same]
  have e2 : ((m.set ba (.cells (cells4 f) T_api_Set (0, 0))).set b2 (.cells z4 T_api_Set (0, 0))) b2 = some (.cells z4 T_api_Set (0, 0)) := set_same _ _ _
  generalize ((m.set ba (.cells (cells4 f) T_api_Set (0, 0))).set b2 (.cells z4 T_api_Set (0, 0))) = ms at hle0 ea e2
  refine ⟨fun N a1b a1o x2b x2o la ll lc i mm => a1b = ba ∧ a1o = 0 ∧ x2b = b2 ∧ x2o = 0 ∧ ∃ k : Nat, i = k ∧ N = 256 - k ∧ k ≤ 256 ∧ RwB ms mm la ll lc (flt (fun b => !f b) k), 256, ⟨rfl, rfl, rfl, rfl, 0, rfl, rfl, by omega, RwB.nil (Le.refl _)⟩, ?_⟩
  rintro N a1b a1o x2b x2o la ll lc i mm ⟨rfl, rfl, rfl, rfl, k, rfl, rfl, hk, hr⟩
  have hl := hr.len
  have hl2 := flt_len (fun b => !f b) k
  refine BrD (fun hlt => ?_) (fun hge => ?_)
  · refine get4 (hr.le _ _ ea) ?_
    rw [u8w (by omega)]
    refine RHas_spec (by omega) ?_
    intro m1 hle1
    have hr1 := hr.mono hle1
    dsimp only [Cont]
    refine UnB.mk ?_
    have w : IntKind.i64.wrap ((k : Int) + 1) = ((k + 1 : Nat) : Int) := by rw [wi (by omega) (by omega)]; omega
    refine Br.mk (fun hb => ?_) (fun hb => ?_)
    · rw [u8n (k := k) (by omega)]
      refine hr1.push _ (by omega) ?_
      intro a' c' m' hr'
      refine UnS.mk ?_
      refine ⟨_, ?_, rfl, rfl, rfl, rfl, k + 1, ?_, rfl, by omega, by rw [flt_succ, if_pos hb]; exact hr'⟩
      · omega
      · rw [← u8n (by omega), w]
    · refine ⟨_, ?_, rfl, rfl, rfl, rfl, k + 1, w, rfl, by omega, by rw [flt_succ, if_neg (by rw [hb]; simp)]; exact hr1⟩
      omega
  · have : k = 256 := by omega
    subst this
    refine ROf_spec hr.own.cells hl (by omega) ?_
    intro m' hle
    refine ContSet.mk ?_
    refine out4 (hle _ _ (hr.le _ _ e2)) ?_
    show R (.returned (setv (inB (flt (fun b => !f b) 256)))) _
    rw [setv_flt]
    exact h _ (Chg.to_le (Chg.set m' x2b _) ((hle0.trans hr.le).trans hle) (fun b e => by rw [show b = x2b from e]; exact hm2))
theorem eq4 (f g : Nat → Bool) : (eqL [.int .u64 (L f 0), .int .u64 (L f 1), .int .u64 (L f 2), .int .u64 (L f 3)] [.int .u64 (L g 0), .int .u64 (L g 1), .int .u64 (L g 2), .int .u64 (L g 3)] = true) ↔ ∀ b, b < 256 → f b = g b := by
  have e : eqL [.int .u64 (L f 0), .int .u64 (L f 1), .int .u64 (L f 2), .int .u64 (L f 3)] [.int .u64 (L g 0), .int .u64 (L g 1), .int .u64 (L g 2), .int .u64 (L g 3)] =
      (L f 0 == L g 0 && (L f 1 == L g 1 && (L f 2 == L g 2 && (L f 3 == L g 3 && true)))) := rfl
  rw [e]
  simp only [Bool.and_eq_true, beq_iff_eq, and_true]
  constructor
  · rintro ⟨h0, h1, h2, h3⟩; exact L_inj h0 h1 h2 h3
  · intro h
    exact ⟨L_congr fun j hj => h _ (by omega), L_congr fun j hj => h _ (by omega), L_congr fun j hj => h _ (by omega), L_congr fun j hj => h _ (by omega)⟩
theorem eq4_zero (f : Nat → Bool) : eqL [.int .u64 (L f 0), .int .u64 (L f 1), .int .u64 (L f 2), .int .u64 (L f 3)] [.int .u64 0, .int .u64 0, .int .u64 0, .int .u64 0] = emptyS f := by
  have h := eq4 f fun _ => false
  rw [L_zero, L_zero, L_zero, L_zero] at h
  rw [Bool.eq_iff_iff, h]
  unfold emptyS
  simp
end Go.E
set_option linter.unusedVariables false
set_option linter.unusedSimpArgs false
set_option maxRecDepth 20000
namespace Go.E
open Go.H
attribute [local irreducible] BiN MkS ConvN LookN MapUpN CallV HC limb dbTab
theorem ContTI.mk {a b : Int} {K : Int → Int → Mem → Prop} {Pn : List PanicEntry → Mem → Prop} {m : Mem} (k : K a b m) :
    Cont (fun v m => UnTup v fun us0 => UnCons us0 fun w us1 => UnI w .u8 fun x0 => UnCons us1 fun w us2 => UnI w .i64 fun x1 => UnNil us2 (K x0 x1 m)) Pn (.returned (.tuple #[.int .u8 a, .int .i64 b])) m := k
end Go.E
set_option linter.unusedVariables false
set_option linter.unusedSimpArgs false
set_option maxRecDepth 20000
namespace Go.E
open Go.H
attribute [local irreducible] BiN MkS ConvN LookN MapUpN CallV HC limb dbTab
/-- A text of bytes. -/
def bstr (l : List UInt8) : ByteArray := ⟨l.toArray⟩
theorem bstr_append (a b : List UInt8) : bstr a ++ bstr b = bstr (a ++ b) := by
  apply ByteArray.ext
  rw [ByteArray.data_append]
  simp [bstr]
theorem bstr_size (a : List UInt8) : (bstr a).size = a.length := by simp [bstr, ByteArray.size]
theorem bstr_lst (s : ByteArray) : bstr (lst s) = s := by apply ByteArray.ext; simp [bstr, lst]
/-- a digit of sixteen -/
def hexd (k : Nat) : UInt8 := if k < 10 then UInt8.ofNat (48 + k) else UInt8.ofNat (87 + k)
/-- A byte's sign. -/
def sgT (c : Nat) : List UInt8 :=
  if c < 33 ∨ 126 < c then [92, 120, hexd (c / 16), hexd (c % 16)]
  else if isSp c = true then [92, UInt8.ofNat c] else [UInt8.ofNat c]
theorem hex_ext : ∀ k, k < 16 → (hexB.extract k (k + 1)).data.toList = [hexd k] := by decide +kernel
theorem hex_ext' {k : Nat} (h : k < 16) : hexB.extract k (k + 1) = bstr [hexd k] := by
  rw [← hex_ext k h]; exact (bstr_lst _).symm
theorem shr4 : ∀ c, c < 256 → shrV .u8 ((c : Nat) : Int) 4 = ((c / 16 : Nat) : Int) := by decide +kernel
theorem and15 : ∀ c, c < 256 → bitsV .and .u8 ((c : Nat) : Int) 15 = ((c % 16 : Nat) : Int) := by decide +kernel
theorem sgT_len (c : Nat) : (sgT c).length ≤ 4 := by unfold sgT; split <;> (try split) <;> simp
theorem SlB_hex {k : Nat} (h : k < 16) {K : ByteArray → Prop} (kk : K (bstr [hexd k])) : SlB hexB (k : Int) (IntKind.u8.wrap ((k : Int) + 1)) K := by
  have w : IntKind.u8.wrap ((k : Int) + 1) = ((k + 1 : Nat) : Int) := by rw [IntKind.wrap_u8]; omega
  rw [w]
  refine ⟨by omega, by omega, by show ((k + 1 : Nat) : Int) ≤ 16; omega, ?_⟩
  rw [Int.toNat_natCast, Int.toNat_natCast, hex_ext' h]
  exact kk
theorem CatB_bs {a b : List UInt8} (h : a.length + b.length ≤ 1000000) {A : Prop} (k : A) : CatB (bstr a) (bstr b) A := ⟨by rw [bstr_size, bstr_size]; omega, k⟩
theorem csign_spec {c : Nat} (hc : c < 256) {m : Mem} {R : Ending → Mem → Prop} (k : ∀ m', Le m m' → R (.returned (.string (bstr (sgT c)))) m') : HC P class_sign.id #[.int .u8 (c : Int)] m R := by
  refine class_sign.ok _ _ _ ?_
  have k1t : (c < 33 ∨ 126 < c) → class_sign.k1 (c : Int) true R m := by
    intro h
    unfold sgT at k
    rw [if_pos h] at k
    unfold class_sign.k1
    refine Br.mk (fun _ => ?_) (fun h => by cases h)
    refine ⟨m, Le.refl _, ?_⟩
    rw [shr4 c hc, and15 c hc]
    refine SlB_hex (by omega) ?_
    refine CatB_bs (a := [92, 120]) (by simp) ?_
    refine SlB_hex (by omega) ?_
    have e : (ByteArray.mk #[92, 120]) ++ bstr [hexd (c / 16)] = bstr [92, 120, hexd (c / 16)] := bstr_append [92, 120] _
    rw [e]
    refine CatB_bs (by simp) ?_
    rw [bstr_append]
    exact k m (Le.refl _)
  have k1f : ¬ (c < 33 ∨ 126 < c) → class_sign.k1 (c : Int) false R m := by
    intro h
    unfold sgT at k
    rw [if_neg h] at k
    unfold class_sign.k1
    refine Br.mk (fun h => by cases h) (fun _ => ?_)
    refine IndexByte_spec hc ?_
    dsimp only [Cont]
    refine UnI.mk ?_
    refine BrD (fun hg => ?_) (fun hg => ?_)
    · have hg : 0 ≤ ixB _ c := hg
      rw [ix_sp _ hc] at hg
      rw [if_pos hg] at k
      intro b hb
      refine ⟨[UInt8.ofNat c], rfl, cells_at (set_same _ _ _) (by rw [u8n hc]; rfl), ?_⟩
      refine CatB_bs (a := [92]) (b := [UInt8.ofNat c]) (by simp) ?_
      have e : (ByteArray.mk #[92]) ++ bstr [UInt8.ofNat c] = bstr [92, UInt8.ofNat c] := bstr_append [92] _
      have := k _ (Le.set hb (.cells #[.int .u8 (c : Int)] T_uint8 (0, 0)))
      rw [← e] at this
      exact this
    · have hg : ¬ 0 ≤ ixB _ c := hg
      rw [ix_sp _ hc] at hg
      rw [if_neg hg] at k
      intro b hb
      refine ⟨[UInt8.ofNat c], rfl, cells_at (set_same _ _ _) (by rw [u8n hc]; rfl), ?_⟩
      exact k _ (Le.set hb (.cells #[.int .u8 (c : Int)] T_uint8 (0, 0)))
  refine BrD (fun h => k1t (by omega)) (fun h => ?_)
  cases hd : decide ((c : Int) > 126) with
  | true => exact k1t (by have := of_decide_eq_true hd; omega)
  | false => exact k1f (by have := of_decide_eq_false hd; omega)
/-- How a run is shown. -/
def shT (a b : Nat) : List UInt8 := if b = a then sgT a else if b = a + 1 then sgT a ++ sgT b else sgT a ++ ([45] ++ sgT b)
theorem shown_spec {a b : Nat} (hab : a ≤ b) (hb : b < 256) {m : Mem} {R : Ending → Mem → Prop} (k : ∀ m', Le m m' → R (.returned (.string (bstr (shT a b)))) m') :
    HC P class_shown.id #[.agg #[.int .u8 (a : Int), .int .u8 (b : Int)]] m R := by
  refine class_shown.ok _ _ _ _ ?_
  intro b1 hb1
  have hle := Le.set hb1 (.cells #[.int .u8 (a : Int), .int .u8 (b : Int)] T_arr2_uint8 (0, 0))
  have e1 : (m.set b1 (.cells #[.int .u8 (a : Int), .int .u8 (b : Int)] T_arr2_uint8 (0, 0))) b1 = some (.cells #[.int .u8 (a : Int), .int .u8 (b : Int)] T_arr2_uint8 (0, 0)) := set_same _ _ _
  generalize (m.set b1 (.cells #[.int .u8 (a : Int), .int .u8 (b : Int)] T_arr2_uint8 (0, 0))) = m1 at hle e1
  unfold shT at k
  refine ⟨by omega, by omega, ?_⟩
  refine LdV.s1 e1 (UnI.mk ?_)
  refine ⟨by omega, by omega, ?_⟩
  refine LdV.s0 e1 (UnI.mk ?_)
  have w : IntKind.u8.wrap ((b : Int) - (a : Int)) = ((b - a : Nat) : Int) := by rw [IntKind.wrap_u8]; omega
  rw [w]
  refine BrE (fun h => ?_) (fun h => ?_)
  · rw [if_pos (by omega)] at k
    refine ⟨by omega, by omega, ?_⟩
    refine LdV.s0 e1 (UnI.mk ?_)
    refine csign_spec (by omega) ?_
    intro m2 hle2
    dsimp only [Cont]
    exact UnStr.mk (k m2 (hle.trans hle2))
  rw [if_neg (by omega)] at k
  have l1 := sgT_len a; have l2 := sgT_len b
  refine BrE (fun h => ?_) (fun h => ?_)
  · rw [if_pos (by omega)] at k
    refine ⟨m1, Le.refl _, ?_⟩
    refine ⟨by omega, by omega, ?_⟩
    refine LdV.s0 e1 (UnI.mk ?_)
    refine ⟨by omega, by omega, ?_⟩
    refine LdV.s1 e1 (UnI.mk ?_)
    refine csign_spec (by omega) ?_
    intro m2 hle2
    dsimp only [Cont]
    refine UnStr.mk (Lk.all hle2 ?_)
    refine csign_spec hb ?_
    intro m3 hle3
    dsimp only [Cont]
    refine UnStr.mk (CatB_bs (by omega) ?_)
    rw [bstr_append]
    exact k m3 ((hle.trans hle2).trans hle3)
  · rw [if_neg (by omega)] at k
    refine ⟨m1, Le.refl _, ?_⟩
    refine ⟨by omega, by omega, ?_⟩
    refine LdV.s0 e1 (UnI.mk ?_)
    refine ⟨by omega, by omega, ?_⟩
    refine LdV.s1 e1 (UnI.mk ?_)
    refine csign_spec (by omega) ?_
    intro m2 hle2
    dsimp only [Cont]
    refine UnStr.mk (Lk.all hle2 ?_)
    refine CatB_bs (b := [45]) (by simp; omega) ?_
    refine csign_spec hb ?_
    intro m3 hle3
    dsimp only [Cont]
    refine UnStr.mk ?_
    have e : bstr (sgT a) ++ ByteArray.mk #[45] = bstr (sgT a ++ [45]) := bstr_append _ [45]
    rw [e]
    refine CatB_bs (by simp; omega) ?_
    rw [bstr_append, List.append_assoc]
    exact k m3 ((hle.trans hle2).trans hle3)
end Go.E
set_option linter.unusedVariables false
set_option linter.unusedSimpArgs false
set_option maxRecDepth 20000
namespace Go.E
open Go.H
attribute [local irreducible] BiN MkS ConvN LookN MapUpN CallV HC limb dbTab
/-- One more byte. -/
def runS (l : List (Nat × Nat)) (k : Nat) : List (Nat × Nat) :=
  match l.getLast? with
  | some (a, b) => if b + 1 = k then l.dropLast ++ [(a, k)] else l ++ [(k, k)]
  | none => [(k, k)]
def runL (f : Nat → Bool) : Nat → List (Nat × Nat)
  | 0 => []
  | k + 1 => if f k = true then runS (runL f k) k else runL f k
theorem runS_nil (k : Nat) : runS [] k = [(k, k)] := rfl
theorem runS_snoc (l : List (Nat × Nat)) (a b k : Nat) : runS (l ++ [(a, b)]) k = if b + 1 = k then l ++ [(a, k)] else (l ++ [(a, b)]) ++ [(k, k)] := by
  unfold runS
  rw [List.getLast?_append]
  simp
theorem run_len (f : Nat → Bool) : ∀ k, (runL f k).length ≤ k
  | 0 => by simp [runL]
  | k + 1 => by
    have ih := run_len f k
    unfold runL
    split
    · rcases List.eq_nil_or_concat (runL f k) with h | ⟨l0, ⟨a, b⟩, h⟩
      · rw [h, runS_nil]; simp
      · rw [h] at ih ⊢
        rw [List.concat_eq_append] at ih ⊢
        rw [runS_snoc]
        split <;> simp at ih ⊢ <;> omega
    · omega
theorem run_ok (f : Nat → Bool) : ∀ k, ∀ p ∈ runL f k, p.1 ≤ p.2 ∧ p.2 < k
  | 0 => by simp [runL]
  | k + 1 => by
    have ih := run_ok f k
    intro p hp
    unfold runL at hp
    split at hp
    · rcases List.eq_nil_or_concat (runL f k) with h | ⟨l0, ⟨a, b⟩, h⟩
      · rw [h, runS_nil] at hp
        simp at hp; subst hp; simp
      · rw [List.concat_eq_append] at h
        rw [h] at hp ih
        rw [runS_snoc] at hp
        have hab := ih (a, b) (by simp)
        split at hp
        · rcases List.mem_append.mp hp with h1 | h1
          · have := ih p (by simp [h1]); omega
          · simp at h1; subst h1; simp; simp at hab; omega
        · rcases List.mem_append.mp hp with h1 | h1
          · have := ih p h1; omega
          · simp at h1; subst h1; simp
    · have := ih p hp; omega
def rv (p : Nat × Nat) : List Value := [.int .u8 (p.1 : Int), .int .u8 (p.2 : Int)]
theorem rv_len (p : Nat × Nat) : (rv p).length = 2 := rfl
theorem eA2 : ElemOK P T_sl_arr2_uint8 T_arr2_uint8 (.agg #[.int .u8 0, .int .u8 0]) 2 2 := .of (by kernel_rfl) (by kernel_rfl) rfl
/-- A row of runs under way, new over ms. -/
structure RwR (ms mm : Mem) (a : Option Addr) (l c : Nat) (rs : List (Nat × Nat)) : Prop where
  le : Le ms mm
  own : Own mm T_arr2_uint8 2 a l c (rs.flatMap rv)
  fr : Fresh ms a
theorem RwR.len {ms mm : Mem} {a : Option Addr} {l c : Nat} {rs : List (Nat × Nat)} (h : RwR ms mm a l c rs) : rs.length = l := by
  have := h.own.1
  rw [rows_len rv_len] at this
  omega
theorem runs_spec {f : Nat → Bool} {m : Mem} {R : Ending → Mem → Prop} (h : ∀ m' a l c, RwR m m' a l c (runL f 256) → R (.returned (.slice a l c)) m') : HC P class_runs.id #[setv f] m R := by
  refine class_runs.ok _ _ _ _ _ _ ?_
  intro ba hba
  have hle0 := Le.set hba (.cells (cells4 f) T_api_Set (0, 0))
  have ea : (m.set ba (.cells (cells4 f) T_api_Set (0, 0))) ba = some (.cells (cells4 f) T_api_Set (0, 0)) := set_same _ _ _
  generalize (m.set ba (.cells (cells4 f) T_api_Set (0, 0))) = ms at hle0 ea
  refine ⟨fun N a1b a1o la ll lc i mm => a1b = ba ∧ a1o = 0 ∧ ∃ k : Nat, i = k ∧ N = 256 - k ∧ k ≤ 256 ∧ RwR ms mm la ll lc (runL f k), 256, ⟨rfl, rfl, 0, rfl, rfl, by omega, ⟨Le.refl _, Own.nil _ _ _, Fresh.none _⟩⟩, ?_⟩
  rintro N a1b a1o la ll lc i mm ⟨rfl, rfl, k, rfl, rfl, hk, hr⟩
  have hl := hr.len
  have hl2 := run_len f k
  refine BrD (fun hlt => ?_) (fun hge => ?_)
  rotate_left
  · have : k = 256 := by omega
    subst this
    exact h _ _ _ _ ⟨hle0.trans hr.le, hr.own, Fresh.le hle0 hr.fr⟩
  refine get4 (hr.le _ _ ea) ?_
  rw [u8w (by omega)]
  refine Has_spec (by omega) ?_
  intro m1 hle1
  have hr1 : RwR ms m1 la ll lc (runL f k) := ⟨hr.le.trans hle1, Own.le hle1 hr.own, hr.fr⟩
  dsimp only [Cont]
  refine UnB.mk ?_
  have w : IntKind.i64.wrap ((k : Int) + 1) = ((k + 1 : Nat) : Int) := by rw [wi (by omega) (by omega)]; omega
  refine Br.mk (fun hb => ?_) (fun hb => ?_)
  · have hb : f k = false := by simpa using hb
    refine ⟨_, ?_, rfl, rfl, k + 1, w, rfl, by omega, by unfold runL; rw [if_neg (by rw [hb]; simp)]; exact hr1⟩
    omega
  have hb : f k = true := by simpa using hb
  have wl : IntKind.i64.wrap (((ll : Nat) : Int) - 1) = (ll : Int) - 1 := wi (by omega) (by omega)
  rw [wl]
  -- a new run
  have fresh : runL f (k + 1) = runL f k ++ [(k, k)] → class_runs.k2 (fun s_1b s_1o xa xl xc x6 m => ∃ N1, N1 < 256 - k ∧ (fun N b1 b1o la ll lc i mm => b1 = a1b ∧ b1o = 0 ∧ ∃ k : Nat, i = (k : Int) ∧ N = 256 - k ∧ k ≤ 256 ∧ RwR ms mm la ll lc (runL f k)) N1 s_1b s_1o xa xl xc x6 m)
      a1b 0 la ll lc (k : Int) ((ll : Int) - 1) (k : Int) false R m1 := by
    intro hrun
    unfold class_runs.k2
    refine Br.mk (fun h => by cases h) (fun _ => ?_)
    rw [u8w (k := k) (by omega)]
    refine push_row eA2 (by omega) hr1.own rfl (by intro v hv; simp at hv; rcases hv with rfl | rfl <;> rfl) (by omega) (by omega) ?_
    intro a' c' m' hch ho hbk
    refine UnS.mk ?_
    refine ⟨256 - (k + 1), by omega, rfl, rfl, k + 1, w, rfl, by omega, ?_⟩
    refine ⟨hch.to_le hr1.le (fun b e => hr1.fr b e), ?_, ?_⟩
    · rw [hrun, List.flatMap_append]
      exact ho
    · rcases hbk with e | e
      · intro b eb; exact hr1.fr b (e ▸ eb)
      · exact Fresh.le hr1.le e
  have grow : ∀ l0 a b, runL f k = l0 ++ [(a, b)] → runL f (k + 1) = l0 ++ [(a, k)] → class_runs.k2 (fun s_1b s_1o xa xl xc x6 m => ∃ N1, N1 < 256 - k ∧ (fun N b1 b1o la ll lc i mm => b1 = a1b ∧ b1o = 0 ∧ ∃ k : Nat, i = (k : Int) ∧ N = 256 - k ∧ k ≤ 256 ∧ RwR ms mm la ll lc (runL f k)) N1 s_1b s_1o xa xl xc x6 m)
      a1b 0 la ll lc (k : Int) ((ll : Int) - 1) (k : Int) true R m1 := by
    intro l0 a b h1 h2
    have hll : ll = l0.length + 1 := by rw [← hl, h1]; simp
    unfold class_runs.k2
    refine Br.mk (fun _ => ?_) (fun h => by cases h)
    rw [u8w (k := k) (by omega)]
    have : IxS la ll ((ll : Int) - 1) 2 (fun b o => St1 m1 b (o + 1) (.int .u8 (k : Int)) fun m1 => ∃ N1, N1 < 256 - k ∧ (fun N b1 b1o la ll lc i mm => b1 = a1b ∧ b1o = 0 ∧ ∃ k : Nat, i = (k : Int) ∧ N = 256 - k ∧ k ≤ 256 ∧ RwR ms mm la ll lc (runL f k)) N1 a1b 0 la ll lc (IntKind.i64.wrap ((k : Int) + 1)) m1) := by
      refine hr1.own.stN (by omega) (by omega) (by omega) rfl ?_
      intro m' hch ho
      refine ⟨256 - (k + 1), by omega, rfl, rfl, k + 1, w, rfl, by omega, hch.to_le hr1.le (fun b e => hr1.fr b e), ?_, hr1.fr⟩
      have e : ((ll : Int) - 1).toNat = l0.length := by omega
      rw [e, h1, List.flatMap_append] at ho
      rw [h2, List.flatMap_append]
      have hln : (l0.flatMap rv).length = l0.length * 2 := rows_len rv_len l0
      rw [List.set_append, if_neg (by omega)] at ho
      rw [show l0.length * 2 + 1 - (l0.flatMap rv).length = 1 by omega] at ho
      exact ho
    obtain ⟨t0, t1, t2⟩ := this
    refine ⟨t0, t1, ?_⟩
    revert t2
    cases la with
    | none => exact fun h => h
    | some ad =>
      obtain ⟨bb, oo, ee⟩ := ad
      cases ee with
      | none => exact fun h => ⟨by omega, by omega, h⟩
      | some _ => exact fun h => h
  rcases List.eq_nil_or_concat (runL f k) with hnil | ⟨l0, ⟨a, b⟩, hcon⟩
  · refine BrDf (by rw [hnil] at hl; simp at hl; omega) ?_
    exact fresh (by rw [runL, if_pos hb, hnil, runS_nil]; rfl)
  · rw [List.concat_eq_append] at hcon
    have hll : ll = l0.length + 1 := by rw [← hl, hcon]; simp
    refine BrDt (by omega) ?_
    have hab := run_ok f k (a, b) (by rw [hcon]; simp)
    simp only at hab
    refine IxS.rows rv_len (by omega) hr1.own.cells hl (by omega) (by omega) ?_
    intro bb oo x hx hcell
    have e : ((ll : Int) - 1).toNat = l0.length := by omega
    rw [e, hcon, List.getElem?_append_right (Nat.le_refl _)] at hx
    simp at hx
    subst hx
    refine ⟨by omega, by omega, ?_⟩
    refine LdV.mk (v := .int .u8 (b : Int)) (hcell 1 _ rfl) ?_
    refine UnI.mk ?_
    rw [wi (n := (b : Int)) (by omega) (by omega), wi (n := (k : Int) - 1) (by omega) (by omega)]
    have hrun : runL f (k + 1) = if b + 1 = k then l0 ++ [(a, k)] else (l0 ++ [(a, b)]) ++ [(k, k)] := by
      rw [runL, if_pos hb, hcon, runS_snoc]
    cases hd : (((b : Int)) == ((k : Int) - 1)) with
    | true =>
      have hd := beq_iff_eq.mp hd
      rw [if_pos (by omega)] at hrun
      exact grow l0 a b hcon hrun
    | false =>
      have hd := beq_eq_false_iff_ne.mp hd
      rw [if_neg (by omega), ← hcon] at hrun
      exact fresh hrun
end Go.E
set_option linter.unusedVariables false
set_option linter.unusedSimpArgs false
set_option maxRecDepth 20000
namespace Go.E
open Go.H
attribute [local irreducible] BiN MkS ConvN LookN MapUpN CallV HC limb dbTab
def joinR (rs : List (Nat × Nat)) : List UInt8 := rs.flatMap fun p => shT p.1 p.2
def fullS (f : Nat → Bool) : Bool := emptyS fun b => !f b
def brk (rs : List (Nat × Nat)) : List UInt8 := ([91] ++ joinR rs) ++ [93]
/-- How a set is shown. -/
def shW (f : Nat → Bool) : List UInt8 :=
  if (runL f 256).length = 0 then []
  else if fullS f = true then [46]
  else match runL f 256 with
    | [(a, b)] => if a = b then sgT a else brk [(a, b)]
    | rs => brk rs
theorem shT_len (a b : Nat) : (shT a b).length ≤ 9 := by
  have h1 := sgT_len a; have h2 := sgT_len b
  unfold shT
  split
  · omega
  · split <;> simp <;> omega
theorem joinR_len : ∀ rs : List (Nat × Nat), (joinR rs).length ≤ 9 * rs.length
  | [] => by simp [joinR]
  | p :: rs => by
    have h := joinR_len rs
    have h2 := shT_len p.1 p.2
    unfold joinR at h ⊢
    rw [List.flatMap_cons, List.length_append, List.length_cons]
    omega
theorem joinR_take {rs : List (Nat × Nat)} {i : Nat} {p : Nat × Nat} (h : rs[i]? = some p) : joinR (rs.take (i + 1)) = joinR (rs.take i) ++ shT p.1 p.2 := by
  unfold joinR
  rw [List.take_add_one, h, List.flatMap_append]
  simp
theorem l3_spec {m mm : Mem} {a : Option Addr} {l c : Nat} {rs : List (Nat × Nat)} (hle : Le m mm) (hc : CellsAt mm a (rs.flatMap rv)) (hl : rs.length = l) (hlen : l ≤ 256) (hok : ∀ p ∈ rs, p.1 ≤ p.2 ∧ p.2 < 256) {R : Ending → Mem → Prop}
    (k : ∀ m', Le m m' → R (.returned (.string (bstr (brk rs)))) m') : class_Show.k2 a l c R mm := by
  unfold class_Show.k2
  refine ⟨fun N out xa xl xc n i m3 => xa = a ∧ xl = l ∧ xc = c ∧ n = (l : Int) ∧ ∃ j : Nat, i = j ∧ N = l - j ∧ j ≤ l ∧ out = bstr ([91] ++ joinR (rs.take j)) ∧ Le mm m3, l, ⟨rfl, rfl, rfl, rfl, 0, rfl, rfl, by omega, rfl, Le.refl _⟩, ?_⟩
  rintro N out xa xl xc n i m3 ⟨rfl, rfl, rfl, rfl, j, rfl, rfl, hj, rfl, hle3⟩
  have hjl := joinR_len (rs.take j)
  have htl : (rs.take j).length ≤ j := by rw [List.length_take]; omega
  refine BrD (fun hlt => ?_) (fun hge => ?_)
  · refine IxS.rows rv_len (by omega) (hc.le hle3) hl (by omega) (by omega) ?_
    intro bb oo p hp hcell
    rw [Int.toNat_natCast] at hp
    have hpm : p ∈ rs := List.mem_of_getElem? hp
    obtain ⟨h1, h2⟩ := hok p hpm
    refine LdV.mk (v := .int .u8 (p.1 : Int)) (by have := hcell 0 _ rfl; exact this) ?_
    refine UnI.mk ?_
    refine LdV.mk (v := .int .u8 (p.2 : Int)) (hcell 1 _ rfl) ?_
    refine UnI.mk ?_
    intro b6 hb6
    refine St1.two (u := .int .u8 (p.1 : Int)) (v := .int .u8 (p.2 : Int)) (set_same _ _ _) rfl rfl ?_
    rw [set_set]
    refine LdV.s0 (set_same _ _ _) (UnI.mk ?_)
    refine LdV.s1 (set_same _ _ _) (UnI.mk ?_)
    refine shown_spec h1 h2 ?_
    intro m5 hle5
    dsimp only [Cont]
    have hs9 := shT_len p.1 p.2
    refine UnStr.mk (CatB_bs (by simp; omega) ?_)
    refine ⟨xl - (j + 1), by omega, rfl, rfl, rfl, rfl, j + 1, ?_, rfl, by omega, ?_, (hle3.trans (Le.set hb6 _)).trans hle5⟩
    · rw [wi (by omega) (by omega)]; omega
    · rw [bstr_append, joinR_take hp, List.append_assoc]
  · have : j = rs.length := by omega
    subst this
    rw [List.take_length] at hjl ⊢
    have e : bstr ([91] ++ joinR rs) ++ ByteArray.mk #[93] = bstr (brk rs) := bstr_append _ [93]
    rw [e]
    refine ⟨?_, k _ (hle.trans hle3)⟩
    rw [bstr_size]
    show _ + 1 ≤ _
    simp; omega
theorem Show_spec {f : Nat → Bool} {m : Mem} {R : Ending → Mem → Prop} (k : ∀ m', Le m m' → R (.returned (.string (bstr (shW f)))) m') : HC P class_Show.id #[setv f] m R := by
  refine class_Show.ok _ _ _ _ _ _ ?_
  intro b1 hb1
  have hle0 := Le.set hb1 (.cells (cells4 f) T_api_Set (0, 0))
  have ea : (m.set b1 (.cells (cells4 f) T_api_Set (0, 0))) b1 = some (.cells (cells4 f) T_api_Set (0, 0)) := set_same _ _ _
  generalize (m.set b1 (.cells (cells4 f) T_api_Set (0, 0))) = ms at hle0 ea
  refine get4 ea ?_
  refine runs_spec ?_
  intro m2 a l c hr
  have hl := hr.len
  have hl2 := run_len f 256
  have hok := run_ok f 256
  unfold shW at k
  generalize runL f 256 = rs at hr hl hl2 hok k
  dsimp only [Cont]
  refine UnS.mk ?_
  refine BrE (fun h0 => ?_) (fun h0 => ?_)
  · rw [if_pos (by omega)] at k
    exact k _ (hle0.trans hr.le)
  rw [if_neg (by omega)] at k
  refine ⟨m2, Le.refl _, ?_⟩
  refine get4 (hr.le _ _ ea) ?_
  have hz : (.agg #[.int .u64 0, .int .u64 0, .int .u64 0, .int .u64 0] : Value) = setv fun _ => false := by
    unfold setv; rw [L_zero, L_zero, L_zero, L_zero]
  rw [hz]
  refine Not_spec ?_
  intro m4 hle4
  refine ContSet.mk ?_
  refine Lk.all hle4 ?_
  have hfull := eq4 f fun b => !(fun _ => false) b
  have hfe : (fullS f = true) ↔ ∀ b, b < 256 → f b = true := by
    unfold fullS emptyS
    simp
  refine Br.mk (fun h => ?_) (fun h => ?_)
  · have := hfe.mpr (fun b hb => by have := hfull.mp h b hb; simpa using this)
    rw [if_pos this] at k
    exact k _ ((hle0.trans hr.le).trans hle4)
  · have hnf : ¬ fullS f = true := fun h2 => by
      have := hfull.mpr (fun b hb => by simpa using hfe.mp h2 b hb)
      rw [this] at h; cases h
    rw [if_neg hnf] at k
    have hcm : CellsAt m4 a (rs.flatMap rv) := hr.own.cells.le hle4
    refine ⟨m4, Le.refl _, ?_⟩
    have tail : (∀ m', Le m m' → R (.returned (.string (bstr (brk rs)))) m') → class_Show.k1 a l c false R m4 := fun kk => by
      unfold class_Show.k1
      refine Br.mk (fun h => by cases h) (fun _ => ?_)
      exact l3_spec ((hle0.trans hr.le).trans hle4) hcm hl (by omega) hok kk
    refine BrE (fun h1 => ?_) (fun h1 => ?_)
    · obtain ⟨⟨p, q⟩, rfl⟩ : ∃ x, rs = [x] := List.length_eq_one_iff.mp (by omega)
      have hpq := hok (p, q) (by simp)
      simp only at hpq k
      refine IxS.rows rv_len (by omega) hcm hl (by omega) (by omega) ?_
      intro bb oo x hx hcell
      have hx : [(p, q)][0]? = some x := hx
      simp at hx; subst hx
      refine ⟨by omega, by omega, ?_⟩
      refine LdV.mk (v := .int .u8 (p : Int)) (by have := hcell 0 _ rfl; exact this) ?_
      refine UnI.mk ?_
      refine IxS.rows rv_len (by omega) hcm hl (by omega) (by omega) ?_
      intro bb2 oo2 x hx hcell2
      have hx : [(p, q)][0]? = some x := hx
      simp at hx; subst hx
      refine ⟨by omega, by omega, ?_⟩
      refine LdV.mk (v := .int .u8 (q : Int)) (hcell2 1 _ rfl) ?_
      refine UnI.mk ?_
      cases hd : ((p : Int) == (q : Int)) with
      | false =>
        have hd := beq_eq_false_iff_ne.mp hd
        rw [if_neg (by omega)] at k
        exact tail k
      | true =>
        have hd := beq_iff_eq.mp hd
        rw [if_pos (by omega)] at k
        unfold class_Show.k1
        refine Br.mk (fun _ => ?_) (fun h => by cases h)
        refine IxS.rows rv_len (by omega) hcm hl (by omega) (by omega) ?_
        intro bb oo x hx hcell
        have hx : [(p, q)][0]? = some x := hx
        simp at hx; subst hx
        refine ⟨by omega, by omega, ?_⟩
        refine LdV.mk (v := .int .u8 (p : Int)) (by have := hcell 0 _ rfl; exact this) ?_
        refine UnI.mk ?_
        refine csign_spec (by omega) ?_
        intro m5 hle5
        dsimp only [Cont]
        exact UnStr.mk (k _ (((hle0.trans hr.le).trans hle4).trans hle5))
    · refine tail ?_
      match rs, k with
      | [], _ => exact absurd (show (l : Int) = 0 by simp at hl; omega) h0
      | [_], _ => exact absurd (show (l : Int) = 1 by simp at hl; omega) h1
      | x :: y :: r, k => exact k
end Go.E
set_option linter.unusedVariables false
set_option linter.unusedSimpArgs false
set_option maxRecDepth 20000
namespace Go.E.Rg
open Go.H Go.E
inductive Rx where
  | mk (k : Int) (S : Nat → Bool) (ps : List Rx)
def Rx.k : Rx → Int | .mk k _ _ => k
def Rx.S : Rx → Nat → Bool | .mk _ S _ => S
def Rx.ps : Rx → List Rx | .mk _ _ ps => ps
theorem Rx.ind {C : Rx → Prop} (h : ∀ k S ps, (∀ a ∈ ps, C a) → C (.mk k S ps)) (r : Rx) : C r :=
  Rx.rec (motive_1 := C) (motive_2 := fun ps => ∀ a ∈ ps, C a) (fun k S ps ih => h k S ps ih) (fun a h => by cases h)
    (fun r rs h1 h2 a ha => by rcases List.mem_cons.mp ha with e | e; exact e ▸ h1; exact h2 a e) r
def noS : Nat → Bool := fun _ => false
def rx0 : Rx := .mk 0 noS []
def sgK (k : Int) : Bool := decide (4 ≤ k) && decide (k ≤ 6)
mutual
def form : Rx → Bool
  | .mk k S ps =>
    if k = 1 then ps.isEmpty && !emptyS S
    else if emptyS S = false then false
    else if k = 2 ∨ k = 3 then decide (2 ≤ ps.length) && formL k ps
    else if sgK k = true then decide (ps.length = 1) && !(ps.any fun a => sgK a.k) && formL k ps
    else false
def formL (k : Int) : List Rx → Bool
  | [] => true
  | r :: rs => (decide (r.k ≠ k) && form r) && formL k rs
end
mutual
def nodes : Rx → Nat
  | .mk _ _ ps => nodesL ps + 1
def nodesL : List Rx → Nat
  | [] => 0
  | r :: rs => nodes r + nodesL rs
end
mutual
def depth : Rx → Nat
  | .mk _ _ ps => depthL ps + 1
def depthL : List Rx → Nat
  | [] => 0
  | r :: rs => max (depth r) (depthL rs)
end
def may (r : Rx) : Int := if form r = true then (if 40 < nodes r ∨ 12 < depth r then 6 else 0) else 2
def rank (k : Int) : Int := if k = 3 then 0 else if k = 2 then 1 else if k = 1 then 3 else 2
def joinBar : List (List UInt8) → List UInt8
  | [] => []
  | [x] => x
  | x :: y :: r => x ++ 124 :: joinBar (y :: r)
def sgB (k : Int) : UInt8 := if k = 4 then 42 else if k = 5 then 43 else 63
mutual
def shw : Rx → List UInt8
  | .mk k S ps =>
    if k = 1 then shW S
    else if k = 3 then joinBar (shwL (rank k + 1) ps)
    else if sgK k = true then (shwL (rank k + 1) ps).flatten ++ [sgB k]
    else (shwL (rank k + 1) ps).flatten
def shwL (least : Int) : List Rx → List (List UInt8)
  | [] => []
  | r :: rs => (if rank r.k < least then 40 :: shw r ++ [41] else shw r) :: shwL least rs
end
mutual
def null : Rx → Bool
  | .mk k _ ps =>
    if k = 4 ∨ k = 6 then true
    else if k = 2 ∨ k = 5 then nullA ps
    else if k = 3 then nullE ps
    else false
def nullA : List Rx → Bool
  | [] => true
  | r :: rs => null r && nullA rs
def nullE : List Rx → Bool
  | [] => false
  | r :: rs => null r || nullE rs
end
def orL (a b : List Bool) : List Bool := List.zipWith (fun x y => x || y) a b
def newL (out l : List Bool) : Bool := (List.zipWith (fun x y => y && !x) out l).any id
def setE (S : Nat → Bool) (w : List UInt8) (at_ : List Bool) : List Bool := false :: List.zipWith (fun a (c : UInt8) => a && S c.toNat) at_ w
def manyE (f : List Bool → List Bool) : Nat → List Bool → List Bool → List Bool
  | 0, out, _ => out
  | n + 1, out, more => if newL out more = true then manyE f n (orL out more) (f more) else orL out more
mutual
def ends (w : List UInt8) : Rx → List Bool → List Bool
  | .mk k S ps, at_ =>
    if k = 1 then setE S w at_
    else if k = 2 then endsC w ps at_
    else if k = 3 then endsA w ps at_ (List.replicate (w.length + 1) false)
    else if k = 6 then orL (orL (List.replicate (w.length + 1) false) at_) (ends1 w ps at_)
    else manyE (ends1 w ps) (w.length + 1) (if k = 4 then orL (List.replicate (w.length + 1) false) at_ else List.replicate (w.length + 1) false) (ends1 w ps at_)
def endsC (w : List UInt8) : List Rx → List Bool → List Bool
  | [], at_ => at_
  | r :: rs, at_ => endsC w rs (ends w r at_)
def endsA (w : List UInt8) : List Rx → List Bool → List Bool → List Bool
  | [], _, out => out
  | r :: rs, at_, out => endsA w rs at_ (orL out (ends w r at_))
def ends1 (w : List UInt8) : List Rx → List Bool → List Bool
  | [], at_ => at_
  | r :: _, at_ => ends w r at_
end
def isIn (r : Rx) (w : List UInt8) : Bool := decide (may r = 0) && (ends w r (true :: List.replicate w.length false)).getD w.length false
abbrev Res := Except Int (Rx × List UInt8)
def one (k : Int) (l : List Rx) : Rx := match l with | [x] => x | _ => .mk k noS l
def sgI (c : UInt8) : Option Int := if c = 42 then some 4 else if c = 43 then some 5 else if c = 63 then some 6 else none
def atomF (alt : Nat → List UInt8 → Res) (d : Nat) (s : List UInt8) : Res :=
  match s with
  | 40 :: s' => if 13 ≤ d then .error 6 else match alt (d + 1) s' with
    | .ok (x, 41 :: s'') => .ok (x, s'')
    | .ok _ => .error 2
    | .error e => .error e
  | s => match cls s with
    | some (S, n) => .ok (.mk 1 S [], s.drop n)
    | none => .error 2
def repF (alt : Nat → List UInt8 → Res) (d : Nat) (s : List UInt8) : Res :=
  match atomF alt d s with
  | .ok (x, c :: s') => match sgI c with
    | some k => .ok (.mk k noS [x], s')
    | none => .ok (x, c :: s')
  | r => r
def catL (alt : Nat → List UInt8 → Res) (d : Nat) : Nat → List Rx → List UInt8 → Except Int (List Rx × List UInt8)
  | 0, l, s => .error 0
  | n + 1, l, s => match s with
    | [] => .ok (l, s)
    | c :: _ => if c = 124 ∨ c = 41 then .ok (l, s) else match repF alt d s with
      | .ok (x, s') => catL alt d n (l ++ [x]) s'
      | .error e => .error e
def catF (alt : Nat → List UInt8 → Res) (d : Nat) (s : List UInt8) : Res :=
  match repF alt d s with
  | .ok (x, s') => match catL alt d (s'.length + 1) [x] s' with
    | .ok (l, s'') => .ok (one 2 l, s'')
    | .error e => .error e
  | .error e => .error e
def altL (alt : Nat → List UInt8 → Res) (d : Nat) : Nat → List Rx → List UInt8 → Except Int (List Rx × List UInt8)
  | 0, l, s => .error 0
  | n + 1, l, s => match s with
    | 124 :: s' => match catF alt d s' with
      | .ok (x, s'') => altL alt d n (l ++ [x]) s''
      | .error e => .error e
    | s => .ok (l, s)
def altF (alt : Nat → List UInt8 → Res) (d : Nat) (s : List UInt8) : Res :=
  match catF alt d s with
  | .ok (x, s') => match altL alt d (s'.length + 1) [x] s' with
    | .ok (l, s'') => .ok (one 3 l, s'')
    | .error e => .error e
  | .error e => .error e
def pAlt : Nat → Nat → List UInt8 → Res
  | 0 => fun _ _ => .error 6
  | n + 1 => altF (pAlt n)
def parse (s : List UInt8) : Except Int Rx :=
  match pAlt 14 0 s with
  | .ok (x, []) => if may x = 0 then .ok x else .error (may x)
  | .ok _ => .error 2
  | .error e => .error e
end Go.E.Rg
set_option linter.unusedVariables false
set_option linter.unusedSimpArgs false
set_option maxRecDepth 20000
namespace Go.E
open Go.H
attribute [local irreducible] BiN MkS ConvN LookN MapUpN CallV HC limb dbTab
/-- A law's end: true, and nothing turned. -/
def Fine (m : Mem) : Ending → Mem → Prop := fun e m' => e = .returned (.bool true) ∧ Le m m'
theorem ContP.mk {u0 u1 u2 u3 n e : Int} {K : Int → Int → Int → Int → Int → Int → Mem → Prop} {Pn : List PanicEntry → Mem → Prop} {m : Mem} (k : K u0 u1 u2 u3 n e m) :
    Cont (fun v m => UnTup v fun us0 => UnCons us0 fun w us1 => UnAgg w fun l => UnCons l fun v l => UnI v .u64 fun x0 => UnCons l fun v l => UnI v .u64 fun x1 => UnCons l fun v l => UnI v .u64 fun x2 => UnCons l fun v l => UnI v .u64 fun x3 => UnNil l (
      UnCons us1 fun w us2 => UnI w .i64 fun n => UnCons us2 fun w us3 => UnI w .i64 fun e => UnNil us3 (K x0 x1 x2 x3 n e m))) Pn
      (.returned (.tuple #[.agg #[.int .u64 u0, .int .u64 u1, .int .u64 u2, .int .u64 u3], .int .i64 n, .int .i64 e])) m := k
/-- A set in a place of its own. -/
theorem own4 {m : Mem} {t : TypeId} {u0 u1 u2 u3 : Int} {x0 x1 x2 x3 : Value} {K : Nat → Mem → Prop}
    (k : ∀ b m', Le m m' → m b = none → m' b = some (.cells #[.int .u64 u0, .int .u64 u1, .int .u64 u2, .int .u64 u3] t (0, 0)) → K b m') :
    NewC m #[x0, x1, x2, x3] t fun b m1 => St1 m1 b 0 (.int .u64 u0) fun m2 => St1 m2 b 1 (.int .u64 u1) fun m3 => St1 m3 b 2 (.int .u64 u2) fun m4 => St1 m4 b 3 (.int .u64 u3) fun m5 => K b m5 := by
  intro b hb
  refine put4 (set_same _ _ _) ?_
  rw [set_set]
  exact k b _ (Le.set hb _) hb (set_same _ _ _)
theorem Glob.of_cells {W : World} (h : ∀ r (hr : r < dbTab.length), W.cell? ⟨1, r, none⟩ = some (.int .u8 ((dbTab[r] : Nat) : Int))) : Glob (heapM W) := by
  refine CellsAt.given (a := ⟨1, 0, none⟩) fun j u hu => ?_
  rw [List.getElem?_map] at hu
  by_cases hj : j < dbTab.length
  · rw [List.getElem?_eq_getElem hj] at hu
    cases hu
    have := h j hj
    have e : (⟨1, 0, none⟩ : Addr).add j = ⟨1, j, none⟩ := by cases j with | zero => rfl | succ j => simp [Addr.add]
    rw [e]; exact this
  · rw [List.getElem?_eq_none (by omega)] at hu
    cases hu
end Go.E
set_option linter.unusedVariables false
set_option linter.unusedSimpArgs false
set_option maxRecDepth 20000
namespace Go.E
open Go.H
attribute [local irreducible] BiN MkS ConvN LookN MapUpN CallV HC limb dbTab
theorem nx_drop (l : List UInt8) (i k : Nat) : nx (l.drop i) k = nx l (i + k) := by
  unfold nx
  rw [List.getD_eq_getElem?_getD, List.getD_eq_getElem?_getD, List.getElem?_drop]
theorem nx_cons0 (x : UInt8) (l : List UInt8) : nx (x :: l) 0 = x.toNat := rfl
theorem sgn_drop (l : List UInt8) (i : Nat) : sgn l i = (sgn (l.drop i) 0).map fun p => (p.1, i + p.2) := by
  by_cases hi : l.length ≤ i
  · unfold sgn
    rw [if_pos hi, if_pos (by rw [List.length_drop]; omega)]; rfl
  · unfold sgn
    simp only [nx_drop, List.length_drop, Nat.zero_add, Nat.add_zero]
    have e0 : (l.length - i ≤ 0) ↔ (l.length ≤ i) := by omega
    have e1 : (l.length - i ≤ 1) ↔ (l.length ≤ i + 1) := by omega
    have e2 : (l.length - i ≤ 2) ↔ (l.length ≤ i + 2) := by omega
    have e3 : (l.length - i ≤ 3) ↔ (l.length ≤ i + 3) := by omega
    simp only [e0, e1, e2, e3, if_neg hi]
    split
    · split <;> simp
    · split
      · rfl
      · split
        · split <;> simp
        · split <;> simp
theorem sgn_at {l t rest : List UInt8} {i c n : Nat} (h : l.drop i = t ++ rest) (k : sgn (t ++ rest) 0 = some (c, n)) : sgn l i = some (c, i + n) := by
  rw [sgn_drop, h, k]; rfl
/-- A sign in sixteens. -/
def hx (c : Nat) : List UInt8 := [92, 120, hexd (c / 16), hexd (c % 16)]
theorem dig_hexd : ∀ k, k < 16 → dig (hexd k).toNat = k := by decide +kernel
theorem sgn_hx {c : Nat} (hc : c < 256) (rest : List UInt8) : sgn (hx c ++ rest) 0 = some (c, 4) := by
  unfold sgn hx
  have d1 := dig_hexd (c / 16) (by omega)
  have d2 := dig_hexd (c % 16) (by omega)
  have n0 : nx (([92, 120, hexd (c / 16), hexd (c % 16)] : List UInt8) ++ rest) 0 = 92 := rfl
  have n1 : nx (([92, 120, hexd (c / 16), hexd (c % 16)] : List UInt8) ++ rest) (0 + 1) = 120 := rfl
  have n2 : nx (([92, 120, hexd (c / 16), hexd (c % 16)] : List UInt8) ++ rest) (0 + 2) = (hexd (c / 16)).toNat := rfl
  have n3 : nx (([92, 120, hexd (c / 16), hexd (c % 16)] : List UInt8) ++ rest) (0 + 3) = (hexd (c % 16)).toNat := rfl
  rw [n0, n1, n2, n3, d1, d2]
  have hl : (([92, 120, hexd (c / 16), hexd (c % 16)] : List UInt8) ++ rest).length = rest.length + 4 := by simp
  rw [hl, if_neg (by omega), if_neg (by simp), if_neg (by omega), if_pos rfl, if_neg (by omega)]
  have : c / 16 * 16 + c % 16 = c := by omega
  rw [this]
theorem toNat_of {c : Nat} (hc : c < 256) : (UInt8.ofNat c).toNat = c := by simp [UInt8.toNat_ofNat']; omega
theorem isSp120 : isSp 120 = false := by decide
theorem isSp92 : isSp 92 = true := by decide
theorem sgn_sgT {c : Nat} (hc : c < 256) (rest : List UInt8) : sgn (sgT c ++ rest) 0 = some (c, (sgT c).length) := by
  unfold sgT
  by_cases h1 : c < 33 ∨ 126 < c
  · rw [if_pos h1]; exact sgn_hx hc rest
  rw [if_neg h1]
  by_cases h2 : isSp c = true
  · rw [if_pos h2]
    unfold sgn
    have n0 : nx (([92, UInt8.ofNat c] : List UInt8) ++ rest) 0 = 92 := rfl
    have n1 : nx (([92, UInt8.ofNat c] : List UInt8) ++ rest) (0 + 1) = c := toNat_of hc
    have hl : (([92, UInt8.ofNat c] : List UInt8) ++ rest).length = rest.length + 2 := by simp
    have hx : c ≠ 120 := by rintro rfl; rw [isSp120] at h2; cases h2
    rw [n0, n1, hl, if_neg (by omega), if_neg (by simp), if_neg (by omega), if_neg hx, if_pos h2]
    rfl
  · rw [if_neg h2]
    unfold sgn
    have n0 : nx (([UInt8.ofNat c] : List UInt8) ++ rest) 0 = c := toNat_of hc
    have hl : (([UInt8.ofNat c] : List UInt8) ++ rest).length = rest.length + 1 := by simp
    have hx : c ≠ 92 := by rintro rfl; rw [isSp92] at h2; exact h2 rfl
    have hn : ¬(c < 33 ∨ 126 < c ∨ isSp c = true) := by
      rintro (h | h | h)
      · exact h1 (.inl h)
      · exact h1 (.inr h)
      · exact h2 h
    rw [n0, hl, if_neg (by omega), if_pos hx, if_neg hn]
    rfl
theorem sgT_first {c : Nat} (hc : c < 256) (rest : List UInt8) : nx (sgT c ++ rest) 0 ≠ 45 ∧ nx (sgT c ++ rest) 0 ≠ 93 ∧ nx (sgT c ++ rest) 0 ≠ 94 ∧ nx (sgT c ++ rest) 0 ≠ 46 ∧ nx (sgT c ++ rest) 0 ≠ 91 := by
  unfold sgT
  split
  · rw [show nx (([92, 120, hexd (c / 16), hexd (c % 16)] : List UInt8) ++ rest) 0 = 92 from rfl]; omega
  split
  · rw [show nx (([92, UInt8.ofNat c] : List UInt8) ++ rest) 0 = 92 from rfl]; omega
  · rename_i h
    rw [show nx (([UInt8.ofNat c] : List UInt8) ++ rest) 0 = c from toNat_of hc]
    refine ⟨?_, ?_, ?_, ?_, ?_⟩ <;> (rintro rfl; exact h (by decide))
/-- A text that reads as a part, behind anything and ahead of all that is no stroke. -/
structure PT (t : List UInt8) (a b : Nat) : Prop where
  len : 1 ≤ t.length
  first : ∀ rest, nx (t ++ rest) 0 ≠ 45 ∧ nx (t ++ rest) 0 ≠ 93 ∧ nx (t ++ rest) 0 ≠ 94
  read : ∀ l i rest, l.drop i = t ++ rest → nx rest 0 ≠ 45 → prt l i = some ((a, b), i + t.length)
theorem drop_more {l t rest : List UInt8} {i : Nat} (h : l.drop i = t ++ rest) : l.drop (i + t.length) = rest := by
  rw [← List.drop_drop, h, List.drop_left]
theorem nx_rest {l t rest : List UInt8} {i : Nat} (h : l.drop i = t ++ rest) : nx l (i + t.length) = nx rest 0 := by
  rw [← drop_more h, nx_drop]; rfl
theorem PT.one {t : List UInt8} {c : Nat} (hl : 1 ≤ t.length) (hf : ∀ rest, nx (t ++ rest) 0 ≠ 45 ∧ nx (t ++ rest) 0 ≠ 93 ∧ nx (t ++ rest) 0 ≠ 94)
    (hr : ∀ rest, sgn (t ++ rest) 0 = some (c, t.length)) : PT t c c where
  len := hl
  first := hf
  read l i rest h hn := by
    unfold prt
    rw [sgn_at h (hr rest)]
    dsimp only
    rw [nx_rest h, if_pos hn]
theorem PT.two {t u : List UInt8} {a b : Nat} (hab : a ≤ b) (hl : 1 ≤ t.length) (hf : ∀ rest, nx (t ++ rest) 0 ≠ 45 ∧ nx (t ++ rest) 0 ≠ 93 ∧ nx (t ++ rest) 0 ≠ 94)
    (ht : ∀ rest, sgn (t ++ rest) 0 = some (a, t.length)) (hu : ∀ rest, sgn (u ++ rest) 0 = some (b, u.length)) : PT (t ++ ([45] ++ u)) a b where
  len := by simp; omega
  first rest := by rw [List.append_assoc]; exact hf _
  read l i rest h hn := by
    rw [List.append_assoc] at h
    unfold prt
    rw [sgn_at h (ht _)]
    dsimp only
    have h2 := drop_more h
    have n1 : nx l (i + t.length) = 45 := by rw [nx_rest h]; rfl
    rw [n1, if_neg (by simp)]
    have h3 : l.drop (i + t.length + 1) = u ++ rest := by rw [← List.drop_drop, h2]; rfl
    rw [sgn_at h3 (hu _)]
    dsimp only
    rw [if_neg (by omega)]
    simp only [List.length_append, List.length_cons, List.length_nil]
    congr 2
    omega
theorem hx_first (c : Nat) (rest : List UInt8) : nx (hx c ++ rest) 0 ≠ 45 ∧ nx (hx c ++ rest) 0 ≠ 93 ∧ nx (hx c ++ rest) 0 ≠ 94 := by
  rw [show nx (hx c ++ rest) 0 = 92 from rfl]; omega
theorem sgT_len1 (c : Nat) : 1 ≤ (sgT c).length := by unfold sgT; split <;> (try split) <;> simp
theorem PT.hx {c : Nat} (hc : c < 256) : PT (hx c) c c := .one (by unfold Go.E.hx; simp) (hx_first c) (sgn_hx hc)
theorem PT.hx2 {a b : Nat} (hab : a ≤ b) (hb : b < 256) : PT (Go.E.hx a ++ ([45] ++ Go.E.hx b)) a b := .two hab (by unfold Go.E.hx; simp) (hx_first a) (sgn_hx (by omega)) (sgn_hx hb)
theorem PT.sg {c : Nat} (hc : c < 256) : PT (sgT c) c c := .one (sgT_len1 c) (fun r => ⟨(sgT_first hc r).1, (sgT_first hc r).2.1, (sgT_first hc r).2.2.1⟩) (sgn_sgT hc)
theorem PT.sg2 {a b : Nat} (hab : a ≤ b) (hb : b < 256) : PT (sgT a ++ ([45] ++ sgT b)) a b :=
  have hc : a < 256 := by omega
  .two hab (sgT_len1 a) (fun r => ⟨(sgT_first hc r).1, (sgT_first hc r).2.1, (sgT_first hc r).2.2.1⟩) (sgn_sgT (by omega)) (sgn_sgT hb)
abbrev Tok := List UInt8 × Nat × Nat
def tokT (ts : List Tok) : List UInt8 := ts.flatMap (·.1)
def tokS (ts : List Tok) (c : Nat) : Bool := ts.any fun x => fromTo x.2.1 x.2.2 c
theorem tokT_first {ts : List Tok} (h : ∀ x ∈ ts, PT x.1 x.2.1 x.2.2) (more : List UInt8) : nx (tokT ts ++ 93 :: more) 0 ≠ 45 ∧ nx (tokT ts ++ 93 :: more) 0 ≠ 94 := by
  cases ts with
  | nil => rw [show nx (tokT [] ++ 93 :: more) 0 = 93 from rfl]; omega
  | cons x ts =>
    have := (h x (by simp)).first (tokT ts ++ 93 :: more)
    unfold tokT at this ⊢
    rw [List.flatMap_cons, List.append_assoc]
    exact ⟨this.1, this.2.2⟩
theorem tokT_len {ts : List Tok} (h : ∀ x ∈ ts, PT x.1 x.2.1 x.2.2) : ts.length ≤ (tokT ts).length := by
  induction ts with
  | nil => simp
  | cons x ts ih =>
    have := (h x (by simp)).len
    have := ih fun y hy => h y (by simp [hy])
    unfold tokT at this ⊢
    rw [List.flatMap_cons, List.length_append, List.length_cons]
    omega
theorem prts_toks {l more : List UInt8} : ∀ {ts : List Tok} {i N : Nat} {S : Nat → Bool}, (∀ x ∈ ts, PT x.1 x.2.1 x.2.2) → l.drop i = tokT ts ++ 93 :: more → ts.length < N →
    prts l N i S = some (fun c => S c || tokS ts c, i + (tokT ts).length + 1) := by
  intro ts
  induction ts with
  | nil =>
    intro i N S _ hd hN
    cases N with
    | zero => simp at hN
    | succ N =>
      unfold prts
      have : nx l i = 93 := by have := nx_rest (t := []) (i := i) hd; exact this
      rw [if_pos this]
      simp [tokS, tokT]
  | cons x ts ih =>
    intro i N S h hd hN
    cases N with
    | zero => simp at hN
    | succ N =>
      have hx := h x (by simp)
      have ht : ∀ y ∈ ts, PT y.1 y.2.1 y.2.2 := fun y hy => h y (by simp [hy])
      have hd' : l.drop i = x.1 ++ (tokT ts ++ 93 :: more) := by rw [hd]; unfold tokT; rw [List.flatMap_cons, List.append_assoc]
      have n0 : nx l i ≠ 93 := by
        have := (hx.first (tokT ts ++ 93 :: more)).2.1
        rw [← hd', nx_drop] at this; exact this
      unfold prts
      rw [if_neg n0, hx.read l i _ hd' (tokT_first ht more).1]
      dsimp only
      rw [ih ht (drop_more hd') (by simp at hN; omega)]
      congr 2
      · funext c
        unfold tokS
        rw [List.any_cons, Bool.or_assoc]
      · unfold tokT
        rw [List.flatMap_cons, List.length_append]; omega
theorem cls_toks {ts : List Tok} {more : List UInt8} (h : ∀ x ∈ ts, PT x.1 x.2.1 x.2.2) (hne : ts ≠ []) (other : Bool) :
    cls0 ((if other = true then [91, 94] else [91]) ++ (tokT ts ++ 93 :: more)) = some (fun c => if other = true then !(tokS ts c) else tokS ts c, (if other = true then 2 else 1) + (tokT ts).length + 1) := by
  obtain ⟨l, el⟩ : ∃ l, l = (if other = true then [91, 94] else [91]) ++ (tokT ts ++ 93 :: more) := ⟨_, rfl⟩
  rw [← el]
  have n0 : nx l 0 = 91 := by rw [el]; cases other <;> rfl
  have n1 : (nx l 1 = 94) = (other = true) := by
    rw [el]
    cases other
    · rw [if_neg (by simp), show nx (([91] : List UInt8) ++ (tokT ts ++ 93 :: more)) 1 = nx (tokT ts ++ 93 :: more) 0 from rfl]
      simp [(tokT_first h more).2]
    · simp; rfl
  have hlen : ts.length < l.length + 1 := by
    have := tokT_len h
    rw [el]; simp; omega
  cases ts with
  | nil => exact absurd rfl hne
  | cons x ts =>
    have hx := h x (by simp)
    have ht : ∀ y ∈ ts, PT y.1 y.2.1 y.2.2 := fun y hy => h y (by simp [hy])
    have hd' : l.drop (if other = true then 2 else 1) = x.1 ++ (tokT ts ++ 93 :: more) := by
      rw [el]
      have : tokT (x :: ts) ++ 93 :: more = x.1 ++ (tokT ts ++ 93 :: more) := by unfold tokT; rw [List.flatMap_cons, List.append_assoc]
      rw [this]
      cases other <;> rfl
    unfold cls0
    rw [if_neg (by omega), if_pos n0]
    simp only [n1]
    rw [hx.read l _ _ hd' (tokT_first ht more).1]
    dsimp only
    rw [prts_toks ht (drop_more hd') (by simp at hlen; omega)]
    dsimp only
    congr 2
    · funext c
      unfold tokS
      rw [List.any_cons]
      cases other <;> rfl
    · unfold tokT
      rw [List.flatMap_cons, List.length_append]; omega
end Go.E
set_option linter.unusedVariables false
set_option linter.unusedSimpArgs false
set_option maxRecDepth 20000
namespace Go.E
open Go.H
attribute [local irreducible] BiN MkS ConvN LookN MapUpN CallV HC limb dbTab
def tok (p : Nat × Nat) : List Tok := if p.2 = p.1 then [(sgT p.1, p.1, p.1)] else if p.2 = p.1 + 1 then [(sgT p.1, p.1, p.1), (sgT p.2, p.2, p.2)] else [(sgT p.1 ++ ([45] ++ sgT p.2), p.1, p.2)]
def runT (rs : List (Nat × Nat)) : List Tok := rs.flatMap tok
theorem tok_PT {p : Nat × Nat} (h : p.1 ≤ p.2) (hb : p.2 < 256) : ∀ x ∈ tok p, PT x.1 x.2.1 x.2.2 := by
  intro x hx
  unfold tok at hx
  split at hx
  · simp at hx; subst hx; exact PT.sg (by omega)
  split at hx
  · simp at hx
    rcases hx with rfl | rfl
    · exact PT.sg (by omega)
    · exact PT.sg hb
  · rw [List.mem_singleton] at hx; subst hx; exact PT.sg2 h hb
theorem runT_PT {rs : List (Nat × Nat)} (h : ∀ p ∈ rs, p.1 ≤ p.2 ∧ p.2 < 256) : ∀ x ∈ runT rs, PT x.1 x.2.1 x.2.2 := by
  intro x hx
  unfold runT at hx
  rw [List.mem_flatMap] at hx
  obtain ⟨p, hp, hx⟩ := hx
  exact tok_PT (h p hp).1 (h p hp).2 x hx
theorem tokT_append (a b : List Tok) : tokT (a ++ b) = tokT a ++ tokT b := by simp [tokT]
theorem tokS_append (a b : List Tok) (c : Nat) : tokS (a ++ b) c = (tokS a c || tokS b c) := by simp [tokS]
theorem tokT_tok (p : Nat × Nat) : tokT (tok p) = shT p.1 p.2 := by
  unfold tok shT
  split
  · simp [tokT]
  split
  · simp [tokT]
  · simp [tokT]
theorem tokS_tok (p : Nat × Nat) (c : Nat) (h : p.1 ≤ p.2) : tokS (tok p) c = fromTo p.1 p.2 c := by
  unfold tok
  split
  · rename_i e; rw [e]; simp [tokS]
  split
  · rename_i _ e
    simp [tokS, fromTo]
    rw [e]
    rw [Bool.eq_iff_iff]; simp; omega
  · simp [tokS]
theorem tokT_runT (rs : List (Nat × Nat)) : tokT (runT rs) = joinR rs := by
  induction rs with
  | nil => rfl
  | cons p rs ih =>
    have : runT (p :: rs) = tok p ++ runT rs := rfl
    rw [this, tokT_append, ih, tokT_tok]; rfl
theorem tokS_runT {rs : List (Nat × Nat)} (h : ∀ p ∈ rs, p.1 ≤ p.2) (c : Nat) : tokS (runT rs) c = rs.any fun p => fromTo p.1 p.2 c := by
  induction rs with
  | nil => rfl
  | cons p rs ih =>
    have : runT (p :: rs) = tok p ++ runT rs := rfl
    rw [this, tokS_append, ih fun q hq => h q (by simp [hq]), tokS_tok p c (h p (by simp)), List.any_cons]
theorem run_any (f : Nat → Bool) (c : Nat) : ∀ k, ((runL f k).any fun p => fromTo p.1 p.2 c) = (f c && decide (c < k))
  | 0 => by simp [runL]
  | k + 1 => by
    have ih := run_any f c k
    have hok := run_ok f k
    unfold runL
    split
    · rename_i hf
      have hk : (f c && decide (c < k + 1)) = ((f c && decide (c < k)) || decide (c = k)) := by
        by_cases hc : c = k
        · subst hc; simp [hf]
        · rw [Bool.eq_iff_iff]; simp [hc]; intro _; omega
      rw [hk, ← ih]
      rcases List.eq_nil_or_concat (runL f k) with h | ⟨l0, ⟨a, b⟩, h⟩
      · rw [h, runS_nil]
        simp [fromTo]
        rw [Bool.eq_iff_iff]; simp; omega
      · rw [List.concat_eq_append] at h
        rw [h] at hok ⊢
        have hab := hok (a, b) (by simp)
        rw [runS_snoc]
        split
        · rename_i e
          simp only [List.any_append, List.any_cons, List.any_nil, Bool.or_false, Bool.or_assoc]
          congr 1
          unfold fromTo
          rw [Bool.eq_iff_iff]; simp at hab ⊢; omega
        · simp only [List.any_append, List.any_cons, List.any_nil, Bool.or_false, Bool.or_assoc]
          congr 2
          unfold fromTo
          rw [Bool.eq_iff_iff]; simp; omega
    · rename_i hf
      rw [ih]
      by_cases hc : c = k
      · subst hc; simp [hf]
      · rw [Bool.eq_iff_iff]; simp; intro _; omega
theorem empty_not {S : Nat → Bool} {c : Nat} (hc : c < 256) (h : S c = true) : ¬ emptyS S = true := by
  intro he
  have := empty_all he c hc
  rw [this] at h; cases h
/-- What is shown of a set that is not empty is read as it was, whatever stands behind. -/
theorem cls_shW {f : Nat → Bool} (hf : ¬ emptyS f = true) (more : List UInt8) : ∃ f', cls (shW f ++ more) = some (f', (shW f).length) ∧ ∀ c, c < 256 → f' c = f c := by
  obtain ⟨t, ht, hft, _⟩ := empty_ex hf
  have key : ∀ f', cls0 (shW f ++ more) = some (f', (shW f).length) → (∀ c, c < 256 → f' c = f c) → ∃ f', cls (shW f ++ more) = some (f', (shW f).length) ∧ ∀ c, c < 256 → f' c = f c := by
    intro f' h1 h2
    refine ⟨f', ?_, h2⟩
    unfold cls
    rw [h1]
    dsimp only
    rw [if_neg (empty_not ht (by rw [h2 t ht]; exact hft))]
  have hany := fun c => run_any f c 256
  have hok := run_ok f 256
  have hbrk : ∀ rs, runL f 256 = rs → shW f = brk rs → ∃ f', cls (shW f ++ more) = some (f', (shW f).length) ∧ ∀ c, c < 256 → f' c = f c := by
    intro rs hrs hs
    have hnn : runT rs ≠ [] := by
      intro hn
      have h1 := hany t
      rw [hrs, ← tokS_runT (fun p hp => (hok p (hrs ▸ hp)).1), hn] at h1
      simp [tokS, hft] at h1
      omega
    have h0 := cls_toks (more := more) (runT_PT fun p hp => hok p (hrs ▸ hp)) hnn false
    simp only [Bool.false_eq_true, if_false] at h0
    refine key (fun c => tokS (runT rs) c) ?_ ?_
    · rw [hs]
      rw [tokT_runT] at h0
      unfold brk
      rw [show ([91] ++ joinR rs ++ [93]) ++ more = [91] ++ (joinR rs ++ 93 :: more) by simp, h0]
      congr 2
      simp; omega
    · intro c hc
      show tokS (runT rs) c = f c
      rw [tokS_runT (fun p hp => (hok p (hrs ▸ hp)).1), ← hrs, hany c]
      simp [hc]
  by_cases h0 : (runL f 256).length = 0
  · exfalso
    have h1 := hany t
    rw [List.length_eq_zero_iff.mp h0] at h1
    simp [hft] at h1
    omega
  by_cases hfull : fullS f = true
  · have hs : shW f = [46] := by unfold shW; rw [if_neg h0, if_pos hfull]
    refine key (fun _ => !false) ?_ ?_
    · rw [hs]
      unfold cls0
      rw [show nx (([46] : List UInt8) ++ more) 0 = 46 from rfl, if_pos rfl]
      rfl
    · intro c hc
      have := empty_all hfull c hc
      simp at this
      rw [this]; rfl
  · cases hr : runL f 256 with
    | nil => rw [hr] at h0; simp at h0
    | cons p rs =>
      cases rs with
      | cons q rs => exact hbrk _ hr (by unfold shW; rw [if_neg h0, if_neg hfull, hr])
      | nil =>
        obtain ⟨a, b⟩ := p
        have hs : shW f = if a = b then sgT a else brk [(a, b)] := by unfold shW; rw [if_neg h0, if_neg hfull, hr]
        have hab := hok (a, b) (by rw [hr]; simp)
        dsimp only at hab
        by_cases e : a = b
        · rw [if_pos e] at hs
          subst e
          refine key (fromTo a a) ?_ ?_
          · rw [hs]
            have hf := sgT_first (c := a) hab.2 more
            unfold cls0
            rw [if_neg hf.2.2.2.1, if_neg hf.2.2.2.2, sgn_sgT hab.2]
          · intro c hc
            have h1 := hany c
            rw [hr] at h1
            simp only [List.any_cons, List.any_nil, Bool.or_false] at h1
            rw [h1]; simp [hc]
        · rw [if_neg e] at hs
          exact hbrk _ hr hs
end Go.E
