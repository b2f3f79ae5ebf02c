/- Classes: the reference's Class. -/
import Derived.Test.YtpbnhcggfgegkaaDoorSR2
set_option linter.unusedVariables false
set_option linter.unusedSimpArgs false
set_option maxRecDepth 20000
namespace Go.E
open Go.H
attribute [local irreducible] BiN MkS ConvN LookN MapUpN CallV HC limb dbTab

theorem inB_append {bs : List UInt8} {a b : Nat} (hab : a ≤ b) (hb : b < 256) : inB (bs ++ rng a (b + 1 - a)) = fun c => inB bs c || fromTo a b c := by
  funext c
  have h := inB_rng (a := a) (k := b + 1 - a) (by omega) c
  have e : inB (bs ++ rng a (b + 1 - a)) c = (inB bs c || inB (rng a (b + 1 - a)) c) := by unfold inB; rw [List.any_append]
  rw [e, h]
  congr 1
  rw [Bool.eq_iff_iff]
  simp only [Bool.and_eq_true, decide_eq_true_eq]
  omega

theorem l9_spec {K5 : ByteArray → Nat → Nat → Int → Bool → Option Addr → Nat → Nat → Mem → Prop} {ms mm : Mem} {s : ByteArray} {b2 : Nat} {other : Bool} {la : Option Addr} {ll lc : Nat} {bs : List UInt8} {n a b : Nat}
    (hr : RwB ms mm la ll lc bs) (hab : a ≤ b) (hb : b < 256) (hlen : bs.length ≤ 1000000) {R : Ending → Mem → Prop}
    (k : ∀ la' ll' lc' m', RwB ms m' la' ll' lc' (bs ++ rng a (b + 1 - a)) → K5 s b2 0 (n : Int) other la' ll' lc' m') :
    eyotref8_Class.l9 K5 s b2 0 other la ll lc (n : Int) (b : Int) (a : Int) R mm := by
  refine ⟨fun N x0 x2b x2o x8 xa xl xc x11 x12 x13 mm => x0 = s ∧ x2b = b2 ∧ x2o = 0 ∧ x8 = other ∧ x11 = (n : Int) ∧ x12 = (b : Int) ∧ ∃ j : Nat, x13 = ((a + j : Nat) : Int) ∧ N = 256 - j ∧ a + j ≤ b + 1 ∧ RwB ms mm xa xl xc (bs ++ rng a j), 256,
    ⟨rfl, rfl, rfl, rfl, rfl, rfl, 0, rfl, rfl, by omega, by simpa [rng] using hr⟩, ?_⟩
  clear hr
  rintro N x0 x2b x2o x8 xa xl xc x11 x12 x13 mm ⟨rfl, rfl, rfl, rfl, rfl, rfl, j, rfl, rfl, hj, hr⟩
  have hl := hr.len
  have hl2 : (bs ++ rng a j).length = bs.length + j := by rw [List.length_append, rng_len]
  unfold eyotref8_Class.l9B
  rw [wi (n := (b : Int)) (by omega) (by omega)]
  refine BrD (fun hlt => ?_) (fun hge => ?_)
  · rw [u8w (k := a + j) (by omega), u8n (k := a + j) (by omega)]
    refine hr.push _ (by omega) ?_
    intro a' c' m' hr'
    refine UnS.mk ?_
    refine ⟨_, ?_, rfl, rfl, rfl, rfl, rfl, rfl, j + 1, ?_, rfl, by omega, by rw [rng_succ, ← List.append_assoc]; exact hr'⟩
    · omega
    · rw [← u8n (k := a + j) (by omega), wi (by omega) (by omega)]; omega
  · have : j = b + 1 - a := by omega
    subst this
    exact k _ _ _ _ hr

/-- Refused. -/
abbrev bad3 : Value := .tuple #[setv fun _ => false, .int .i64 0, .int .i64 2]
theorem bad_out {mm : Mem} {b2 : Nat} {x0 x1 x2 x3 : Value} (h : mm b2 = some (.cells #[x0, x1, x2, x3] T_api_Set (0, 0))) {R : Ending → Mem → Prop} (k : R (.returned bad3) (mm.set b2 (.cells z4 T_api_Set (0, 0)))) :
    St1 mm b2 0 (.int .u64 0) fun m1 => St1 m1 b2 1 (.int .u64 0) fun m2 => St1 m2 b2 2 (.int .u64 0) fun m3 => St1 m3 b2 3 (.int .u64 0) fun m4 =>
    LdV m4 b2 0 fun v => UnI v .u64 fun x0 => LdV m4 b2 1 fun v => UnI v .u64 fun x1 => LdV m4 b2 2 fun v => UnI v .u64 fun x2 => LdV m4 b2 3 fun v => UnI v .u64 fun x3 =>
      R (.returned (.tuple #[.agg #[.int .u64 x0, .int .u64 x1, .int .u64 x2, .int .u64 x3], .int .i64 0, .int .i64 2])) m4 := by
  refine out4 h ?_
  have hz : (setv fun _ => false) = .agg z4 := by unfold setv; rw [L_zero, L_zero, L_zero, L_zero]
  unfold bad3 at k
  rw [hz] at k
  exact k

theorem k12_spec {m mm : Mem} {b2 b14 : Nat} {n : Nat} {S : Nat → Bool} (hn : n < 2 ^ 62) (hm2 : m b2 = none) (hle : Le m mm) (h2 : mm b2 = some (.cells z4 T_api_Set (0, 0))) (h14 : mm b14 = some (.cells (cells4 S) T_api_Set (0, 0))) {R : Ending → Mem → Prop}
    (k : emptyS S = false → ∀ m', Le m m' → R (.returned (.tuple #[setv S, .int .i64 ((n + 1 : Nat) : Int), .int .i64 0])) m') (kp : emptyS S = true → ∀ m', Le m m' → R (.returned bad3) m') :
    eyotref8_Class.k12 b2 0 (n : Int) b14 0 R mm := by
  unfold eyotref8_Class.k12
  refine get4 h14 ?_
  refine REmpty_spec ?_
  intro m1 hle1
  dsimp only [Cont]
  refine UnB.mk ?_
  have hch : ∀ c, Le m (m1.set b2 (.cells c T_api_Set (0, 0))) := fun c => Chg.to_le (Chg.set m1 b2 _) (hle.trans hle1) (fun b e => by rw [show b = b2 from e]; exact hm2)
  refine Br.mk (fun he => bad_out (hle1 _ _ h2) (kp he _ (hch _))) (fun he => ?_)
  refine get4 (hle1 _ _ h14) ?_
  refine out4 (hle1 _ _ h2) ?_
  rw [wi (by omega) (by omega)]
  exact k he _ (hch _)

theorem k11_spec {m mm : Mem} {b2 : Nat} {n : Nat} {other : Bool} {la : Option Addr} {ll lc : Nat} {bs : List UInt8} (hn : n < 2 ^ 62) (hm2 : m b2 = none) (hle : Le m mm) (h2 : mm b2 = some (.cells z4 T_api_Set (0, 0))) (hr : CellsAt mm la (u8s bs)) (hl : bs.length = ll) (hlen : bs.length < 2 ^ 62) {R : Ending → Mem → Prop}
    (k : emptyS (if other = true then (fun c => !inB bs c) else inB bs) = false → ∀ m', Le m m' → R (.returned (.tuple #[setv (if other = true then (fun c => !inB bs c) else inB bs), .int .i64 ((n + 1 : Nat) : Int), .int .i64 0])) m')
    (kp : emptyS (if other = true then (fun c => !inB bs c) else inB bs) = true → ∀ m', Le m m' → R (.returned bad3) m') :
    eyotref8_Class.k11 b2 0 (n : Int) other la ll lc false R mm := by
  unfold eyotref8_Class.k11
  refine Br.mk (fun h => by cases h) (fun _ => ?_)
  refine ROf_spec hr hl hlen ?_
  intro m1 hle1
  refine ContSet.mk ?_
  intro b14 hb14
  have h2' := hle1 _ _ h2
  have hne : b14 ≠ b2 := fun e => by subst e; rw [h2'] at hb14; cases hb14
  refine put4 (set_same _ _ _) ?_
  rw [set_set]
  have hle2 : Le m1 (m1.set b14 (.cells (cells4 (inB bs)) T_api_Set (0, 0))) := Le.set hb14 _
  cases other with
  | true =>
    simp only [if_true] at k kp
    refine Br.mk (fun _ => ?_) (fun h => by cases h)
    refine get4 (set_same _ _ _) ?_
    refine RNot_spec ?_
    intro m3 hle3
    refine ContSet.mk ?_
    have h14 := hle3 _ _ (set_same m1 b14 (.cells (cells4 (inB bs)) T_api_Set (0, 0)))
    refine put4 h14 ?_
    have hm14 : m b14 = none := (hle.trans hle1).new hb14
    refine k12_spec (S := fun c => !inB bs c) hn hm2 (Chg.to_le (Chg.set m3 b14 _) (((hle.trans hle1).trans hle2).trans hle3) (fun b e => by rw [show b = b14 from e]; exact hm14)) ?_ (set_same _ _ _) k kp
    rw [set_other _ _ hne.symm]
    exact hle3 _ _ (hle2 _ _ h2')
  | false =>
    simp only [Bool.false_eq_true, if_false] at k kp
    refine Br.mk (fun h => by cases h) (fun _ => ?_)
    exact k12_spec (S := inB bs) hn hm2 ((hle.trans hle1).trans hle2) (hle2 _ _ h2') (set_same _ _ _) k kp
end Go.E
