/- Classes: the runs of a set. -/
import Derived.Test.YtpbnhcggfgegkaaDoorSH1
set_option linter.unusedVariables false
set_option linter.unusedSimpArgs false
set_option maxRecDepth 20000
namespace Go.E
open Go.H
attribute [local irreducible] BiN MkS ConvN LookN MapUpN CallV HC limb dbTab

/-- One more byte. -/
def runS (l : List (Nat × Nat)) (k : Nat) : List (Nat × Nat) :=
  match l.getLast? with
  | some (a, b) => if b + 1 = k then l.dropLast ++ [(a, k)] else l ++ [(k, k)]
  | none => [(k, k)]
def runL (f : Nat → Bool) : Nat → List (Nat × Nat)
  | 0 => []
  | k + 1 => if f k = true then runS (runL f k) k else runL f k
theorem runS_nil (k : Nat) : runS [] k = [(k, k)] := rfl
theorem runS_snoc (l : List (Nat × Nat)) (a b k : Nat) : runS (l ++ [(a, b)]) k = if b + 1 = k then l ++ [(a, k)] else (l ++ [(a, b)]) ++ [(k, k)] := by
  unfold runS
  rw [List.getLast?_append]
  simp
theorem run_len (f : Nat → Bool) : ∀ k, (runL f k).length ≤ k
  | 0 => by simp [runL]
  | k + 1 => by
    have ih := run_len f k
    unfold runL
    split
    · rcases List.eq_nil_or_concat (runL f k) with h | ⟨l0, ⟨a, b⟩, h⟩
      · rw [h, runS_nil]; simp
      · rw [h] at ih ⊢
        rw [List.concat_eq_append] at ih ⊢
        rw [runS_snoc]
        split <;> simp at ih ⊢ <;> omega
    · omega
theorem run_ok (f : Nat → Bool) : ∀ k, ∀ p ∈ runL f k, p.1 ≤ p.2 ∧ p.2 < k
  | 0 => by simp [runL]
  | k + 1 => by
    have ih := run_ok f k
    intro p hp
    unfold runL at hp
    split at hp
    · rcases List.eq_nil_or_concat (runL f k) with h | ⟨l0, ⟨a, b⟩, h⟩
      · rw [h, runS_nil] at hp
        simp at hp; subst hp; simp
      · rw [List.concat_eq_append] at h
        rw [h] at hp ih
        rw [runS_snoc] at hp
        have hab := ih (a, b) (by simp)
        split at hp
        · rcases List.mem_append.mp hp with h1 | h1
          · have := ih p (by simp [h1]); omega
          · simp at h1; subst h1; simp; simp at hab; omega
        · rcases List.mem_append.mp hp with h1 | h1
          · have := ih p h1; omega
          · simp at h1; subst h1; simp
    · have := ih p hp; omega

def rv (p : Nat × Nat) : List Value := [.int .u8 (p.1 : Int), .int .u8 (p.2 : Int)]
theorem rv_len (p : Nat × Nat) : (rv p).length = 2 := rfl
theorem eA2 : ElemOK P T_sl_arr2_uint8 T_arr2_uint8 (.agg #[.int .u8 0, .int .u8 0]) 2 2 := .of (by kernel_rfl) (by kernel_rfl) rfl
/-- A row of runs under way, new over ms. -/
structure RwR (ms mm : Mem) (a : Option Addr) (l c : Nat) (rs : List (Nat × Nat)) : Prop where
  le : Le ms mm
  own : Own mm T_arr2_uint8 2 a l c (rs.flatMap rv)
  fr : Fresh ms a
theorem RwR.len {ms mm : Mem} {a : Option Addr} {l c : Nat} {rs : List (Nat × Nat)} (h : RwR ms mm a l c rs) : rs.length = l := by
  have := h.own.1
  rw [rows_len rv_len] at this
  omega

theorem runs_spec {f : Nat → Bool} {m : Mem} {R : Ending → Mem → Prop} (h : ∀ m' a l c, RwR m m' a l c (runL f 256) → R (.returned (.slice a l c)) m') : HC P class_runs.id #[setv f] m R := by
  refine class_runs.ok _ _ _ _ _ _ ?_
  intro ba hba
  have hle0 := Le.set hba (.cells (cells4 f) T_api_Set (0, 0))
  have ea : (m.set ba (.cells (cells4 f) T_api_Set (0, 0))) ba = some (.cells (cells4 f) T_api_Set (0, 0)) := set_same _ _ _
  generalize (m.set ba (.cells (cells4 f) T_api_Set (0, 0))) = ms at hle0 ea
  refine ⟨fun N a1b a1o la ll lc i mm => a1b = ba ∧ a1o = 0 ∧ ∃ k : Nat, i = k ∧ N = 256 - k ∧ k ≤ 256 ∧ RwR ms mm la ll lc (runL f k), 256, ⟨rfl, rfl, 0, rfl, rfl, by omega, ⟨Le.refl _, Own.nil _ _ _, Fresh.none _⟩⟩, ?_⟩
  rintro N a1b a1o la ll lc i mm ⟨rfl, rfl, k, rfl, rfl, hk, hr⟩
  have hl := hr.len
  have hl2 := run_len f k
  refine BrD (fun hlt => ?_) (fun hge => ?_)
  rotate_left
  · have : k = 256 := by omega
    subst this
    exact h _ _ _ _ ⟨hle0.trans hr.le, hr.own, Fresh.le hle0 hr.fr⟩
  refine get4 (hr.le _ _ ea) ?_
  rw [u8w (by omega)]
  refine Has_spec (by omega) ?_
  intro m1 hle1
  have hr1 : RwR ms m1 la ll lc (runL f k) := ⟨hr.le.trans hle1, Own.le hle1 hr.own, hr.fr⟩
  dsimp only [Cont]
  refine UnB.mk ?_
  have w : IntKind.i64.wrap ((k : Int) + 1) = ((k + 1 : Nat) : Int) := by rw [wi (by omega) (by omega)]; omega
  refine Br.mk (fun hb => ?_) (fun hb => ?_)
  · have hb : f k = false := by simpa using hb
    refine ⟨_, ?_, rfl, rfl, k + 1, w, rfl, by omega, by unfold runL; rw [if_neg (by rw [hb]; simp)]; exact hr1⟩
    omega
  have hb : f k = true := by simpa using hb
  have wl : IntKind.i64.wrap (((ll : Nat) : Int) - 1) = (ll : Int) - 1 := wi (by omega) (by omega)
  rw [wl]
  -- a new run
  have fresh : runL f (k + 1) = runL f k ++ [(k, k)] → class_runs.k2 (fun s_1b s_1o xa xl xc x6 m => ∃ N1, N1 < 256 - k ∧ (fun N b1 b1o la ll lc i mm => b1 = a1b ∧ b1o = 0 ∧ ∃ k : Nat, i = (k : Int) ∧ N = 256 - k ∧ k ≤ 256 ∧ RwR ms mm la ll lc (runL f k)) N1 s_1b s_1o xa xl xc x6 m)
      a1b 0 la ll lc (k : Int) ((ll : Int) - 1) (k : Int) false R m1 := by
    intro hrun
    unfold class_runs.k2
    refine Br.mk (fun h => by cases h) (fun _ => ?_)
    rw [u8w (k := k) (by omega)]
    refine push_row eA2 (by omega) hr1.own rfl (by intro v hv; simp at hv; rcases hv with rfl | rfl <;> rfl) (by omega) (by omega) ?_
    intro a' c' m' hch ho hbk
    refine UnS.mk ?_
    refine ⟨256 - (k + 1), by omega, rfl, rfl, k + 1, w, rfl, by omega, ?_⟩
    refine ⟨hch.to_le hr1.le (fun b e => hr1.fr b e), ?_, ?_⟩
    · rw [hrun, List.flatMap_append]
      exact ho
    · rcases hbk with e | e
      · intro b eb; exact hr1.fr b (e ▸ eb)
      · exact Fresh.le hr1.le e
  have grow : ∀ l0 a b, runL f k = l0 ++ [(a, b)] → runL f (k + 1) = l0 ++ [(a, k)] → class_runs.k2 (fun s_1b s_1o xa xl xc x6 m => ∃ N1, N1 < 256 - k ∧ (fun N b1 b1o la ll lc i mm => b1 = a1b ∧ b1o = 0 ∧ ∃ k : Nat, i = (k : Int) ∧ N = 256 - k ∧ k ≤ 256 ∧ RwR ms mm la ll lc (runL f k)) N1 s_1b s_1o xa xl xc x6 m)
      a1b 0 la ll lc (k : Int) ((ll : Int) - 1) (k : Int) true R m1 := by
    intro l0 a b h1 h2
    have hll : ll = l0.length + 1 := by rw [← hl, h1]; simp
    unfold class_runs.k2
    refine Br.mk (fun _ => ?_) (fun h => by cases h)
    rw [u8w (k := k) (by omega)]
    have : IxS la ll ((ll : Int) - 1) 2 (fun b o => St1 m1 b (o + 1) (.int .u8 (k : Int)) fun m1 => ∃ N1, N1 < 256 - k ∧ (fun N b1 b1o la ll lc i mm => b1 = a1b ∧ b1o = 0 ∧ ∃ k : Nat, i = (k : Int) ∧ N = 256 - k ∧ k ≤ 256 ∧ RwR ms mm la ll lc (runL f k)) N1 a1b 0 la ll lc (IntKind.i64.wrap ((k : Int) + 1)) m1) := by
      refine hr1.own.stN (by omega) (by omega) (by omega) rfl ?_
      intro m' hch ho
      refine ⟨256 - (k + 1), by omega, rfl, rfl, k + 1, w, rfl, by omega, hch.to_le hr1.le (fun b e => hr1.fr b e), ?_, hr1.fr⟩
      have e : ((ll : Int) - 1).toNat = l0.length := by omega
      rw [e, h1, List.flatMap_append] at ho
      rw [h2, List.flatMap_append]
      have hln : (l0.flatMap rv).length = l0.length * 2 := rows_len rv_len l0
      rw [List.set_append, if_neg (by omega)] at ho
      rw [show l0.length * 2 + 1 - (l0.flatMap rv).length = 1 by omega] at ho
      exact ho
    obtain ⟨t0, t1, t2⟩ := this
    refine ⟨t0, t1, ?_⟩
    revert t2
    cases la with
    | none => exact fun h => h
    | some ad =>
      obtain ⟨bb, oo, ee⟩ := ad
      cases ee with
      | none => exact fun h => ⟨by omega, by omega, h⟩
      | some _ => exact fun h => h
  rcases List.eq_nil_or_concat (runL f k) with hnil | ⟨l0, ⟨a, b⟩, hcon⟩
  · refine BrDf (by rw [hnil] at hl; simp at hl; omega) ?_
    exact fresh (by rw [runL, if_pos hb, hnil, runS_nil]; rfl)
  · rw [List.concat_eq_append] at hcon
    have hll : ll = l0.length + 1 := by rw [← hl, hcon]; simp
    refine BrDt (by omega) ?_
    have hab := run_ok f k (a, b) (by rw [hcon]; simp)
    simp only at hab
    refine IxS.rows rv_len (by omega) hr1.own.cells hl (by omega) (by omega) ?_
    intro bb oo x hx hcell
    have e : ((ll : Int) - 1).toNat = l0.length := by omega
    rw [e, hcon, List.getElem?_append_right (Nat.le_refl _)] at hx
    simp at hx
    subst hx
    refine ⟨by omega, by omega, ?_⟩
    refine LdV.mk (v := .int .u8 (b : Int)) (hcell 1 _ rfl) ?_
    refine UnI.mk ?_
    rw [wi (n := (b : Int)) (by omega) (by omega), wi (n := (k : Int) - 1) (by omega) (by omega)]
    have hrun : runL f (k + 1) = if b + 1 = k then l0 ++ [(a, k)] else (l0 ++ [(a, b)]) ++ [(k, k)] := by
      rw [runL, if_pos hb, hcon, runS_snoc]
    cases hd : (((b : Int)) == ((k : Int) - 1)) with
    | true =>
      have hd := beq_iff_eq.mp hd
      rw [if_pos (by omega)] at hrun
      exact grow l0 a b hcon hrun
    | false =>
      have hd := beq_eq_false_iff_ne.mp hd
      rw [if_neg (by omega), ← hcon] at hrun
      exact fresh hrun
end Go.E
