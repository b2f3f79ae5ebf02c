/- Classes: the reference's Class: the loop, the whole. -/
import Derived.Test.YtpbnhcggfgegkaaDoorSR3
set_option linter.unusedVariables false
set_option linter.unusedSimpArgs false
set_option maxRecDepth 20000
namespace Go.E
open Go.H
attribute [local irreducible] BiN MkS ConvN LookN MapUpN CallV HC limb dbTab

theorem ContTI.mk {a b : Int} {K : Int → Int → Mem → Prop} {Pn : List PanicEntry → Mem → Prop} {m : Mem} (k : K a b m) :
    Cont (fun v m => UnTup v fun us0 => UnCons us0 fun w us1 => UnI w .u8 fun x0 => UnCons us1 fun w us2 => UnI w .i64 fun x1 => UnNil us2 (K x0 x1 m)) Pn (.returned (.tuple #[.int .u8 a, .int .i64 b])) m := k

/-- What the loop's end comes to. -/
def endO (l : List UInt8) (n0 : Nat) (other : Bool) (o : Option ((Nat → Bool) × Nat)) : Option ((Nat → Bool) × Nat) :=
  match o with
  | none => none
  | some (S, e) => if nx l n0 = 93 then none else if emptyS (if other = true then (fun c => !S c) else S) = true then none else some (if other = true then (fun c => !S c) else S, e)

theorem prt_out {l : List UInt8} {i : Nat} (h : l.length ≤ i) : prt l i = none := by
  unfold prt sgn
  rw [if_pos h]

theorem rloop_spec {m ms : Mem} {s : ByteArray} {b2 n0 : Nat} {other : Bool} (hs : s.size ≤ 1000) (hn0 : n0 ≤ s.size) (hm2 : m b2 = none) (hle : Le m ms) (h2 : ms b2 = some (.cells z4 T_api_Set (0, 0))) {R : Ending → Mem → Prop}
    (k : ∀ S e, endO (lst s) n0 other (prts (lst s) (s.size + 2) n0 (inB [])) = some (S, e) → ∀ m', Le m m' → R (.returned (.tuple #[setv S, .int .i64 (e : Nat), .int .i64 0])) m')
    (kp : endO (lst s) n0 other (prts (lst s) (s.size + 2) n0 (inB [])) = none → ∀ m', Le m m' → R (.returned bad3) m') :
    eyotref8_Class.l5 s b2 0 (n0 : Int) other none 0 0 R ms := by
  have hll := lst_len s
  generalize ho : prts (lst s) (s.size + 2) n0 (inB []) = o at k kp
  refine ⟨fun N x0 x2b x2o x7 x8 xa xl xc mm => x0 = s ∧ x2b = b2 ∧ x2o = 0 ∧ x8 = other ∧ ∃ (n' : Nat) (bs : List UInt8), x7 = (n' : Int) ∧ s.size + 1 < N + n' ∧ n' ≤ s.size ∧ RwB ms mm xa xl xc bs ∧ prts (lst s) N n' (inB bs) = o ∧ bs.length ≤ 256 * n' ∧ (bs = [] → n' = n0) ∧ (bs ≠ [] → nx (lst s) n0 ≠ 93), s.size + 2,
    ⟨rfl, rfl, rfl, rfl, n0, [], rfl, by omega, hn0, RwB.nil (Le.refl _), ho, by simp, fun _ => rfl, fun h => absurd rfl h⟩, ?_⟩
  rintro N x0 x2b x2o x7 x8 xa xl xc mm ⟨rfl, rfl, rfl, rfl, n', bs, rfl, hN, hn', hr, hp, hlen, hb0, hb1⟩
  obtain ⟨N, rfl⟩ : ∃ N', N = N' + 1 := ⟨N - 1, by omega⟩
  rw [prts] at hp
  have hl := hr.len
  have hbad : o = none → ∀ mm', Le ms mm' → R (.returned bad3) (mm'.set x2b (.cells z4 T_api_Set (0, 0))) := by
    intro e mm' hx
    refine kp (by rw [e]; rfl) _ ?_
    exact Chg.to_le (Chg.set mm' _ _) (hle.trans hx) (fun b e => by rw [show b = x2b from e]; exact hm2)
  unfold eyotref8_Class.l5B
  refine BrD (fun hlt => ?_) (fun hge => ?_)
  rotate_left
  · have : n' = x0.size := by omega
    have hnx : nx (lst x0) n' = 0 := nx_out (by omega)
    rw [hnx, if_neg (by omega), prt_out (by omega)] at hp
    unfold eyotref8_Class.k10
    refine BrDt (by omega) ?_
    unfold eyotref8_Class.k11
    refine Br.mk (fun _ => ?_) (fun h => by cases h)
    exact bad_out (hr.le _ _ h2) (hbad hp.symm mm hr.le)
  refine ⟨by omega, by omega, ?_⟩
  rw [bt_at (by omega)]
  refine BrN (fun h93 => ?_) (fun h93 => ?_)
  rotate_left
  · rw [if_pos (by omega)] at hp
    unfold eyotref8_Class.k10
    refine BrDf (by omega) ?_
    by_cases hbs : bs = []
    · subst hbs
      have h0 : xl = 0 := by simpa using hl.symm
      subst h0
      unfold eyotref8_Class.k11
      refine Br.mk (fun _ => ?_) (fun h => by cases h)
      refine bad_out (hr.le _ _ h2) ?_
      refine kp ?_ _ (Chg.to_le (Chg.set mm _ _) (hle.trans hr.le) (fun b e => by rw [show b = x2b from e]; exact hm2))
      rw [← hp]
      unfold endO
      rw [← hb0 rfl]
      dsimp only
      rw [if_pos (by omega)]
    · have hx : (((xl : Nat) : Int) == 0) = false := by
        have : bs.length ≠ 0 := fun e => hbs (List.length_eq_zero_iff.mp e)
        rw [beq_eq_false_iff_ne]; omega
      rw [hx]
      refine k11_spec (n := n') (by omega) hm2 (hle.trans hr.le) (hr.le _ _ h2) hr.own.cells hl (by omega) (fun he m' hx => ?_) (fun he m' hx => ?_)
      · refine k _ (n' + 1) ?_ m' hx
        rw [← hp]; unfold endO; dsimp only
        rw [if_neg (hb1 hbs), if_neg (by rw [he]; simp)]
      · refine kp ?_ m' hx
        rw [← hp]; unfold endO; dsimp only
        rw [if_neg (hb1 hbs), if_pos he]
  rw [if_neg (by omega)] at hp
  unfold prt at hp
  refine rsign_spec (by omega) (by omega) (fun a n hsg => ?_) (fun hsg => ?_)
  rotate_left
  · refine ContTI.mk ?_
    rw [hsg] at hp
    refine BrDt (by omega) ?_
    exact bad_out (hr.le _ _ h2) (hbad hp.symm mm hr.le)
  refine ContTI.mk ?_
  rw [hsg] at hp
  dsimp only at hp
  obtain ⟨ha, hin, hnl⟩ := sgn_lt hsg
  refine BrDf (by omega) ?_
  -- behind a part
  have next : ∀ (b n2 : Nat) (mm' : Mem), RwB ms mm' xa xl xc bs → a ≤ b → b < 256 → n' < n2 → n2 ≤ x0.size → prts (lst x0) N n2 (fun c => inB bs c || fromTo a b c) = o →
      eyotref8_Class.k8 (fun x0_1 x2b_1 x2o x7 x8_1 xa xl xc m => ∃ N1, N1 < N + 1 ∧ (fun N y0 y2b y2o x7 y8 xa xl xc mm => y0 = x0 ∧ y2b = x2b ∧ y2o = 0 ∧ y8 = x8 ∧ ∃ (n' : Nat) (bs : List UInt8), x7 = (n' : Int) ∧ x0.size + 1 < N + n' ∧ n' ≤ x0.size ∧ RwB ms mm xa xl xc bs ∧ prts (lst x0) N n' (inB bs) = o ∧ bs.length ≤ 256 * n' ∧ (bs = [] → n' = n0) ∧ (bs ≠ [] → nx (lst x0) n0 ≠ 93)) N1 x0_1 x2b_1 x2o x7 x8_1 xa xl xc m)
        x0 x2b 0 x8 xa xl xc (a : Int) (n2 : Int) (b : Int) R mm' := by
    intro b n2 mm' hr' hab hb hn2 hn2l hp'
    unfold eyotref8_Class.k8
    rw [wi (n := (a : Int)) (by omega) (by omega)]
    refine l9_spec hr' hab hb (by omega) ?_
    intro la' ll' lc' m' hr2
    refine ⟨N, by omega, rfl, rfl, rfl, rfl, n2, _, rfl, by omega, hn2l, hr2, by rw [inB_append hab hb]; exact hp', ?_, fun e => ?_, fun _ => ?_⟩
    · rw [List.length_append, rng_len]; omega
    · have := congrArg List.length e
      rw [List.length_append, rng_len] at this
      simp at this; omega
    · by_cases hbs : bs = []
      · rw [← hb0 hbs]; omega
      · exact hb1 hbs
  have six : ∀ t : Bool, t = decide (nx (lst x0) n = 45) →
      eyotref8_Class.k6 (fun x0_1 x2b_1 x2o x7 x8_1 xa xl xc m => ∃ N1, N1 < N + 1 ∧ (fun N y0 y2b y2o x7 y8 xa xl xc mm => y0 = x0 ∧ y2b = x2b ∧ y2o = 0 ∧ y8 = x8 ∧ ∃ (n' : Nat) (bs : List UInt8), x7 = (n' : Int) ∧ x0.size + 1 < N + n' ∧ n' ≤ x0.size ∧ RwB ms mm xa xl xc bs ∧ prts (lst x0) N n' (inB bs) = o ∧ bs.length ≤ 256 * n' ∧ (bs = [] → n' = n0) ∧ (bs ≠ [] → nx (lst x0) n0 ≠ 93)) N1 x0_1 x2b_1 x2o x7 x8_1 xa xl xc m)
        x0 x2b 0 x8 xa xl xc (a : Int) (n : Int) (a : Int) t R mm := by
    intro t ht
    subst ht
    unfold eyotref8_Class.k6
    refine BrD (fun h45 => ?_) (fun h45 => ?_)
    · rw [if_neg (by omega)] at hp
      have hn : n < x0.size := by
        apply Decidable.byContradiction
        intro h
        rw [nx_out (by omega)] at h45; cases h45
      rw [wi (n := (n : Int) + 1) (by omega) (by omega)]
      refine rsign_spec (i := n + 1) (by omega) (by omega) (fun b n2 hsg2 => ?_) (fun hsg2 => ?_)
      · rw [hsg2] at hp
        dsimp only at hp
        obtain ⟨hb, hin2, hn2l⟩ := sgn_lt hsg2
        refine ContTI.mk ?_
        refine BrDf (by omega) ?_
        unfold eyotref8_Class.k7
        refine BrD (fun hlt => ?_) (fun hge => ?_)
        · rw [if_pos (by omega)] at hp
          exact bad_out (hr.le _ _ h2) (hbad hp.symm mm hr.le)
        · rw [if_neg (by omega)] at hp
          exact next b n2 mm hr (by omega) hb (by omega) (by omega) hp
      · rw [hsg2] at hp
        refine ContTI.mk ?_
        refine BrDt (by omega) ?_
        unfold eyotref8_Class.k7
        refine Br.mk (fun _ => bad_out (hr.le _ _ h2) (hbad hp.symm mm hr.le)) (fun h => by cases h)
    · rw [if_pos h45] at hp
      exact next a n mm hr (Nat.le_refl _) ha hin (by omega) hp
  refine BrD (fun hlt2 => ?_) (fun hge2 => ?_)
  · refine ⟨by omega, by omega, ?_⟩
    rw [bt_at (by omega)]
    refine six _ ?_
    rw [Bool.eq_iff_iff]; simp only [beq_iff_eq, decide_eq_true_eq]; omega
  · refine six _ ?_
    rw [nx_out (by omega)]; rfl
theorem prt_93 {l : List UInt8} {i : Nat} (h : nx l i = 93) : prt l i = none := by
  have : sgn l i = none := by
    unfold sgn
    rw [h]
    split
    · rfl
    · simp [isSp, special]
  unfold prt; rw [this]
theorem cls_bracket {l : List UInt8} (h : nx l 0 = 91) : cls l = endO l (if nx l 1 = 94 then 2 else 1) (decide (nx l 1 = 94)) (prts l (l.length + 2) (if nx l 1 = 94 then 2 else 1) (inB [])) := by
  generalize hn : (if nx l 1 = 94 then 2 else 1) = n0
  unfold cls cls0
  rw [if_neg (by omega), if_pos h, hn]
  have e0 : prts l (l.length + 2) n0 (inB []) = if nx l n0 = 93 then some (inB [], n0 + 1) else match prt l n0 with
      | none => none
      | some ((a, b), n) => prts l (l.length + 1) n fun c => inB [] c || fromTo a b c := rfl
  rw [e0]
  by_cases h93 : nx l n0 = 93
  · rw [prt_93 h93, if_pos h93]
    unfold endO
    simp [h93]
  · rw [if_neg h93]
    cases hp : prt l n0 with
    | none => rfl
    | some x =>
      obtain ⟨⟨a, b⟩, n⟩ := x
      dsimp only
      have ef : (fun c => inB [] c || fromTo a b c) = fromTo a b := by funext c; simp [inB]
      rw [ef]
      cases hq : prts l (l.length + 1) n (fromTo a b) with
      | none => rfl
      | some y =>
        obtain ⟨S, e⟩ := y
        unfold endO
        simp only [h93, if_false, decide_eq_true_eq]

theorem RClass_spec {s : ByteArray} {m : Mem} (hs : s.size ≤ 1000) {R : Ending → Mem → Prop}
    (k : ∀ S e, cls (lst s) = some (S, e) → ∀ m', Le m m' → R (.returned (.tuple #[setv S, .int .i64 (e : Nat), .int .i64 0])) m')
    (kp : cls (lst s) = none → ∀ m', Le m m' → R (.returned bad3) m') :
    HC P eyotref8_Class.id #[.string s] m R := by
  have hll := lst_len s
  refine eyotref8_Class.ok _ _ _ ?_
  intro b2 hb2
  have hle0 := Le.set hb2 (.cells z4 T_api_Set (0, 0))
  have e2 : (m.set b2 (.cells z4 T_api_Set (0, 0))) b2 = some (.cells z4 T_api_Set (0, 0)) := set_same _ _ _
  generalize (m.set b2 (.cells z4 T_api_Set (0, 0))) = ms at hle0 e2
  have fin : ∀ mm c, Le ms mm → Le m (mm.set b2 (.cells c T_api_Set (0, 0))) := fun mm c h => Chg.to_le (Chg.set mm b2 _) (hle0.trans h) (fun b e => by rw [show b = b2 from e]; exact hb2)
  have hk3 : ∀ t, t = decide (nx (lst s) 0 ≠ 91) → nx (lst s) 0 ≠ 46 → eyotref8_Class.k3 s b2 0 t R ms := by
    intro t ht h46
    subst ht
    unfold eyotref8_Class.k3
    refine BrD (fun h91 => ?_) (fun h91 => ?_)
    · unfold cls cls0 at k kp
      rw [if_neg h46, if_neg h91] at k kp
      refine rsign_spec (i := 0) (by omega) (by omega) (fun c n hsg => ?_) (fun hsg => ?_)
      rotate_left
      · refine ContTI.mk ?_
        refine BrDt (by omega) ?_
        rw [hsg] at kp
        exact bad_out e2 (kp rfl _ (fin _ _ (Le.refl _)))
      rw [hsg] at k
      dsimp only at k
      obtain ⟨hc, hin, hnl⟩ := sgn_lt hsg
      refine ContTI.mk ?_
      refine BrDf (by omega) ?_
      intro b42 hb42
      have hch : inB [UInt8.ofNat c] = fromTo c c := by
        funext x
        have hu : (UInt8.ofNat c).toNat = c := by rw [UInt8.toNat_ofNat']; omega
        unfold inB fromTo
        rw [List.any_cons, List.any_nil, hu, Bool.eq_iff_iff]
        simp only [Bool.or_false, beq_iff_eq, Bool.and_eq_true, decide_eq_true_eq]
        omega
      refine ROf_spec (bs := [UInt8.ofNat c]) (cells_at (set_same _ _ _) (by rw [u8n hc]; rfl)) rfl (by simp) ?_
      intro m3 hle3
      refine ContSet.mk ?_
      have hle4 := (Le.set hb42 (.cells #[.int .u8 (c : Int)] T_uint8 (0, 0))).trans hle3
      refine out4 (hle4 _ _ e2) ?_
      have hem : ¬ emptyS (fromTo c c) = true := fun h => by have := empty_all h c hc; simp at this
      rw [if_neg hem] at k
      have := k _ _ rfl _ (fin m3 (cells4 (inB [UInt8.ofNat c])) hle4)
      rw [← hch] at this
      exact this
    · have h91 : nx (lst s) 0 = 91 := by simpa using h91
      rw [cls_bracket h91, hll] at k kp
      have hsz : 0 < s.size := by
        apply Decidable.byContradiction
        intro h
        rw [nx_out (by omega)] at h91; cases h91
      refine BrD (fun h1 => ?_) (fun h1 => ?_)
      · refine ⟨by omega, by omega, ?_⟩
        have hb := bt_at (s := s) (i := 1) (by omega)
        rw [show ((1 : Nat) : Int) = 1 from rfl] at hb
        rw [hb]
        refine BrE (fun h94 => ?_) (fun h94 => ?_)
        · have h94 : nx (lst s) 1 = 94 := by omega
          simp only [h94, if_true, decide_true] at k kp
          exact rloop_spec (n0 := 2) hs (by omega) hb2 hle0 e2 k kp
        · have h94 : ¬ nx (lst s) 1 = 94 := by omega
          simp only [h94, if_false, decide_false] at k kp
          exact rloop_spec (n0 := 1) hs (by omega) hb2 hle0 e2 k kp
      · have h94 : ¬ nx (lst s) 1 = 94 := by rw [nx_out (by omega)]; omega
        simp only [h94, if_false, decide_false] at k kp
        exact rloop_spec (n0 := 1) hs (by omega) hb2 hle0 e2 k kp
  have hk1 : ∀ t, t = decide (nx (lst s) 0 = 46) → eyotref8_Class.k1 s b2 0 t R ms := by
    intro t ht
    subst ht
    unfold eyotref8_Class.k1
    refine BrD (fun h46 => ?_) (fun h46 => ?_)
    · unfold cls cls0 at k
      rw [if_pos h46] at k
      dsimp only at k
      have hz : (.agg #[.int .u64 0, .int .u64 0, .int .u64 0, .int .u64 0] : Value) = setv fun _ => false := by
        unfold setv; rw [L_zero, L_zero, L_zero, L_zero]
      rw [hz]
      refine RNot_spec ?_
      intro m1 hle1
      refine ContSet.mk ?_
      refine out4 (hle1 _ _ e2) ?_
      have hem : ¬ emptyS (fun _ => !false) = true := fun h => by have := empty_all h 0 (by omega); simp at this
      rw [if_neg hem] at k
      exact k _ _ rfl _ (fin m1 _ hle1)
    · unfold eyotref8_Class.k2
      refine BrE (fun h0 => ?_) (fun h0 => ?_)
      · exact hk3 _ (by rw [nx_out (by omega)]; rfl) h46
      · refine ⟨by omega, by omega, ?_⟩
        have hb := bt_at (s := s) (i := 0) (by omega)
        rw [show ((0 : Nat) : Int) = 0 from rfl] at hb
        rw [hb]
        refine hk3 _ ?_ h46
        rw [Bool.eq_iff_iff]; simp only [bne_iff_ne, decide_eq_true_eq]; omega
  refine BrD (fun h => ?_) (fun h => ?_)
  · refine ⟨by omega, by omega, ?_⟩
    have hb := bt_at (s := s) (i := 0) (by omega)
    rw [show ((0 : Nat) : Int) = 0 from rfl] at hb
    rw [hb]
    refine hk1 _ ?_
    rw [Bool.eq_iff_iff]; simp only [beq_iff_eq, decide_eq_true_eq]; omega
  · exact hk1 _ (by rw [nx_out (by omega)]; rfl)
end Go.E
