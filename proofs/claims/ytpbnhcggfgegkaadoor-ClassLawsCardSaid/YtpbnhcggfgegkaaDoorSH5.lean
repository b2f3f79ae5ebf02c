/- Classes: the reference's ShowClass writes what Show writes. -/
import Derived.Test.YtpbnhcggfgegkaaDoorSH4
set_option linter.unusedVariables false
set_option linter.unusedSimpArgs false
set_option maxRecDepth 20000
namespace Go.E
open Go.H
attribute [local irreducible] BiN MkS ConvN LookN MapUpN CallV HC limb dbTab

abbrev catB (rs : List (Nat × Nat)) : List UInt8 := (cat rs).map UInt8.ofNat
theorem el {m : Mem} {a : Option Addr} {l : Nat} {rs : List (Nat × Nat)} (hc : CellsAt m a (u8s (catB rs))) (hl : (cat rs).length = l) {i : Int} {n v : Nat} (hi : i = (n : Int)) (hn : (cat rs)[n]? = some v) (hv : v < 256) {K : Value → Prop}
    (k : K (.int .u8 (v : Int))) : IxS a l i 1 (fun b o => LdV m b o K) := by
  subst hi
  have hlt : n < (cat rs).length := by
    apply Decidable.byContradiction
    intro h
    rw [List.getElem?_eq_none (by omega)] at hn; cases hn
  refine IxS.u8s hc (by rw [List.length_map]; exact hl) (by omega) (by omega) ?_
  intro x hx
  rw [Int.toNat_natCast, List.getElem?_map, hn] at hx
  cases hx
  rw [toNat_of hv]; exact k

section
variable {f : Nat → Bool} {m mm : Mem} {a : Option Addr} {l c : Nat} {rs r1 r2 : List (Nat × Nat)} {R : Ending → Mem → Prop} {K1 : Option Addr → Nat → Nat → ByteArray → Int → Mem → Prop}
theorem k4_show {x y o t : Nat} {w : List UInt8} (hxy : x ≤ y) (hy : y < 256) (ht : t = y - x) (ho : o + t < 1000) (hw : w.length ≤ 100000) (hc : CellsAt mm a (u8s (catB rs))) (hl : (cat rs).length = l) (hn : (cat rs)[o + t]? = some y)
    (k : ∀ m', Le mm m' → K1 a l c (bstr (w ++ if y = x then [] else sgT y)) ((o + t + 1 : Nat) : Int) m') : eyotref8_ShowClass.k4 K1 a l c (bstr w) (o : Int) ((o + t : Nat) : Int) R mm := by
  unfold eyotref8_ShowClass.k4
  have hwr : IntKind.i64.wrap (((o + t : Nat) : Int) + 1) = ((o + t + 1 : Nat) : Int) := by rw [wi (by omega) (by omega)]; omega
  rw [hwr]
  refine BrD (fun h => ?_) (fun h => ?_)
  · rw [if_neg (by omega)] at k
    refine el hc hl rfl hn hy ?_
    refine UnI.mk ?_
    refine rshown_spec hy ?_
    intro m1 hle1
    dsimp only [Cont]
    have := sgT_len y
    refine UnStr.mk (CatB_bs (by omega) ?_)
    rw [bstr_append]
    exact k _ hle1
  · rw [if_pos (by omega), List.append_nil] at k
    exact k _ (Le.refl _)
theorem k3_show {x y o t : Nat} {w : List UInt8} (hxy : x ≤ y) (hy : y < 256) (ht : t = y - x) (ho : o + t < 1000) (hw : w.length ≤ 10000) (hc : CellsAt mm a (u8s (catB rs))) (hl : (cat rs).length = l) (hn : (cat rs)[o + t]? = some y) (h0 : (cat rs)[o]? = some x)
    (k : ∀ m', Le mm m' → K1 a l c (bstr (w ++ shT x y)) ((o + t + 1 : Nat) : Int) m') : eyotref8_ShowClass.k3 K1 a l c (bstr w) (o : Int) ((o + t : Nat) : Int) R mm := by
  unfold eyotref8_ShowClass.k3
  refine el hc hl rfl h0 (by omega) ?_
  refine UnI.mk ?_
  refine rshown_spec (by omega) ?_
  intro m1 hle1
  dsimp only [Cont]
  have hsx := sgT_len x
  refine UnStr.mk (CatB_bs (by omega) ?_)
  have hwr : IntKind.i64.wrap ((o : Int) + 1) = ((o + 1 : Nat) : Int) := by rw [wi (by omega) (by omega)]; omega
  rw [hwr, bstr_append]
  unfold shT at k
  refine BrD (fun h => ?_) (fun h => ?_)
  · rw [if_neg (by omega), if_neg (by omega)] at k
    have e : bstr (w ++ sgT x) ++ ByteArray.mk #[45] = bstr (w ++ sgT x ++ [45]) := bstr_append _ [45]
    rw [e]
    refine ⟨by rw [bstr_size, List.length_append]; show _ + 1 ≤ _; omega, ?_⟩
    refine k4_show hxy hy ht ho (by simp; omega) (hc.le hle1) hl hn ?_
    intro m2 hle2
    rw [if_neg (by omega)]
    have := k m2 (hle1.trans hle2)
    simpa [List.append_assoc] using this
  · refine k4_show hxy hy ht ho (by simp; omega) (hc.le hle1) hl hn ?_
    intro m2 hle2
    have := k m2 (hle1.trans hle2)
    by_cases e : y = x
    · rw [if_pos e] at this ⊢
      simpa using this
    · rw [if_neg e, if_pos (by omega)] at this
      rw [if_neg e]
      simpa [List.append_assoc] using this
theorem l1_show (hrs : rs = runL f 256) (hle : Le m mm) (hc : CellsAt mm a (u8s (catB rs))) (hl : (cat rs).length = l) (hl2 : l ≤ 256)
    (k : ∀ m', Le m m' → R (.returned (.string (bstr (brk rs)))) m') : eyotref8_ShowClass.l1 a l c (ByteArray.mk #[91]) 0 R mm := by
  have hok := run_ok f 256
  have hsep := run_sep f 256
  rw [← hrs] at hok hsep
  have hrl := cat_len rs fun p hp => (hok p hp).1
  refine ⟨fun N xa xl xc out i m1 => xa = a ∧ xl = l ∧ xc = c ∧ ∃ r1 r2 : List (Nat × Nat), rs = r1 ++ r2 ∧ i = ((cat r1).length : Nat) ∧ out = bstr ([91] ++ joinR r1) ∧ N = r2.length ∧ Le mm m1, rs.length, ⟨rfl, rfl, rfl, [], rs, rfl, rfl, rfl, rfl, Le.refl _⟩, ?_⟩
  rintro N xa xl xc out i m1 ⟨rfl, rfl, rfl, r1, r2, e, rfl, rfl, rfl, hle1⟩
  have hcl : (cat r1).length + (cat r2).length = xl := by rw [← hl, e, cat_append, List.length_append]
  have hr1 : r1.length ≤ 256 := by have := congrArg List.length e; rw [List.length_append] at this; omega
  have hj1 := joinR_len r1
  have hc1 := hc.le hle1
  refine BrD (fun hlt => ?_) (fun hge => ?_)
  · cases r2 with
    | nil => rw [show (cat ([] : List (Nat × Nat))).length = 0 from rfl] at hcl; omega
    | cons p r3 =>
      obtain ⟨x, y⟩ := p
      have hxy := hok (x, y) (by rw [e]; simp)
      dsimp only at hxy
      have hat : ∀ t, t < y + 1 - x → (cat rs)[(cat r1).length + t]? = some (x + t) := fun t ht => by rw [e]; exact cat_in ht
      have hcx : (cat r1).length + (y + 1 - x) + (cat r3).length = xl := by
        rw [show (x, y) :: r3 = [(x, y)] ++ r3 from rfl, cat_append, cat_one] at hcl
        simp at hcl; omega
      refine ⟨fun N' ya yl yc out' i' n' m2 => ya = xa ∧ yl = xl ∧ yc = xc ∧ out' = bstr ([91] ++ joinR r1) ∧ i' = ((cat r1).length : Nat) ∧ m2 = m1 ∧ ∃ t : Nat, n' = ((cat r1).length + t : Nat) ∧ t ≤ y - x ∧ N' = y - x - t, y - x, ⟨rfl, rfl, rfl, rfl, rfl, rfl, 0, rfl, by omega, rfl⟩, ?_⟩
      rintro N' ya yl yc out' i' n' m2 ⟨rfl, rfl, rfl, rfl, rfl, rfl, t, rfl, ht, rfl⟩
      have hk3 : t = y - x → eyotref8_ShowClass.k3 (fun a0 a1 a2 a3 a4 m' => ∃ N'', N'' < ((x, y) :: r3).length ∧ (a0 = ya ∧ a1 = yl ∧ a2 = yc ∧ ∃ r1 r2 : List (Nat × Nat), rs = r1 ++ r2 ∧ a4 = ((cat r1).length : Nat) ∧ a3 = bstr ([91] ++ joinR r1) ∧ N'' = r2.length ∧ Le mm m')) ya yl yc (bstr ([91] ++ joinR r1)) ((cat r1).length : Nat) ((cat r1).length + t : Nat) R m2 := by
        intro htt
        refine k3_show hxy.1 hxy.2 htt (by omega) (by simp; omega) hc1 hl (by rw [hat t (by omega)]; congr 1; omega) (by have := hat 0 (by omega); simpa using this) ?_
        intro m3 hle3
        refine ⟨r3.length, by simp, rfl, rfl, rfl, r1 ++ [(x, y)], r3, by rw [e]; simp, ?_, ?_, rfl, hle1.trans hle3⟩
        · rw [cat_append, cat_one]; simp; omega
        · unfold joinR; simp
      refine ⟨m2, Le.refl _, ?_⟩
      have hwr : IntKind.i64.wrap ((((cat r1).length + t : Nat) : Int) + 1) = (((cat r1).length + (t + 1) : Nat) : Int) := by rw [wi (by omega) (by omega)]; omega
      rw [hwr]
      refine BrD (fun hlt2 => ?_) (fun hge2 => ?_)
      · by_cases htt : t = y - x
        · cases r3 with
          | nil => rw [show (cat ([] : List (Nat × Nat))).length = 0 from rfl] at hcx; omega
          | cons q r4 =>
            have hq := hok q (by rw [e]; simp)
            have hs : y + 1 < q.1 := by
              rw [e] at hsep
              have h1 := (List.pairwise_append.mp hsep).2.1
              have h2 := (List.pairwise_cons.mp h1).1 q (by simp)
              exact h2
            refine el hc1 hl rfl (by rw [e, show t + 1 = y + 1 - x by omega]; exact cat_next hxy.1 hq.1) (by omega) ?_
            refine UnI.mk ?_
            refine el hc1 hl rfl (hat t (by omega)) (by omega) ?_
            refine UnI.mk ?_
            refine BrEf ?_ (hk3 htt)
            rw [IntKind.wrap_u8]; omega
        · refine el hc1 hl rfl (hat (t + 1) (by omega)) (by omega) ?_
          refine UnI.mk ?_
          refine el hc1 hl rfl (hat t (by omega)) (by omega) ?_
          refine UnI.mk ?_
          refine BrEt ?_ ?_
          · rw [IntKind.wrap_u8]; omega
          · refine ⟨_, ?_, rfl, rfl, rfl, rfl, rfl, rfl, t + 1, rfl, by omega, rfl⟩
            omega
      · exact hk3 (by omega)
  · have h0 : r2 = [] := by
      cases r2 with
      | nil => rfl
      | cons p r3 =>
        have hp := hok p (by rw [e]; simp)
        rw [show p :: r3 = [p] ++ r3 from rfl, cat_append, cat_one] at hcl
        simp at hcl; omega
    subst h0
    rw [List.append_nil] at e
    rw [← e] at hj1 ⊢
    have e2 : bstr ([91] ++ joinR rs) ++ ByteArray.mk #[93] = bstr (brk rs) := bstr_append _ [93]
    rw [e2]
    refine ⟨?_, k _ (hle.trans hle1)⟩
    rw [bstr_size]
    show _ + 1 ≤ _
    simp; rw [← e] at hr1; omega
end
theorem ShowClass_spec {f : Nat → Bool} {m : Mem} {R : Ending → Mem → Prop} (k : ∀ m', Le m m' → R (.returned (.string (bstr (shW f)))) m') : HC P eyotref8_ShowClass.id #[setv f] m R := by
  refine eyotref8_ShowClass.ok _ _ _ _ _ _ ?_
  intro b hb
  have hle0 := Le.set hb (.cells (cells4 f) T_api_Set (0, 0))
  refine get4 (set_same _ _ _) ?_
  refine list_spec ?_
  intro m2 a l c hr
  have hle := hle0.trans hr.le
  have hrs := flt_cat f
  have hok := run_ok f 256
  have hl : (cat (runL f 256)).length = l := by rw [← hr.len, hrs, List.length_map]
  have hl2 : l ≤ 256 := by have := flt_len f 256; rw [hr.len] at this; exact this
  have hc : CellsAt m2 a (u8s (catB (runL f 256))) := by rw [catB, ← hrs]; exact hr.own.cells
  have hrl := cat_len (runL f 256) fun p hp => (hok p hp).1
  dsimp only [Cont]
  refine UnS.mk ?_
  unfold shW at k
  refine BrE (fun h => ?_) (fun h0 => ?_)
  · rw [if_pos (by omega)] at k
    exact k m2 hle
  have hn0 : ¬ (runL f 256).length = 0 := by
    intro h
    rw [List.length_eq_zero_iff.mp h] at hl
    simp [cat] at hl; omega
  rw [if_neg hn0] at k
  have hfull : (fullS f = true) ↔ l = 256 := by
    have h1 : l = ((List.range 256).filter f).length := by rw [filter_runs]; exact hl.symm
    constructor
    · intro h
      have h2 := empty_all h
      rw [h1, List.filter_eq_self.mpr]
      · simp
      · intro x hx
        have := h2 x (List.mem_range.mp hx)
        simpa using this
    · intro h
      have h3 : ((List.range 256).filter f).length = (List.range 256).length := by rw [← h1, h]; simp
      have h4 := List.length_filter_eq_length_iff.mp h3
      unfold fullS emptyS
      rw [List.all_eq_true]
      intro x hx
      show (!(!f x)) = true
      rw [h4 x hx]; rfl
  refine BrE (fun h1 => ?_) (fun h1 => ?_)
  · rw [if_neg (by rw [hfull]; omega)] at k
    cases hq : runL f 256 with
    | nil => rw [hq] at hn0; exact absurd rfl hn0
    | cons p rs =>
      obtain ⟨x, y⟩ := p
      rw [hq] at k hc hl hrl hok
      have hxy := hok (x, y) (by simp)
      dsimp only at hxy
      have hr0 : rs = [] := by
        cases rs with
        | nil => rfl
        | cons q rs => simp at hrl; omega
      subst hr0
      rw [cat_one] at hl
      simp at hl
      have hy : x = y := by omega
      subst hy
      dsimp only at k
      rw [if_pos rfl] at k
      refine el hc (by rw [cat_one]; simpa using hl) (n := 0) rfl (v := x) (by rw [cat_one, show x + 1 - x = 1 by omega]; rfl) hxy.2 ?_
      refine UnI.mk ?_
      refine rshown_spec hxy.2 ?_
      intro m3 hle3
      exact k _ (hle.trans hle3)
  refine BrE (fun h2 => ?_) (fun h2 => ?_)
  · rw [if_pos (hfull.mpr (by omega))] at k
    exact k m2 hle
  · rw [if_neg (by rw [hfull]; omega)] at k
    refine l1_show (rs := runL f 256) rfl hle hc hl hl2 ?_
    intro m3 hle3
    have := k m3 hle3
    cases hq : runL f 256 with
    | nil => rw [hq] at hn0; exact absurd rfl hn0
    | cons p rs =>
      rw [hq] at this
      cases rs with
      | cons q rs => exact this
      | nil =>
        obtain ⟨x, y⟩ := p
        dsimp only at this
        rw [if_neg] at this
        · exact this
        · intro e
          subst e
          rw [hq, cat_one] at hl
          simp at hl; omega
end Go.E
