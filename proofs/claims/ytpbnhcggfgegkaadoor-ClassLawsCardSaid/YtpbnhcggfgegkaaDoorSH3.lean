/- Classes: Show. -/
import Derived.Test.YtpbnhcggfgegkaaDoorSH2
set_option linter.unusedVariables false
set_option linter.unusedSimpArgs false
set_option maxRecDepth 20000
namespace Go.E
open Go.H
attribute [local irreducible] BiN MkS ConvN LookN MapUpN CallV HC limb dbTab

def joinR (rs : List (Nat × Nat)) : List UInt8 := rs.flatMap fun p => shT p.1 p.2
def fullS (f : Nat → Bool) : Bool := emptyS fun b => !f b
def brk (rs : List (Nat × Nat)) : List UInt8 := ([91] ++ joinR rs) ++ [93]
/-- How a set is shown. -/
def shW (f : Nat → Bool) : List UInt8 :=
  if (runL f 256).length = 0 then []
  else if fullS f = true then [46]
  else match runL f 256 with
    | [(a, b)] => if a = b then sgT a else brk [(a, b)]
    | rs => brk rs
theorem shT_len (a b : Nat) : (shT a b).length ≤ 9 := by
  have h1 := sgT_len a; have h2 := sgT_len b
  unfold shT
  split
  · omega
  · split <;> simp <;> omega
theorem joinR_len : ∀ rs : List (Nat × Nat), (joinR rs).length ≤ 9 * rs.length
  | [] => by simp [joinR]
  | p :: rs => by
    have h := joinR_len rs
    have h2 := shT_len p.1 p.2
    unfold joinR at h ⊢
    rw [List.flatMap_cons, List.length_append, List.length_cons]
    omega
theorem joinR_take {rs : List (Nat × Nat)} {i : Nat} {p : Nat × Nat} (h : rs[i]? = some p) : joinR (rs.take (i + 1)) = joinR (rs.take i) ++ shT p.1 p.2 := by
  unfold joinR
  rw [List.take_add_one, h, List.flatMap_append]
  simp

theorem l3_spec {m mm : Mem} {a : Option Addr} {l c : Nat} {rs : List (Nat × Nat)} (hle : Le m mm) (hc : CellsAt mm a (rs.flatMap rv)) (hl : rs.length = l) (hlen : l ≤ 256) (hok : ∀ p ∈ rs, p.1 ≤ p.2 ∧ p.2 < 256) {R : Ending → Mem → Prop}
    (k : ∀ m', Le m m' → R (.returned (.string (bstr (brk rs)))) m') : class_Show.k2 a l c R mm := by
  unfold class_Show.k2
  refine ⟨fun N out xa xl xc n i m3 => xa = a ∧ xl = l ∧ xc = c ∧ n = (l : Int) ∧ ∃ j : Nat, i = j ∧ N = l - j ∧ j ≤ l ∧ out = bstr ([91] ++ joinR (rs.take j)) ∧ Le mm m3, l, ⟨rfl, rfl, rfl, rfl, 0, rfl, rfl, by omega, rfl, Le.refl _⟩, ?_⟩
  rintro N out xa xl xc n i m3 ⟨rfl, rfl, rfl, rfl, j, rfl, rfl, hj, rfl, hle3⟩
  have hjl := joinR_len (rs.take j)
  have htl : (rs.take j).length ≤ j := by rw [List.length_take]; omega
  refine BrD (fun hlt => ?_) (fun hge => ?_)
  · refine IxS.rows rv_len (by omega) (hc.le hle3) hl (by omega) (by omega) ?_
    intro bb oo p hp hcell
    rw [Int.toNat_natCast] at hp
    have hpm : p ∈ rs := List.mem_of_getElem? hp
    obtain ⟨h1, h2⟩ := hok p hpm
    refine LdV.mk (v := .int .u8 (p.1 : Int)) (by have := hcell 0 _ rfl; exact this) ?_
    refine UnI.mk ?_
    refine LdV.mk (v := .int .u8 (p.2 : Int)) (hcell 1 _ rfl) ?_
    refine UnI.mk ?_
    intro b6 hb6
    refine St1.two (u := .int .u8 (p.1 : Int)) (v := .int .u8 (p.2 : Int)) (set_same _ _ _) rfl rfl ?_
    rw [set_set]
    refine LdV.s0 (set_same _ _ _) (UnI.mk ?_)
    refine LdV.s1 (set_same _ _ _) (UnI.mk ?_)
    refine shown_spec h1 h2 ?_
    intro m5 hle5
    dsimp only [Cont]
    have hs9 := shT_len p.1 p.2
    refine UnStr.mk (CatB_bs (by simp; omega) ?_)
    refine ⟨xl - (j + 1), by omega, rfl, rfl, rfl, rfl, j + 1, ?_, rfl, by omega, ?_, (hle3.trans (Le.set hb6 _)).trans hle5⟩
    · rw [wi (by omega) (by omega)]; omega
    · rw [bstr_append, joinR_take hp, List.append_assoc]
  · have : j = rs.length := by omega
    subst this
    rw [List.take_length] at hjl ⊢
    have e : bstr ([91] ++ joinR rs) ++ ByteArray.mk #[93] = bstr (brk rs) := bstr_append _ [93]
    rw [e]
    refine ⟨?_, k _ (hle.trans hle3)⟩
    rw [bstr_size]
    show _ + 1 ≤ _
    simp; omega

theorem Show_spec {f : Nat → Bool} {m : Mem} {R : Ending → Mem → Prop} (k : ∀ m', Le m m' → R (.returned (.string (bstr (shW f)))) m') : HC P class_Show.id #[setv f] m R := by
  refine class_Show.ok _ _ _ _ _ _ ?_
  intro b1 hb1
  have hle0 := Le.set hb1 (.cells (cells4 f) T_api_Set (0, 0))
  have ea : (m.set b1 (.cells (cells4 f) T_api_Set (0, 0))) b1 = some (.cells (cells4 f) T_api_Set (0, 0)) := set_same _ _ _
  generalize (m.set b1 (.cells (cells4 f) T_api_Set (0, 0))) = ms at hle0 ea
  refine get4 ea ?_
  refine runs_spec ?_
  intro m2 a l c hr
  have hl := hr.len
  have hl2 := run_len f 256
  have hok := run_ok f 256
  unfold shW at k
  generalize runL f 256 = rs at hr hl hl2 hok k
  dsimp only [Cont]
  refine UnS.mk ?_
  refine BrE (fun h0 => ?_) (fun h0 => ?_)
  · rw [if_pos (by omega)] at k
    exact k _ (hle0.trans hr.le)
  rw [if_neg (by omega)] at k
  refine ⟨m2, Le.refl _, ?_⟩
  refine get4 (hr.le _ _ ea) ?_
  have hz : (.agg #[.int .u64 0, .int .u64 0, .int .u64 0, .int .u64 0] : Value) = setv fun _ => false := by
    unfold setv; rw [L_zero, L_zero, L_zero, L_zero]
  rw [hz]
  refine Not_spec ?_
  intro m4 hle4
  refine ContSet.mk ?_
  refine Lk.all hle4 ?_
  have hfull := eq4 f fun b => !(fun _ => false) b
  have hfe : (fullS f = true) ↔ ∀ b, b < 256 → f b = true := by
    unfold fullS emptyS
    simp
  refine Br.mk (fun h => ?_) (fun h => ?_)
  · have := hfe.mpr (fun b hb => by have := hfull.mp h b hb; simpa using this)
    rw [if_pos this] at k
    exact k _ ((hle0.trans hr.le).trans hle4)
  · have hnf : ¬ fullS f = true := fun h2 => by
      have := hfull.mpr (fun b hb => by simpa using hfe.mp h2 b hb)
      rw [this] at h; cases h
    rw [if_neg hnf] at k
    have hcm : CellsAt m4 a (rs.flatMap rv) := hr.own.cells.le hle4
    refine ⟨m4, Le.refl _, ?_⟩
    have tail : (∀ m', Le m m' → R (.returned (.string (bstr (brk rs)))) m') → class_Show.k1 a l c false R m4 := fun kk => by
      unfold class_Show.k1
      refine Br.mk (fun h => by cases h) (fun _ => ?_)
      exact l3_spec ((hle0.trans hr.le).trans hle4) hcm hl (by omega) hok kk
    refine BrE (fun h1 => ?_) (fun h1 => ?_)
    · obtain ⟨⟨p, q⟩, rfl⟩ : ∃ x, rs = [x] := List.length_eq_one_iff.mp (by omega)
      have hpq := hok (p, q) (by simp)
      simp only at hpq k
      refine IxS.rows rv_len (by omega) hcm hl (by omega) (by omega) ?_
      intro bb oo x hx hcell
      have hx : [(p, q)][0]? = some x := hx
      simp at hx; subst hx
      refine ⟨by omega, by omega, ?_⟩
      refine LdV.mk (v := .int .u8 (p : Int)) (by have := hcell 0 _ rfl; exact this) ?_
      refine UnI.mk ?_
      refine IxS.rows rv_len (by omega) hcm hl (by omega) (by omega) ?_
      intro bb2 oo2 x hx hcell2
      have hx : [(p, q)][0]? = some x := hx
      simp at hx; subst hx
      refine ⟨by omega, by omega, ?_⟩
      refine LdV.mk (v := .int .u8 (q : Int)) (hcell2 1 _ rfl) ?_
      refine UnI.mk ?_
      cases hd : ((p : Int) == (q : Int)) with
      | false =>
        have hd := beq_eq_false_iff_ne.mp hd
        rw [if_neg (by omega)] at k
        exact tail k
      | true =>
        have hd := beq_iff_eq.mp hd
        rw [if_pos (by omega)] at k
        unfold class_Show.k1
        refine Br.mk (fun _ => ?_) (fun h => by cases h)
        refine IxS.rows rv_len (by omega) hcm hl (by omega) (by omega) ?_
        intro bb oo x hx hcell
        have hx : [(p, q)][0]? = some x := hx
        simp at hx; subst hx
        refine ⟨by omega, by omega, ?_⟩
        refine LdV.mk (v := .int .u8 (p : Int)) (by have := hcell 0 _ rfl; exact this) ?_
        refine UnI.mk ?_
        refine csign_spec (by omega) ?_
        intro m5 hle5
        dsimp only [Cont]
        exact UnStr.mk (k _ (((hle0.trans hr.le).trans hle4).trans hle5))
    · refine tail ?_
      match rs, k with
      | [], _ => exact absurd (show (l : Int) = 0 by simp at hl; omega) h0
      | [_], _ => exact absurd (show (l : Int) = 1 by simp at hl; omega) h1
      | x :: y :: r, k => exact k
end Go.E
