import Derived.Test.YtjdkdeekniephaaPC2
set_option linter.unusedVariables false
set_option maxRecDepth 20000
namespace Go.E.Pz
open Go.H Go.E
attribute [local irreducible] BiN MkS ConvN LookN MapUpN CallV HC

theorem pcs_set_last (r : List Pc) (q : Pc) (t : Int) : (pcs (r ++ [q])).set (r.length * 3 + 2) (.int .i64 t) = pcs (r ++ [⟨q.a, q.f, t⟩]) := by
  rw [pcs_append, pcs_append, List.set_append_right _ _ (by rw [pcs_len]; omega), pcs_len]
  congr 1
  rw [show r.length * 3 + 2 - r.length * 3 = 2 by omega]
  rfl
theorem fold_snoc {ps : List Pc} {k : Nat} {p : Pc} (h : ps[k]? = some p) : (ps.take (k + 1)).foldl jn [] = jn ((ps.take k).foldl jn []) p := by
  rw [List.take_add_one, h, List.foldl_append]; rfl
theorem jn_length (out : List Pc) (p : Pc) : (jn out p).length ≤ out.length + 1 := by
  rcases snoc_cases out with rfl | ⟨r, q, rfl⟩
  · simp [jn_nil]
  · rw [jn_snoc]; split <;> simp
theorem fold_length : ∀ (l out : List Pc), (l.foldl jn out).length ≤ out.length + l.length
  | [], out => by simp
  | p :: l, out => by
    have := fold_length l (jn out p)
    have := jn_length out p
    rw [List.foldl_cons, List.length_cons]; omega

theorem join_spec {m : Mem} {ps : List Pc} {la : Option Addr} {ll lc : Nat} (hc : CellsAt m la (pcs ps)) (hl : ps.length = ll) (hll : ll ≤ 900000000) {R : Ending → Mem → Prop}
    (h : ∀ a' l' c' m', Le m m' → Own m' T_api_Piece 3 a' l' c' (pcs (joinL ps)) → Fresh m a' → (joinL ps).length = l' → R (.returned (.slice a' l' c')) m') : HC P piece_joined.id #[.slice la ll lc] m R := by
  refine piece_joined.ok _ _ _ _ _ ?_
  refine ⟨fun N oa ol oc a l c x8 i mm => a = la ∧ l = ll ∧ x8 = ((ll : Nat) : Int) ∧ Le m mm ∧ Fresh m oa ∧ ∃ k : Nat, i = k ∧ k ≤ ll ∧ N = ll - k ∧ Own mm T_api_Piece 3 oa ol oc (pcs ((ps.take k).foldl jn [])),
    ll, ⟨rfl, rfl, rfl, Le.refl m, Fresh.none m, 0, rfl, by omega, by omega, by simpa [pcs] using Own.nil m T_api_Piece 3⟩, ?_⟩
  rintro N oa ol oc a l c x8 i mm ⟨rfl, rfl, rfl, hle, hfr, k, rfl, hk, rfl, ho⟩
  have hol : ((ps.take k).foldl jn []).length = ol := by
    have := ho.1; rw [pcs_len] at this; omega
  have hfl := fold_length (ps.take k) []
  have htl : (ps.take k).length = k := by rw [List.length_take]; omega
  simp only [List.length_nil] at hfl
  refine BrD (fun hlt => ?_) (fun hge => ?_)
  rotate_left
  · have e : ps.take k = ps := List.take_of_length_le (by omega)
    rw [e] at ho hol
    exact h oa ol oc mm hle ho hfr hol
  refine IxS.pcs (CellsAt.le hle hc) hl (by omega) (by omega) ?_
  intro b o p hp c1 c2 c3
  have hp' : ps[k]? = some p := hp
  refine LdV.mk c1 ?_
  refine LdV.mk c2 ?_
  refine LdV.mk c3 ?_
  intro bp hbp
  refine set3 hbp ?_
  have hpb := set_same mm bp (.cells #[.bool p.a, .int .i64 p.f, .int .i64 p.t] T_api_Piece (0, 0))
  have hle4 := Le.set hbp (.cells #[.bool p.a, .int .i64 p.f, .int .i64 p.t] T_api_Piece (0, 0))
  have ho4 := Own.le hle4 ho
  have hbo : blk oa ≠ some bp := fun e => ho.live bp e hbp
  generalize mm.set bp (.cells #[.bool p.a, .int .i64 p.f, .int .i64 p.t] T_api_Piece (0, 0)) = m4 at *
  generalize hout : (ps.take k).foldl jn [] = out at *
  have hnext : IntKind.i64.wrap ((k : Int) + 1) = ((k + 1 : Nat) : Int) := by rw [wi (by omega) (by omega)]; omega
  have done : ∀ oa' ol' oc' m7, Le m m7 → Fresh m oa' → Own m7 T_api_Piece 3 oa' ol' oc' (pcs (jn out p)) →
      ∃ N1, N1 < l - k ∧ (a = a ∧ l = l ∧ ((l : Nat) : Int) = ((l : Nat) : Int) ∧ Le m m7 ∧ Fresh m oa' ∧ ∃ k' : Nat, IntKind.i64.wrap ((k : Int) + 1) = k' ∧ k' ≤ l ∧ N1 = l - k' ∧ Own m7 T_api_Piece 3 oa' ol' oc' (pcs ((ps.take k').foldl jn []))) := by
    intro oa' ol' oc' m7 h1 h2 h3
    exact ⟨l - (k + 1), by omega, rfl, rfl, rfl, h1, h2, k + 1, hnext, by omega, rfl, by rw [fold_snoc hp', hout]; exact h3⟩
  have kk3 : jn out p = out ++ [p] → piece_joined.k3 (fun oa ol oc a' l' c x8 i mm => ∃ N1, N1 < l - k ∧ (a' = a ∧ l' = l ∧ x8 = ((l : Nat) : Int) ∧ Le m mm ∧ Fresh m oa ∧ ∃ k : Nat, i = k ∧ k ≤ l ∧ N1 = l - k ∧ Own mm T_api_Piece 3 oa ol oc (pcs ((ps.take k).foldl jn [])))) oa ol oc bp 0 a l c ((l : Nat) : Int) k R m4 := by
    intro hj
    unfold piece_joined.k3
    refine LdV.of (o := 0) hpb rfl ?_
    refine LdV.of (o := 1) hpb rfl ?_
    refine LdV.of (o := 2) hpb rfl ?_
    refine push_row ePc (by decide) ho4 (news := #[.bool p.a, .int .i64 p.f, .int .i64 p.t]) rfl (by intro v hv; simp at hv; rcases hv with rfl | rfl | rfl <;> rfl) (by omega) (by decide) ?_
    intro a' c' m7 hch7 ho7 hb7
    refine done a' (ol + 1) c' m7 (hch7.to_le (hle.trans hle4) (fun b e => hfr b e)) ?_ ?_
    · rcases hb7 with e | e
      · intro b hb; exact hfr b (e ▸ hb)
      · exact Fresh.le (hle.trans hle4) e
    · rw [hj, pcs_append]
      simpa [pcs, Pc.vals] using ho7
  refine ⟨m4, Le.refl _, ?_⟩
  refine BrD (fun hpos => ?_) (fun hneg => ?_)
  rotate_left
  · -- the first
    have h0 : out = [] := by
      rcases snoc_cases out with e | ⟨r, q, e⟩
      · exact e
      · subst e; rw [wi (by simp at hol; omega) (by omega)] at hneg; simp at hol; omega
    unfold piece_joined.k2
    exact Br.f rfl (kk3 (by rw [h0]; rfl))
  have hol1 : 1 ≤ ol := by rw [wi (by omega) (by omega)] at hpos; omega
  obtain ⟨r, q, hrq⟩ : ∃ r q, out = r ++ [q] := by
    rcases snoc_cases out with e | e
    · subst e; simp at hol; omega
    · exact e
  have hrl : r.length = ol - 1 := by rw [hrq] at hol; simp at hol; omega
  have hw : IntKind.i64.wrap (((ol : Nat) : Int) - 1) = ((r.length : Nat) : Int) := by rw [wi (by omega) (by omega)]; omega
  rw [hw]
  have hget : out[r.length]? = some q := by rw [hrq]; simp
  refine IxS.pcs ho4.cells hol (by omega) (by omega) ?_
  intro b1 o1 q1 hq1 d1 d2 d3
  have : q1 = q := by rw [Int.toNat_natCast, hget] at hq1; cases hq1; rfl
  subst this
  refine LdV.mk d1 ?_
  refine LdV.of (o := 0) hpb rfl ?_
  refine Br.mk (fun ha => ?_) (fun ha => ?_)
  rotate_left
  · unfold piece_joined.k2
    refine Br.f rfl (kk3 ?_)
    rw [hrq, jn_snoc, if_neg (by intro hh; rw [hh.1] at ha; simp at ha)]; simp
  refine IxS.pcs ho4.cells hol (by omega) (by omega) ?_
  intro b2 o2 q2 hq2 g1 g2 g3
  have : q2 = q1 := by rw [Int.toNat_natCast, hget] at hq2; cases hq2; rfl
  subst this
  refine LdV.mk g3 ?_
  refine LdV.of (o := 1) hpb rfl ?_
  unfold piece_joined.k2
  have ha' : q2.a = p.a := by simpa using ha
  refine BrE (fun ht => ?_) (fun ht => ?_)
  rotate_left
  · refine kk3 ?_
    rw [hrq, jn_snoc, if_neg (by intro hh; exact ht hh.2)]; simp
  refine LdV.of (o := 2) hpb rfl ?_
  refine ho4.stN (j := 2) (by omega) (by omega) (by decide) rfl ?_
  intro m7 hch7 ho7
  refine done oa ol oc m7 (hch7.to_le (hle.trans hle4) (fun b e => hfr b e)) hfr ?_
  rw [hrq, Int.toNat_natCast, pcs_set_last] at ho7
  rw [hrq, jn_snoc, if_pos ⟨ha', ht⟩]
  exact ho7
end Go.E.Pz
