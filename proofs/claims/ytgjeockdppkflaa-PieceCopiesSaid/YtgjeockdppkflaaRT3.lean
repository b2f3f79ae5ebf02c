import Derived.Test.YtgjeockdppkflaaRT2
set_option linter.unusedVariables false
namespace Go.E
open Go.H
attribute [local irreducible] BiN MkS ConvN LookN MapUpN CallV HC
section
variable {m m' : Mem} {F : Nat → Prop} {br : Nat} {L : List (Bool × Int)} {ad : List UInt8}

def refP (L : List (Bool × Int)) : List Pc := (L.map single).foldl jn []
theorem refP_snoc {L : List (Bool × Int)} {k : Nat} {x : Bool × Int} (h : L[k]? = some x) : refP (L.take (k + 1)) = jn (refP (L.take k)) (single x) := by
  unfold refP
  rw [List.take_add_one, h, List.map_append, List.foldl_append]; rfl
theorem refP_len (L : List (Bool × Int)) : (refP L).length ≤ L.length := by
  have := fold_length (L.map single) []
  simpa [refP] using this
theorem jn_pos (out : List Pc) (p : Pc) : 0 < (jn out p).length := by
  rcases snoc_cases out with rfl | ⟨r, q, rfl⟩
  · simp [jn_nil]
  · rw [jn_snoc]; split <;> simp

theorem RPieces_spec (h : Rt m F br L ad) (hL : L.length ≤ 1000000) (hat : ∀ x ∈ L, 0 ≤ x.2 ∧ x.2 ≤ 1000000) {R : Ending → Mem → Prop}
    (k : ∀ a' l' c' m', Le m m' → Own m' T_api_Piece 3 a' l' c' (pcs (refP L)) → Fresh m a' → (refP L).length = l' → R (.returned (.slice a' l' c')) m') : HC P eyotref3_Text_Pieces.id #[.pointer (some ⟨br, 0, none⟩)] m R := by
  obtain ⟨⟨la, ll, lc, aa, al, ac, g1, g2, g3, g4, g5, g6, g7, g8⟩, lv⟩ := h
  subst g3
  refine eyotref3_Text_Pieces.ok _ _ _ ?_
  refine ⟨fun N x0 oa ol oc i mm => x0 = some ⟨br, 0, none⟩ ∧ Le m mm ∧ Fresh m oa ∧ ∃ j : Nat, i = j ∧ j ≤ L.length ∧ N = L.length - j ∧ Own mm T_api_Piece 3 oa ol oc (pcs (refP (L.take j))),
    L.length, ⟨rfl, Le.refl m, Fresh.none m, 0, rfl, by omega, by omega, by simpa [refP, pcs] using Own.nil m T_api_Piece 3⟩, ?_⟩
  rintro N x0 oa ol oc i mm ⟨rfl, hle, hfr, j, rfl, hj, rfl, ho⟩
  have hol : (refP (L.take j)).length = ol := by
    have := ho.1; rw [pcs_len] at this; omega
  have hfl := refP_len (L.take j)
  have htl : (L.take j).length = j := by rw [List.length_take]; omega
  refine LdV.s0 (hle _ _ g1) ?_
  refine BrD (fun hlt => ?_) (fun hge => ?_)
  rotate_left
  · have e : L.take j = L := List.take_of_length_le (by omega)
    rw [e] at ho hol
    exact k oa ol oc mm hle ho hfr hol
  refine LdV.s0 (hle _ _ g1) ?_
  refine IxS.rbs (CellsAt.le hle g2.cells) rfl (by omega) (by omega) ?_
  intro b o x hx c1 c2
  have hx' : L[j]? = some x := hx
  have hxb := hat x (List.mem_of_getElem? hx')
  refine LdV.mk c1 ?_
  refine LdV.mk c2 ?_
  intro bp hbp
  refine St1.two (x := .bool false) (y := .int .i64 0) (set_same _ _ _) rfl rfl ?_
  rw [set_set]
  have hpb := set_same mm bp (.cells #[.bool x.1, .int .i64 x.2] T_eyotref3_Byte (0, 0))
  have hle4 := Le.set hbp (.cells #[.bool x.1, .int .i64 x.2] T_eyotref3_Byte (0, 0))
  have ho4 := Own.le hle4 ho
  have hbo : blk oa ≠ some bp := fun e => ho.live bp e hbp
  generalize mm.set bp (.cells #[.bool x.1, .int .i64 x.2] T_eyotref3_Byte (0, 0)) = m4 at *
  generalize hout : refP (L.take j) = out at *
  have hnext : IntKind.i64.wrap ((j : Int) + 1) = ((j + 1 : Nat) : Int) := by rw [wi (by omega) (by omega)]; omega
  have done : ∀ oa' ol' oc' m7, Le m m7 → Fresh m oa' → Own m7 T_api_Piece 3 oa' ol' oc' (pcs (jn out (single x))) →
      ∃ N1, N1 < L.length - j ∧ (some (⟨br, 0, none⟩ : Addr) = some ⟨br, 0, none⟩ ∧ Le m m7 ∧ Fresh m oa' ∧ ∃ j' : Nat, IntKind.i64.wrap ((j : Int) + 1) = j' ∧ j' ≤ L.length ∧ N1 = L.length - j' ∧ Own m7 T_api_Piece 3 oa' ol' oc' (pcs (refP (L.take j')))) := by
    intro oa' ol' oc' m7 h1 h2 h3
    exact ⟨L.length - (j + 1), by omega, rfl, h1, h2, j + 1, hnext, by omega, rfl, by rw [refP_snoc hx', hout]; exact h3⟩
  have kkF : ∀ y : Int, jn out (single x) = out ++ [single x] → eyotref3_Text_Pieces.k2 (fun x0 oa ol oc i mm => ∃ N1, N1 < L.length - j ∧ (x0 = some (⟨br, 0, none⟩ : Addr) ∧ Le m mm ∧ Fresh m oa ∧ ∃ j : Nat, i = j ∧ j ≤ L.length ∧ N1 = L.length - j ∧ Own mm T_api_Piece 3 oa ol oc (pcs (refP (L.take j))))) (some ⟨br, 0, none⟩) oa ol oc j bp 0 y false R m4 := by
    intro y hj
    unfold eyotref3_Text_Pieces.k2
    refine Br.f rfl ?_
    refine LdV.s0 hpb ?_
    refine LdV.s1 hpb ?_
    refine LdV.s1 hpb (UnI.mk ?_)
    rw [wi (n := x.2 + 1) (by omega) (by omega)]
    refine push_row ePc (by decide) ho4 (news := #[.bool x.1, .int .i64 x.2, .int .i64 (x.2 + 1)]) rfl (by intro v hv; simp at hv; rcases hv with rfl | rfl | rfl <;> rfl) (by omega) (by decide) ?_
    intro a' c' m7 hch7 ho7 hb7
    refine done a' (ol + 1) c' m7 (hch7.to_le (hle.trans hle4) (fun b e => hfr b e)) ?_ ?_
    · rcases hb7 with e | e
      · intro b hb; exact hfr b (e ▸ hb)
      · exact Fresh.le (hle.trans hle4) e
    · rw [hj, pcs_append]
      simpa [pcs, Pc.vals, single] using ho7
  refine ⟨m4, Le.refl _, ?_⟩
  refine BrD (fun hpos => ?_) (fun hneg => ?_)
  rotate_left
  · have h0 : out = [] := by
      rcases snoc_cases out with e | ⟨r, q, e⟩
      · exact e
      · subst e; rw [wi (by simp at hol; omega) (by omega)] at hneg; simp at hol; omega
    exact kkF _ (by rw [h0]; rfl)
  have hol1 : 1 ≤ ol := by rw [wi (by omega) (by omega)] at hpos; omega
  obtain ⟨r, q, hrq⟩ : ∃ r q, out = r ++ [q] := by
    rcases snoc_cases out with e | e
    · subst e; simp at hol; omega
    · exact e
  have hrl : r.length = ol - 1 := by rw [hrq] at hol; simp at hol; omega
  have hw : IntKind.i64.wrap (((ol : Nat) : Int) - 1) = ((r.length : Nat) : Int) := by rw [wi (by omega) (by omega)]; omega
  rw [hw]
  have hget : out[r.length]? = some q := by rw [hrq]; simp
  refine IxS.pcs ho4.cells hol (by omega) (by omega) ?_
  intro b1 o1 q1 hq1 d1 d2 d3
  have : q1 = q := by rw [Int.toNat_natCast, hget] at hq1; cases hq1; rfl
  subst this
  refine LdV.mk d1 ?_
  refine LdV.s0 hpb ?_
  refine Br.mk (fun ha => ?_) (fun ha => ?_)
  rotate_left
  · refine kkF _ ?_
    rw [hrq, jn_snoc, if_neg (by intro hh; rw [show q1.a = x.1 from hh.1] at ha; simp at ha)]; simp
  refine IxS.pcs ho4.cells hol (by omega) (by omega) ?_
  intro b2 o2 q2 hq2 e1 e2 e3
  have : q2 = q1 := by rw [Int.toNat_natCast, hget] at hq2; cases hq2; rfl
  subst this
  refine LdV.mk e3 ?_
  refine LdV.s1 hpb (UnI.mk ?_)
  have ha' : q2.a = x.1 := by simpa using ha
  cases ht : (q2.t == x.2) with
  | false =>
    refine kkF _ ?_
    have : q2.t ≠ x.2 := by simpa using ht
    rw [hrq, jn_snoc, if_neg (by intro hh; exact this hh.2)]; simp
  | true =>
    have ht : q2.t = x.2 := by simpa using ht
    unfold eyotref3_Text_Pieces.k2
    refine Br.t rfl ?_
    refine IxS.pcs ho4.cells hol (by omega) (by omega) ?_
    intro b3 o3 q3 hq3 f1 f2 f3
    have : q3 = q2 := by rw [Int.toNat_natCast, hget] at hq3; cases hq3; rfl
    subst this
    refine LdV.mk f3 (UnI.mk ?_)
    rw [ht, wi (n := x.2 + 1) (by omega) (by omega)]
    refine ho4.stN (j := 2) (by omega) (by omega) (by decide) rfl ?_
    intro m7 hch7 ho7
    refine done oa ol oc m7 (hch7.to_le (hle.trans hle4) (fun b e => hfr b e)) hfr ?_
    rw [hrq, Int.toNat_natCast, pcs_set_last] at ho7
    rw [hrq, jn_snoc, if_pos ⟨ha', ht⟩]
    exact ho7
end

theorem Same_true {m : Mem} {a b : Option Addr} {l c c2 : Nat} {ps : List Pc} (ha : CellsAt m a (pcs ps)) (hb : CellsAt m b (pcs ps)) (hl : ps.length = l) (hll : l ≤ 1000000000) {R : Ending → Mem → Prop} (k : R (.returned (.bool true)) m) :
    HC P eyotref3_SamePieces.id #[.slice a l c, .slice b l c2] m R := by
  subst hl
  refine eyotref3_SamePieces.ok _ _ _ _ _ _ _ _ ?_
  refine BrNf rfl ?_
  refine ⟨fun N a1 l1 c1 a2 l2 c2 i mm => a1 = a ∧ l1 = ps.length ∧ a2 = b ∧ l2 = ps.length ∧ mm = m ∧ ∃ j : Nat, i = j ∧ j ≤ ps.length ∧ N = ps.length - j, ps.length, ⟨rfl, rfl, rfl, rfl, rfl, 0, rfl, by omega, by omega⟩, ?_⟩
  rintro N a1 l1 c1 a2 l2 c2 i mm ⟨rfl, rfl, rfl, rfl, rfl, j, rfl, hj, rfl⟩
  refine BrD (fun hlt => ?_) (fun _ => k)
  refine ⟨mm, Le.refl _, ?_⟩
  refine IxS.pcs ha rfl (by omega) (by omega) ?_
  intro b1 o1 p hp c1 c2 c3
  refine LdV.mk c1 ?_
  refine LdV.mk c2 ?_
  refine LdV.mk c3 ?_
  refine IxS.pcs hb rfl (by omega) (by omega) ?_
  intro b2 o2 q hq d1 d2 d3
  have : q = p := by rw [hp] at hq; cases hq; rfl
  subst this
  refine LdV.mk d1 ?_
  refine LdV.mk d2 ?_
  refine LdV.mk d3 ?_
  refine Br.f (by simp [eqL, eqV]) ?_
  refine ⟨ps.length - (j + 1), by omega, rfl, rfl, rfl, rfl, rfl, j + 1, ?_, by omega, rfl⟩
  rw [wi (by omega) (by omega)]; omega
section
variable {m m' : Mem} {F : Nat → Prop} {br : Nat} {L : List (Bool × Int)} {ad : List UInt8}
theorem RFind_out (h : Rt m F br L ad) {at_ : Int} (ho : at_ < 0 ∨ (L.length : Nat) ≤ at_) {R : Ending → Mem → Prop} (k : R (.returned (.tuple #[.int .i64 0, .int .i64 0, .int .i64 1])) m) :
    HC P eyotref3_Text_Find.id #[.pointer (some ⟨br, 0, none⟩), .int .i64 at_] m R := by
  obtain ⟨⟨la, ll, lc, aa, al, ac, g1, g2, g3, g4, g5, g6, g7, g8⟩, lv⟩ := h
  refine eyotref3_Text_Find.ok _ _ _ _ ?_
  refine BrD (fun _ => k) (fun h0 => ?_)
  refine LdV.s0 g1 ?_
  exact BrDt (p := at_ ≥ ((ll : Nat) : Int)) (by omega) k
theorem RFind_in (h : Rt m F br L ad) (hL : L.length ≤ 1000000) (hat : ∀ x ∈ L, 0 ≤ x.2 ∧ x.2 ≤ 1000000) {ps : List Pc} (hps : refP L = ps) (hsm : ∀ p ∈ ps, p.Sm) (hby : byt ps = L) {at_ : Int} (h0 : 0 ≤ at_) (h1 : at_ < (L.length : Nat)) {R : Ending → Mem → Prop}
    (k : ∀ m', Le m m' → R (.returned (.tuple #[.int .i64 (findL ps at_ 0).1, .int .i64 (findL ps at_ 0).2, .int .i64 0])) m') :
    HC P eyotref3_Text_Find.id #[.pointer (some ⟨br, 0, none⟩), .int .i64 at_] m R := by
  have h' := h
  obtain ⟨⟨la, ll, lc, aa, al, ac, g1, g2, g3, g4, g5, g6, g7, g8⟩, lv⟩ := h
  refine eyotref3_Text_Find.ok _ _ _ _ ?_
  refine BrDf (by omega) ?_
  refine LdV.s0 g1 ?_
  refine BrDf (p := at_ ≥ ((ll : Nat) : Int)) (by omega) ?_
  refine RPieces_spec h' hL hat ?_
  intro pa pl pc m1 hle1 hp hfp hpl
  rw [hps] at hp hpl
  have hge := byt_ge (ps := ps) (fun p hp => (hsm p hp).ok)
  rw [hby] at hge
  refine ⟨fun N x a l c i mm => a = pa ∧ l = pl ∧ mm = m1 ∧ ∃ j : Nat, i = j ∧ j ≤ ps.length ∧ N = ps.length - j ∧ 0 ≤ x ∧ x < ((byt (ps.drop j)).length : Nat) ∧ findL (ps.drop j) x j = findL ps at_ 0,
    ps.length, ⟨rfl, rfl, rfl, 0, rfl, by omega, by omega, h0, by simpa [hby] using h1, by simp⟩, ?_⟩
  rintro N x a l c i mm ⟨rfl, rfl, rfl, j, rfl, hj, rfl, hx0, hx1, hf⟩
  have hjl : j < ps.length := by
    rcases Nat.lt_or_ge j ps.length with h | h
    · exact h
    · rw [List.drop_eq_nil_of_le h] at hx1; simp [byt] at hx1; omega
  refine BrDt (by omega) ?_
  refine ⟨mm, Le.refl _, ?_⟩
  refine IxS.pcs hp.cells hpl (by omega) (by omega) ?_
  intro b o p hp1 c1 c2 c3
  have hp' : ps[j]? = some p := hp1
  have hs := hsm p (List.mem_of_getElem? hp')
  unfold Pc.Sm at hs
  refine LdV.mk c3 ?_
  refine IxS.pcs hp.cells hpl (by omega) (by omega) ?_
  intro b o q hq d1 d2 d3
  have : q = p := by rw [hp1] at hq; cases hq; rfl
  subst this
  refine LdV.mk d2 (UnI.mk ?_)
  rw [wi (n := q.t - q.f) (by omega) (by omega)]
  rw [findL_drop hp'] at hf
  have hdrop : ps.drop j = q :: ps.drop (j + 1) := by
    rw [List.drop_eq_getElem_cons hjl]
    rw [List.getElem?_eq_getElem hjl] at hp'
    cases hp'; rfl
  have hbl : (byt ps).length = (byt (ps.take j)).length + (byt (ps.drop j)).length := by rw [← List.length_append, ← byt_append, List.take_append_drop]
  rw [hby] at hbl
  refine BrD (fun hlt => ?_) (fun hge2 => ?_)
  · rw [if_neg (by omega)] at hf
    have := k mm hle1
    rw [← hf] at this
    exact this
  · rw [if_pos (by omega)] at hf
    rw [hdrop, byt_cons, List.length_append, bytes_len] at hx1 hbl
    rw [wi (n := x - (q.t - q.f)) (by omega) (by omega)]
    refine ⟨ps.length - (j + 1), by omega, rfl, rfl, rfl, j + 1, ?_, by omega, rfl, by omega, by omega, hf⟩
    rw [wi (by omega) (by omega)]; omega
end
end Go.E
