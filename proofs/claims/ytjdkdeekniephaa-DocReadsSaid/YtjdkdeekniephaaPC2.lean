import Derived.Test.YtjdkdeekniephaaPC1
set_option linter.unusedVariables false
set_option maxRecDepth 20000
namespace Go.E.Pz
open Go.H Go.E
attribute [local irreducible] BiN MkS ConvN LookN MapUpN CallV HC

theorem cutL_append (lo hi : Int) : ∀ (ps qs : List Pc) (k : Int), (∀ p ∈ ps, p.Ok) → cutL lo hi k (ps ++ qs) = cutL lo hi k ps ++ cutL lo hi (k + ((byt ps).length : Nat)) qs
  | [], qs, k, _ => by simp [cutL, byt]
  | p :: ps, qs, k, h => by
    have hp := h p (by simp)
    unfold Pc.Ok at hp
    have ih := cutL_append lo hi ps qs (k + (p.t - p.f)) (fun p hp => h p (by simp [hp]))
    have e : k + (p.t - p.f) + ((byt ps).length : Nat) = k + ((byt (p :: ps)).length : Nat) := by
      rw [byt_cons, List.length_append, bytes_len]; omega
    rw [List.cons_append, cutL_cons, cutL_cons, ih, e]
    split <;> rfl

theorem cut_loop {m : Mem} {ps : List Pc} {la : Option Addr} {ll lc : Nat} (hc : CellsAt m la (pcs ps)) (hl : ps.length = ll) (hs : ∀ p ∈ ps, p.Sm) (hb : (byt ps).length ≤ 1000000) {lo hi : Int} (h0 : 0 ≤ lo) (h1 : lo ≤ 1000000) (h2 : 0 ≤ hi) (h3 : hi ≤ 1000000) {R : Ending → Mem → Prop}
    (h : ∀ a' l' c' m', Le m m' → Own m' T_api_Piece 3 a' l' c' (pcs (cutL lo hi 0 ps)) → Fresh m a' → R (.returned (.slice a' l' c')) m') : HC P piece_cut.id #[.slice la ll lc, .int .i64 lo, .int .i64 hi] m R := by
  have hok : ∀ p ∈ ps, p.Ok := fun p hp => (hs p hp).ok
  have hge := byt_ge hok
  refine piece_cut.ok _ _ _ _ _ _ _ ?_
  refine ⟨fun N x1 x2 oa ol oc at_ a l c x12 i mm => x1 = lo ∧ x2 = hi ∧ a = la ∧ l = ll ∧ x12 = ((ll : Nat) : Int) ∧ Le m mm ∧ Fresh m oa ∧ ∃ k : Nat, i = k ∧ k ≤ ll ∧ N = ll - k ∧ at_ = ((byt (ps.take k)).length : Nat) ∧ Own mm T_api_Piece 3 oa ol oc (pcs (cutL lo hi 0 (ps.take k))) ∧ ol ≤ k,
    ll, ⟨rfl, rfl, rfl, rfl, rfl, Le.refl m, Fresh.none m, 0, rfl, by omega, by omega, by simp [byt], by simpa [cutL, pcs] using Own.nil m T_api_Piece 3, by omega⟩, ?_⟩
  rintro N x1 x2 oa ol oc at_ a l c x12 i mm ⟨rfl, rfl, rfl, rfl, rfl, hle, hfr, k, rfl, hk, rfl, rfl, ho, hol⟩
  refine BrD (fun hlt => ?_) (fun hge2 => ?_)
  rotate_left
  · have e : ps.take k = ps := List.take_of_length_le (by omega)
    rw [e] at ho
    exact h oa ol oc mm hle ho hfr
  refine IxS.pcs (CellsAt.le hle hc) hl (by omega) (by omega) ?_
  intro b o p hp c1 c2 c3
  have hp' : ps[k]? = some p := hp
  have hsm := hs p (List.mem_of_getElem? hp')
  unfold Pc.Sm at hsm
  refine LdV.mk c1 ?_
  refine LdV.mk c2 ?_
  refine LdV.mk c3 ?_
  intro bp hbp
  refine set3 hbp ?_
  refine LdV.of (o := 0) (set_same _ _ _) rfl ?_
  refine LdV.of (o := 1) (set_same _ _ _) rfl ?_
  refine LdV.of (o := 2) (set_same _ _ _) rfl ?_
  refine size_spec _ _ _ ?_
  intro m5 hle5
  have hpb := hle5 _ _ (set_same mm bp (.cells #[.bool p.a, .int .i64 p.f, .int .i64 p.t] T_api_Piece (0, 0)))
  have hle05 : Le mm m5 := (Le.set hbp _).trans hle5
  have e1 := byt_take_len hp'
  have e2 := byt_take_le ps (k + 1)
  have e3 := byt_take_le ps k
  -- the tail of a round
  have tail : ∀ (oa' : Option Addr) (ol' oc' : Nat) (m7 : Mem), m7 bp = some (.cells #[.bool p.a, .int .i64 p.f, .int .i64 p.t] T_api_Piece (0, 0)) → Le m m7 → Fresh m oa' → Own m7 T_api_Piece 3 oa' ol' oc' (pcs (cutL x1 x2 0 (ps.take (k + 1)))) → ol' ≤ k + 1 →
      piece_cut.k2 (fun x1' x2' oa ol oc at_ a' l' c x12 i mm => ∃ N1, N1 < l - k ∧ (x1' = x1 ∧ x2' = x2 ∧ a' = a ∧ l' = l ∧ x12 = ((l : Nat) : Int) ∧ Le m mm ∧ Fresh m oa ∧ ∃ k : Nat, i = k ∧ k ≤ l ∧ N1 = l - k ∧ at_ = ((byt (ps.take k)).length : Nat) ∧ Own mm T_api_Piece 3 oa ol oc (pcs (cutL x1 x2 0 (ps.take k))) ∧ ol ≤ k))
        x1 x2 oa' ol' oc' ((byt (ps.take k)).length : Nat) bp 0 a l c ((l : Nat) : Int) k R m7 := by
    intro oa' ol' oc' m7 hb7 hle7 hfr7 ho7 hol7
    unfold piece_cut.k2
    refine LdV.of (o := 0) hb7 rfl ?_
    refine LdV.of (o := 1) hb7 rfl ?_
    refine LdV.of (o := 2) hb7 rfl ?_
    refine size_spec _ _ _ ?_
    intro m8 hle8
    refine ⟨l - (k + 1), by omega, rfl, rfl, rfl, rfl, rfl, hle7.trans hle8, hfr7, k + 1, ?_, by omega, rfl, ?_, Own.le hle8 ho7, hol7⟩
    · rw [wi (by omega) (by omega)]; omega
    · rw [wi (n := p.t - p.f) (by omega) (by omega), wi (by omega) (by omega)]; omega
  have hstep : cutL x1 x2 0 (ps.take (k + 1)) = cutL x1 x2 0 (ps.take k) ++ cutL x1 x2 ((byt (ps.take k)).length : Nat) [p] := by
    rw [List.take_add_one, hp', Option.toList_some, cutL_append _ _ _ _ _ (fun q hq => hok q (List.mem_of_mem_take hq)), Int.zero_add]
  have hx : (if 0 > IntKind.i64.wrap (x1 - ((byt (ps.take k)).length : Nat)) then 0 else IntKind.i64.wrap (x1 - ((byt (ps.take k)).length : Nat))) = max (x1 - ((byt (ps.take k)).length : Nat)) 0 := by
    rw [wi (by omega) (by omega)]; split <;> omega
  have hy : (if IntKind.i64.wrap (p.t - p.f) < IntKind.i64.wrap (x2 - ((byt (ps.take k)).length : Nat)) then IntKind.i64.wrap (p.t - p.f) else IntKind.i64.wrap (x2 - ((byt (ps.take k)).length : Nat))) = min (x2 - ((byt (ps.take k)).length : Nat)) (p.t - p.f) := by
    rw [wi (n := p.t - p.f) (by omega) (by omega), wi (n := x2 - ((byt (ps.take k)).length : Nat)) (by omega) (by omega)]; split <;> omega
  dsimp only [Cont]
  refine UnI.mk ?_
  rw [hx, hy]
  refine BrD (fun hc1 => ?_) (fun hc1 => ?_)
  · refine LdV.of (o := 0) hpb rfl ?_
    refine LdV.of (o := 1) hpb rfl ?_
    refine LdV.of (o := 1) hpb rfl ?_
    refine UnI.mk ?_
    rw [wi (n := p.f + max (x1 - ((byt (ps.take k)).length : Nat)) 0) (by omega) (by omega), wi (n := p.f + min (x2 - ((byt (ps.take k)).length : Nat)) (p.t - p.f)) (by omega) (by omega)]
    refine push_row ePc (by decide) (Own.le hle05 ho) (news := #[.bool p.a, .int .i64 (p.f + max (x1 - ((byt (ps.take k)).length : Nat)) 0), .int .i64 (p.f + min (x2 - ((byt (ps.take k)).length : Nat)) (p.t - p.f))]) rfl (by intro v hv; simp at hv; rcases hv with rfl | rfl | rfl <;> rfl) (by omega) (by decide) ?_
    intro a' c' m7 hch7 ho7 hb7
    have hoa : ∀ b, blk oa = some b → m b = none := fun b e => hfr b e
    refine tail a' (ol + 1) c' m7 ?_ ?_ ?_ ?_ (by omega)
    · refine hch7.eq bp _ hpb (fun e => ?_)
      exact ho.live bp e hbp
    · exact hch7.to_le (hle.trans hle05) hoa
    · rcases hb7 with e | e
      · intro b hb; exact hfr b (e ▸ hb)
      · exact Fresh.le (hle.trans hle05) e
    · rw [hstep, pcs_append]
      rw [cutL_cons, if_pos hc1]
      simpa [pcs, Pc.vals, cutL] using ho7
  · refine tail oa ol oc m5 hpb (hle.trans hle05) hfr ?_ (by omega)
    rw [hstep, cutL_cons, if_neg hc1]
    simpa [cutL] using Own.le hle05 ho
end Go.E.Pz
