/- This project's own logic, printed forms and lemmas, as far as this claim needs them (part 4). -/
import Derived.Test.YthabagojnljbpaaQPlaceAll3
set_option linter.unusedVariables false
set_option linter.unusedSimpArgs false
set_option maxRecDepth 20000
namespace Go.E.Pl
open Go.H Go.E Go.E.Rg
attribute [local irreducible] BiN MkS ConvN LookN MapUpN CallV HC
theorem walk_alt {S : Nat → Bool} {ps : List Rx} (ih : ∀ a ∈ ps, form a = true ∧ WalkS a) : WalkS (.mk 3 S ps) := by
  intro m V pb st sa sc fa fc fv n v R h hB hn ha k
  have hcnt : cnt (.mk 3 S ps) = cntL ps := by unfold cnt cntL; rw [setsOf, if_neg (by decide), if_pos (.inr rfl)]
  rw [hcnt] at hn
  obtain ⟨prs, a, c, rfl, rfl, hl, hb, hc, hp⟩ := ha.inv
  have ewk : wk also (.mk 3 S (prs.map (·.1))) st = wkA also (prs.map (·.1)) ⟨[], [], false⟩ st := by unfold wk; rw [if_neg (by decide), if_neg (by decide), if_pos rfl]
  rw [ewk] at k
  show HC P place_Places_walk.id #[.pointer (some ⟨pb, 0, none⟩), rxA 3 S (.slice a prs.length c)] m R
  refine place_Places_walk.ok _ _ _ _ _ _ _ _ _ _ _ ?_
  refine newRx ?_
  intro b3 m1 hb3 hle1 h3
  obtain ⟨p1, g1, l3⟩ := h.mine hle1 hb3 h3
  intro b4 hb4
  obtain ⟨p2, g2, l4⟩ := p1.mine (Le.set hb4 (.cells zP T_place_part (0, 0))) hb4 (set_same _ _ _)
  have l32 := l3.go g2
  generalize m1.set b4 (.cells zP T_place_part (0, 0)) = m2 at p2 g2 l4 l32 ⊢
  have g02 := g1.trans g2
  have n4 : m b4 = none := hle1.new hb4
  refine LdV.s0 l32.at_ (UnI.mk ?_)
  refine BrEf (by decide) ?_
  refine BrEf (by decide) ?_
  refine BrEt rfl ?_
  intro b6 hb6
  obtain ⟨p6, g6, l6⟩ := p2.mine (Le.set hb6 (.cells zP T_place_part (0, 0))) hb6 (set_same _ _ _)
  have n6 : m b6 = none := g02.chg.new hb6
  have hne64 : b6 ≠ b4 := by rintro rfl; rw [l4.at_] at hb6; cases hb6
  have l36 := l32.go g6
  have l46 := l4.go g6
  generalize m2.set b6 (.cells zP T_place_part (0, 0)) = m6 at p6 g6 l6 l36 l46 ⊢
  refine LdV.s5 l36.at_ (UnS.mk ?_)
  refine ⟨fun N p x4b x4o o6b o6o xa xl xc n1 i mm => p = some ⟨pb, 0, none⟩ ∧ x4b = b4 ∧ x4o = 0 ∧ o6b = b6 ∧ o6o = 0 ∧ xa = a ∧ xl = prs.length ∧ n1 = ((prs.length : Nat) : Int) ∧
      ∃ (j : Nat) (Vm : Mem) (stj : Sta) (nj : Nat) (fi la : List Nat) (nu : Bool) (sa' : Option Addr) (sc' : Nat) (fa' : Option Addr) (fc' : Nat) (fv' : List Value) (oa : Option Addr) (oc : Nat) (ol : Option Addr) (olc : Nat), i = (j : Int) ∧ j ≤ prs.length ∧ N = prs.length - j ∧
        Rnd (Ft pb sa fa) m V pb b4 b6 mm Vm stj nj fi la nu sa' sc' fa' fc' fv' oa oc ol olc ∧ nj + cntL ((prs.map (·.1)).drop j) ≤ 10000 ∧ wkA also ((prs.map (·.1)).drop j) ⟨fi, la, nu⟩ stj = wkA also (prs.map (·.1)) ⟨[], [], false⟩ st, prs.length,
    ⟨rfl, rfl, rfl, rfl, rfl, rfl, rfl, rfl, 0, V, st, n, [], [], false, sa, sc, fa, fc, fv, none, 0, none, 0, rfl, by omega, by omega, ⟨p6, g02.trans g6, hB, n4, n6, l46, l6, hne64, CellsAt.empty _ _, CellsAt.empty _ _, Ok.nil _, Ok.nil _⟩, by simpa using hn, by simp⟩, ?_⟩
  rintro N p x4b x4o o6b o6o xa xl xc n1 i mm ⟨rfl, rfl, rfl, rfl, rfl, rfl, rfl, rfl, j, Vm, stj, nj, fi, la, nu, sa', sc', fa', fc', fv', oa, oc, ol, olc, rfl, hj, rfl, hr, hnj, hwk⟩
  have hlen : (prs.map (·.1)).length = prs.length := List.length_map _
  unfold place_Places_walk.l5B
  refine BrD (fun hlt => ?_) (fun hge => ?_)
  · have hjl : j < prs.length := by omega
    have hpm := List.getElem_mem hjl
    obtain ⟨a', l', c', hv⟩ := (hp _ hpm).sl
    obtain ⟨hfj, hwj⟩ := ih prs[j].1 (List.mem_map.mpr ⟨_, hpm, rfl⟩)
    have hdrop : (prs.map (·.1)).drop j = prs[j].1 :: (prs.map (·.1)).drop (j + 1) := by
      rw [List.drop_eq_getElem_cons (by rw [hlen]; exact hjl), List.getElem_map]
    rw [hdrop, cntL_cons] at hnj
    rw [hdrop] at hwk
    have haj := hp _ hpm
    rw [hv] at haj
    refine IxS.rx6 ((hc.le hr.g.le).le hr.p.le) hjl hv ?_
    refine copyRx ?_
    intro b8 m7 hb8 hle7 h7
    obtain ⟨p7, g7, l8⟩ := hr.p.mine hle7 hb8 h7
    have hr7 := hr.go p7 g7 hr.b (Nat.le_refl _)
    refine get6 h7 ?_
    refine hwj p7 hr.b (by omega) (haj.le hr.g.le) ?_
    intro m8 V8 sa8 sc8 fa8 fc8 fv8 qa qc qla qlc p8 g8 cq cql
    obtain ⟨b8', ⟨hq1, hq2⟩, hq3, hq4⟩ := wk_bnd hfj hr.b
    have hr8 := hr7.go p8 g8 b8' (by omega)
    have kq : Ok (nj + cnt prs[j].1) (wk also prs[j].1 stj).1.fi := ⟨hq1, hq2⟩
    have kql : Ok (nj + cnt prs[j].1) (wk also prs[j].1 stj).1.la := ⟨hq3, hq4⟩
    have hwk2 : wkA also ((prs.map (·.1)).drop (j + 1)) ⟨also fi (wk also prs[j].1 stj).1.fi, also la (wk also prs[j].1 stj).1.la, nu || (wk also prs[j].1 stj).1.nu⟩ (wk also prs[j].1 stj).2 = wkA also (prs.map (·.1)) ⟨[], [], false⟩ st := hwk
    generalize (wk also prs[j].1 stj).1 = q at kq kql cq cql hwk2 ⊢
    generalize (wk also prs[j].1 stj).2 = st8 at p8 b8' hr8 hwk2
    have hn8 : nj + cnt prs[j].1 ≤ 10000 := by omega
    have hn9 : nj + cnt prs[j].1 + cntL ((prs.map (·.1)).drop (j + 1)) ≤ 10000 := by omega
    generalize nj + cnt prs[j].1 = n8 at kq kql b8' hr8 hn8 hn9
    refine ContPt.mk ?_
    refine copyPt ?_
    intro b9 m12 hb9 hle12 h12
    obtain ⟨p12, g12, l9⟩ := p8.mine hle12 hb9 h12
    have hr12 := hr8.go p12 g12 b8' (Nat.le_refl _)
    refine Sub.all ?_
    refine LdV.s0 hr12.l6.at_ (UnS.mk ?_)
    refine LdV.s0 l9.at_ (UnS.mk ?_)
    refine LdV.s1 hr12.l6.at_ (UnS.mk ?_)
    refine LdV.s1 l9.at_ (UnS.mk ?_)
    refine LdV.s2 hr12.l6.at_ (UnB.mk ?_)
    have k1 := hr12.kf.len
    have k2 := kq.len
    have k3 := hr12.kl.len
    have k4 := kql.len
    have cq12 := cq.le g12.le
    have cql12 := cql.le g12.le
    refine also_spec (hr12.cf.le p12.le) rfl (cq12.le p12.le) rfl (by omega) ?_
    intro m14 a1 c1 hle14 hc14 hf14
    dsimp only [Cont]
    refine UnS.mk ?_
    refine Lk.all hle14 ?_
    obtain ⟨p14, g14⟩ := p12.see hle14
    have hr14 := hr12.go p14 g14 b8' (Nat.le_refl _)
    have l914 := l9.go g14
    have hs14 := CellsAt.see (V := V8) hc14 hf14
    refine also_spec (hr14.cl.le p14.le) rfl ((cql12.le g14.le).le p14.le) rfl (by omega) ?_
    intro m16 a2 c2 hle16 hc16 hf16
    dsimp only [Cont]
    refine UnS.mk ?_
    refine Lk.all hle16 ?_
    obtain ⟨p16, g16⟩ := p14.see hle16
    have hr16 := hr14.go p16 g16 b8' (Nat.le_refl _)
    have l916 := l914.go g16
    have hs16 := CellsAt.see (V := see m12 m14 V8) hc16 hf16
    have fin := fun (z : Bool) => hr16.put (nu' := z) (oc' := c1) (olc' := c2) (hs14.le g16.le) hs16 (hr16.kf.also kq) (hr16.kl.also kql)
    refine Br.mk (fun hz => ?_) (fun hz => ?_)
    · refine put3 hr16.l6.at_ ?_
      refine ⟨prs.length - (j + 1), by omega, rfl, rfl, rfl, rfl, rfl, rfl, rfl, rfl, j + 1, _, _, n8, _, _, true, _, _, _, _, _, _, _, _, _, ?_, by omega, rfl, fin true, hn9, ?_⟩
      · rw [wi (by omega) (by omega)]; omega
      · rw [hz] at hwk2; exact hwk2
    · refine LdV.s2 l916.at_ (UnB.mk ?_)
      refine put3 hr16.l6.at_ ?_
      refine ⟨prs.length - (j + 1), by omega, rfl, rfl, rfl, rfl, rfl, rfl, rfl, rfl, j + 1, _, _, n8, _, _, q.nu, _, _, _, _, _, _, _, _, _, ?_, by omega, rfl, fin q.nu, hn9, ?_⟩
      · rw [wi (by omega) (by omega)]; omega
      · rw [hz] at hwk2; exact hwk2
  · have e : (prs.map (·.1)).drop j = [] := List.drop_eq_nil_of_le (by omega)
    rw [e] at hwk
    rw [← hwk] at k
    exact hr.end_ k
theorem walk_sign {x : Int} {S : Nat → Bool} {y : Rx} (h4 : 4 ≤ x) (h6 : x ≤ 6) (hf : form y = true) (ih : WalkS y) : WalkS (.mk x S [y]) := by
  intro m V pb st sa sc fa fc fv n v R h hB hn ha k
  have k1 : x ≠ 1 := by omega
  have k2 : x ≠ 2 := by omega
  have k3 : x ≠ 3 := by omega
  have hcnt : cnt (.mk x S [y]) = cnt y := by unfold cnt; rw [setsOf, if_neg k1, if_neg (by omega), sets1]
  rw [hcnt] at hn
  obtain ⟨prs, a, c, hps, rfl, hl, hb, hc, hp⟩ := ha.inv
  obtain ⟨pr, rfl⟩ : ∃ p, prs = [p] := by
    have := congrArg List.length hps
    rw [List.length_map] at this
    exact List.length_eq_one_iff.mp this.symm
  have hyp : y = pr.1 := by simpa using hps
  subst hyp
  have ewk : wk also (.mk x S [pr.1]) st = wk1 also x [pr.1] st := by unfold wk; rw [if_neg k1, if_neg k2, if_neg k3]
  rw [ewk] at k
  show HC P place_Places_walk.id #[.pointer (some ⟨pb, 0, none⟩), rxA x S (.slice a 1 c)] m R
  refine place_Places_walk.ok _ _ _ _ _ _ _ _ _ _ _ ?_
  refine newRx ?_
  intro b3 m1 hb3 hle1 h3
  obtain ⟨p1, g1, l3⟩ := h.mine hle1 hb3 h3
  intro b4 hb4
  obtain ⟨p2, g2, l4⟩ := p1.mine (Le.set hb4 (.cells zP T_place_part (0, 0))) hb4 (set_same _ _ _)
  have l32 := l3.go g2
  generalize m1.set b4 (.cells zP T_place_part (0, 0)) = m2 at p2 g2 l4 l32 ⊢
  have g02 := g1.trans g2
  have n4 : m b4 = none := hle1.new hb4
  refine LdV.s0 l32.at_ (UnI.mk ?_)
  refine BrEf k1 ?_
  refine BrEf k2 ?_
  refine BrEf k3 ?_
  refine LdV.s5 l32.at_ (UnS.mk ?_)
  obtain ⟨a', l', c', hv⟩ := (hp pr (by simp)).sl
  have haj := hp pr (by simp)
  rw [hv] at haj
  refine IxS.rx6 (prs := [pr]) (hc.le p2.le) (j := 0) (by simp) hv ?_
  refine ih p2 hB (by omega) haj ?_
  intro m8 V8 sa8 sc8 fa8 fc8 fv8 qa qc qla qlc p8 g8 cq cql
  obtain ⟨b8', ⟨hq1, hq2⟩, hq3, hq4⟩ := wk_bnd hf hB
  have kq : Ok (n + cnt pr.1) (wk also pr.1 st).1.fi := ⟨hq1, hq2⟩
  have kql : Ok (n + cnt pr.1) (wk also pr.1 st).1.la := ⟨hq3, hq4⟩
  have k' : KW T_place_Places (Ft pb sa fa) m V pb ⟨(wk also pr.1 st).1.fi, (wk also pr.1 st).1.la, (wk also pr.1 st).1.nu || decide (x ≠ 5)⟩ ⟨(wk also pr.1 st).2.sets, if x ≠ 6 then lk also (wk also pr.1 st).2.fol (wk also pr.1 st).1.la (wk also pr.1 st).1.fi else (wk also pr.1 st).2.fol⟩ R := k
  clear k
  generalize (wk also pr.1 st).1 = q at kq kql cq cql k' ⊢
  generalize (wk also pr.1 st).2 = st8 at p8 b8' k'
  refine ContPt.mk ?_
  refine copyPt ?_
  intro b9 m12 hb9 hle12 h12
  obtain ⟨p12, g12, l9⟩ := p8.mine hle12 hb9 h12
  have l312 := (l32.go g8).go g12
  have l412 := (l4.go g8).go g12
  have g012 := (g02.trans g8).trans g12
  have n9 : m b9 = none := (g02.trans g8).chg.new hb9
  have hne : b9 ≠ b4 := by rintro rfl; rw [(l4.go g8).at_] at hb9; cases hb9
  have hne3 : b9 ≠ b3 := by rintro rfl; rw [(l32.go g8).at_] at hb9; cases hb9
  -- the end
  have fin : ∀ {m5 V5 : Mem} {fv5 : List Value} {st5 : Sta}, PSt T_place_Places m5 V5 pb st5 sa8 sc8 fa8 fc8 fv5 → Gone (Ft pb sa fa) m V (Ft pb sa8 fa8) m5 V5 → Loc (Ft pb sa8 fa8) m5 V5 b3 (.cells (rxO x S (.slice a 1 c)) T_api_Rx (0, 0)) → Loc (Ft pb sa8 fa8) m5 V5 b4 (.cells zP T_place_part (0, 0)) →
      Loc (Ft pb sa8 fa8) m5 V5 b9 (.cells (pO qa q.fi.length qc qla q.la.length qlc q.nu) T_place_part (0, 0)) → CellsAt V5 qa (ints (ns q.fi)) → CellsAt V5 qla (ints (ns q.la)) → KW T_place_Places (Ft pb sa fa) m V pb ⟨q.fi, q.la, q.nu || decide (x ≠ 5)⟩ st5 R → place_Places_walk.k6 b3 0 b4 0 b9 0 R m5 := by
    intro m5 V5 fv5 st5 p5 g5 l35 l45 l95 c5 cl5 kk
    unfold place_Places_walk.k6
    have tail : ∀ z, z = (q.nu || decide (x ≠ 5)) → St1 m5 b9 (0 + 2) (.bool z) fun m1 =>
        LdV m1 b9 0 fun v => UnS v fun x151_0a x151_0l x151_0c => LdV m1 b9 (0 + 1) fun v => UnS v fun x151_1a x151_1l x151_1c => LdV m1 b9 (0 + 2) fun v => UnB v fun x151_2 =>
        St1 m1 b4 0 (.slice x151_0a x151_0l x151_0c) fun m2 => St1 m2 b4 (0 + 1) (.slice x151_1a x151_1l x151_1c) fun m3 => St1 m3 b4 (0 + 2) (.bool x151_2) fun m4 =>
        LdV m4 b4 0 fun v => UnS v fun res0_0a res0_0l res0_0c => LdV m4 b4 (0 + 1) fun v => UnS v fun res0_1a res0_1l res0_1c => LdV m4 b4 (0 + 2) fun v => UnB v fun res0_2 =>
        R (.returned (.agg #[.slice res0_0a res0_0l res0_0c, .slice res0_1a res0_1l res0_1c, .bool res0_2])) m4 := by
      rintro z rfl
      refine St1.to (pO qa q.fi.length qc qla q.la.length qlc (q.nu || decide (x ≠ 5))) l95.at_ (by simp) rfl (by simp) ?_
      have p6 := p5.put l95 (.cells (pO qa q.fi.length qc qla q.la.length qlc (q.nu || decide (x ≠ 5))) T_place_part (0, 0))
      have g6 := g5.locw n9 (.cells (pO qa q.fi.length qc qla q.la.length qlc (q.nu || decide (x ≠ 5))) T_place_part (0, 0))
      have l46 := l45.other hne (ox := .cells (pO qa q.fi.length qc qla q.la.length qlc (q.nu || decide (x ≠ 5))) T_place_part (0, 0))
      refine get3 (set_same _ _ _) ?_
      refine ret3 l46.at_ ?_
      exact kk _ _ sa8 sc8 fa8 fc8 fv5 qa qc qla qlc (p6.put l46 _) (g6.locw n4 _) c5 cl5
    refine LdV.s2 l95.at_ (UnB.mk ?_)
    refine Br.mk (fun hz => ?_) (fun hz => ?_)
    · exact tail true (by rw [hz]; rfl)
    · refine LdV.s0 l35.at_ (UnI.mk ?_)
      refine tail (x != 5) ?_
      rw [hz, Bool.false_or]
      by_cases e : x = 5
      · subst e; rfl
      · rw [decide_eq_true e]; simpa using e
  refine LdV.s0 l312.at_ (UnI.mk ?_)
  refine BrN (fun h6n => ?_) (fun h6e => ?_)
  · rw [if_pos h6n] at k'
    refine LdV.s1 l9.at_ (UnS.mk ?_)
    refine LdV.s0 l9.at_ (UnS.mk ?_)
    refine links_spec p12 b8'.bnd (by omega) (cql.le g12.le) (cq.le g12.le) (fun z hz => by rw [b8'.len]; exact kql.2 z hz) (by have := kql.len; omega) kq ?_
    intro m13 V13 fv13 p13 g13
    dsimp only [Cont]
    refine UnTup.mk (UnNil.mk ?_)
    exact fin p13 (g012.trans g13) (l312.go g13) (l412.go g13) (l9.go g13) ((cq.le g12.le).le g13.le) ((cql.le g12.le).le g13.le) k'
  · rw [if_neg (by simpa using h6e)] at k'
    exact fin p12 g012 l312 l412 l9 (cq.le g12.le) (cql.le g12.le) k'
theorem walk_spec (r : Rx) : form r = true → WalkS r := by
  refine Rx.ind (C := fun r => form r = true → WalkS r) ?_ r
  intro k S ps ih hf
  rcases form_cases hf with ⟨rfl, rfl, hS⟩ | ⟨_, hall, ⟨hk | hk, hlen⟩ | ⟨h4, h6, x, rfl, hx⟩⟩
  · exact walk_leaf
  · subst hk; exact walk_cat (fun a ha => ⟨(hall a ha).2, ih a ha (hall a ha).2⟩)
  · subst hk; exact walk_alt (fun a ha => ⟨(hall a ha).2, ih a ha (hall a ha).2⟩)
  · exact walk_sign h4 h6 (hall x (by simp)).2 (ih x (by simp) (hall x (by simp)).2)
end Go.E.Pl
set_option linter.unusedVariables false
set_option linter.unusedSimpArgs false
set_option maxRecDepth 20000
namespace Go.E.Pl
open Go.H Go.E Go.E.Rg
/-- A way: from a place that reads at i to one that has read ahead of j. -/
inductive Way (w : List UInt8) (A : Nat → UInt8 → Prop) (F : Nat → Nat → Prop) : Nat → Nat → Nat → Nat → Prop where
  | one {p i : Nat} {c : UInt8} : w[i]? = some c → A p c → Way w A F p i p (i + 1)
  | step {p i p' q j : Nat} {c : UInt8} : w[i]? = some c → A p c → F p p' → Way w A F p' (i + 1) q j → Way w A F p i q j
section
variable {w : List UInt8} {A : Nat → UInt8 → Prop} {F G : Nat → Nat → Prop}
theorem Way.mono (h : ∀ a b, F a b → G a b) {p i q j : Nat} (k : Way w A F p i q j) : Way w A G p i q j := by
  induction k with
  | one a b => exact .one a b
  | step a b c _ ih => exact .step a b (h _ _ c) ih
theorem Way.app {p i q x p' q' j : Nat} (k : Way w A F p i q x) (e : F q p') (l : Way w A F p' x q' j) : Way w A F p i q' j := by
  induction k with
  | one a b => exact .step a b e l
  | step a b c _ ih => exact .step a b c (ih e l)
theorem Way.stay {n m : Nat} (h : ∀ a b, In n m a → F a b → G a b ∧ In n m b) {p i q j : Nat} (k : Way w A F p i q j) (hp : In n m p) : Way w A G p i q j ∧ In n m q := by
  induction k with
  | one a b => exact ⟨.one a b, hp⟩
  | step a b c _ ih =>
    obtain ⟨h1, h2⟩ := h _ _ hp c
    obtain ⟨g1, g2⟩ := ih h2
    exact ⟨.step a b h1 g1, g2⟩
/-- The last letter of a way. -/
theorem Way.last {p i q j : Nat} (k : Way w A F p i q j) : ∃ j', j = j' + 1 ∧ ∃ c, w[j']? = some c ∧ A q c ∧ ((p = q ∧ i = j') ∨ ∃ q', Way w A F p i q' j' ∧ F q' q) := by
  induction k with
  | one a b => exact ⟨_, rfl, _, a, b, .inl ⟨rfl, rfl⟩⟩
  | step a b c _ ih =>
    obtain ⟨j', e, c', h1, h2, h3⟩ := ih
    refine ⟨j', e, c', h1, h2, .inr ?_⟩
    rcases h3 with ⟨rfl, rfl⟩ | ⟨q', h4, h5⟩
    · exact ⟨_, .one a b, c⟩
    · exact ⟨q', .step a b c h4, h5⟩
end
section
variable (w : List UInt8) (A : Nat → UInt8 → Prop)
def Sts (n : Nat) (l : List (Nat → Bool)) : Prop := ∀ k S, l[k]? = some S → ∀ c : UInt8, A (n + k) c ↔ S c.toNat = true
variable {w : List UInt8} {A : Nat → UInt8 → Prop}
theorem Sts.left {n : Nat} {l m : List (Nat → Bool)} (h : Sts A n (l ++ m)) : Sts A n l := fun k S hk => h k S (by
  have : k < l.length := by
    rcases Nat.lt_or_ge k l.length with h | h
    · exact h
    · rw [List.getElem?_eq_none h] at hk; cases hk
  rw [List.getElem?_append_left this]; exact hk)
theorem Sts.right {n : Nat} {l m : List (Nat → Bool)} (h : Sts A n (l ++ m)) : Sts A (n + l.length) m := fun k S hk c => by
  have := h (l.length + k) S (by rw [List.getElem?_append_right (by omega)]; rw [show l.length + k - l.length = k by omega]; exact hk) c
  rw [Nat.add_assoc]; exact this
end
end Go.E.Pl
set_option linter.unusedVariables false
set_option linter.unusedSimpArgs false
set_option maxRecDepth 20000
namespace Go.E.Pl
open Go.H Go.E Go.E.Rg
theorem cnt_nodes (r : Rx) : cnt r ≤ nodes r := by
  refine Rx.rec (motive_1 := fun r => cnt r ≤ nodes r) (motive_2 := fun ps => cntL ps ≤ nodesL ps ∧ (sets1 ps).length ≤ nodesL ps) ?_ ?_ ?_ r
  · intro k S ps ⟨h1, h2⟩
    unfold cnt nodes
    rw [setsOf]
    split
    · simp
    · split
      · unfold cntL at h1; omega
      · omega
  · simp [cntL, setsL, sets1, nodesL]
  · intro r rs h1 ⟨h2, h3⟩
    rw [cntL_cons, nodesL, sets1]
    unfold cnt at h1
    refine ⟨?_, ?_⟩
    · unfold cnt; omega
    · omega
theorem may_cnt {r : Rx} (h : may r = 0) : cnt r ≤ 40 := Nat.le_trans (cnt_nodes r) (may_form h).2.1
/-- The places of an expression, by relations. -/
structure PlOK (r : Rx) (p : Plc) : Prop where
  sets : p.sets = setsOf r
  len : p.fol.length = cnt r
  nu : p.nu = null r
  fi : ∀ x, x ∈ p.fi ↔ Fi 0 r x
  la : ∀ x, x ∈ p.la ↔ La 0 r x
  fo : ∀ i j, j ∈ p.fol.getD i [] ↔ Fo 0 r i j
  rfi : Rz p.fi
  rla : Rz p.la
  rfo : ∀ l ∈ p.fol, Rz l
theorem plc_ok {r : Rx} (hf : form r = true) : PlOK r (plc r) := by
  have h := walk_ok (J := also) (fun a b x => also_mem) r hf ⟨[], []⟩ rfl
  obtain ⟨g1, g2⟩ := walk_rz r ⟨[], []⟩ (fun l hl => by cases hl)
  refine ⟨by show (wk also r ⟨[], []⟩).2.sets = _; rw [h.sets]; rfl, ?_, h.nu, h.fi, h.la, fun i j => ?_, g1.1, g1.2, g2⟩
  · show (wk also r ⟨[], []⟩).2.fol.length = _
    rw [h.fol_lt]; simp
  · have := h.fo i j
    show j ∈ (wk also r ⟨[], []⟩).2.fol.getD i [] ↔ _
    rw [this]
    simp
theorem PlOK.fi_lt {r : Rx} {p : Plc} (h : PlOK r p) : ∀ x ∈ p.fi, x < cnt r := fun x hx => by have := ((bounds r 0).1 x ((h.fi x).mp hx)).2; omega
theorem PlOK.la_lt {r : Rx} {p : Plc} (h : PlOK r p) : ∀ x ∈ p.la, x < cnt r := fun x hx => by have := ((bounds r 0).2.1 x ((h.la x).mp hx)).2; omega
theorem PlOK.fo_lt {r : Rx} {p : Plc} (h : PlOK r p) : ∀ l ∈ p.fol, ∀ x ∈ l, x < cnt r := fun l hl x hx => by
  obtain ⟨i, hi, rfl⟩ := List.getElem_of_mem hl
  have := (h.fo i x).mp (by rw [List.getD_eq_getElem?_getD, List.getElem?_eq_getElem hi]; exact hx)
  have := ((bounds r 0).2.2 _ _ this).2.2
  omega
end Go.E.Pl
set_option linter.unusedVariables false
set_option linter.unusedSimpArgs false
set_option maxRecDepth 20000
namespace Go.E.Pl
open Go.H Go.E Go.E.Rg
abbrev cat : List Nat → List Nat → List Nat := (· ++ ·)
def Lb (B : Nat) (fol : List (List Nat)) : Prop := ∀ l ∈ fol, l.length ≤ B
theorem Lb.get {B : Nat} {fol : List (List Nat)} (h : Lb B fol) (i : Nat) : (fol.getD i []).length ≤ B := by
  rw [List.getD_eq_getElem?_getD]
  cases e : fol[i]? with
  | none => simp
  | some l => exact h l (List.mem_of_getElem? e)
theorem Lb.lk {F : Nat} {first : List Nat} (hf : first.length ≤ F) : ∀ (last : List Nat) (fol : List (List Nat)) (B : Nat), Lb B fol → Lb (B + last.length * F) (lk cat fol last first) := by
  intro last
  induction last with
  | nil => intro fol B h l hl; have := h l hl; omega
  | cons i last ih =>
    intro fol B h
    have h2 : Lb (B + F) (fol.set i (fol.getD i [] ++ first)) := by
      intro l hl
      rcases List.mem_or_eq_of_mem_set hl with hl | rfl
      · have := h l hl; omega
      · rw [List.length_append]; have := h.get i; omega
    have := ih _ _ h2
    intro l hl
    have h3 := this l hl
    rw [List.length_cons, Nat.add_mul]
    omega
theorem lk100 {last first : List Nat} {fol : List (List Nat)} {B : Nat} (h1 : last.length ≤ 100) (h2 : first.length ≤ 100) (h : Lb B fol) : Lb (B + 10000) (lk cat fol last first) := by
  intro l hl
  have := Lb.lk h2 last fol B h l hl
  have : last.length * 100 ≤ 100 * 100 := Nat.mul_le_mul_right _ h1
  omega
structure WB (r : Rx) (st : Sta) (q : Part) (st' : Sta) : Prop where
  fi : q.fi.length ≤ cnt r
  la : q.la.length ≤ cnt r
  fo : ∀ B, Lb B st.fol → Lb (B + (2 * nodes r - 1) * 10000) st'.fol
theorem nodes_pos (r : Rx) : 1 ≤ nodes r := by obtain ⟨k, S, ps⟩ := r; rw [nodes]; omega
theorem walk_wb (r : Rx) : form r = true → cnt r ≤ 100 → ∀ st, WB r st (wk cat r st).1 (wk cat r st).2 := by
  refine Rx.ind (C := fun r => form r = true → cnt r ≤ 100 → ∀ st, WB r st (wk cat r st).1 (wk cat r st).2) ?_ r
  intro k S ps ih hf hc st
  rcases form_cases hf with ⟨rfl, rfl, hS⟩ | ⟨_, hall, ⟨hk | hk, hlen⟩ | ⟨h4, h6, x, rfl, hx⟩⟩
  · have e : cnt (.mk 1 S []) = 1 := by unfold cnt; rw [setsOf, if_pos rfl]; rfl
    unfold wk
    rw [if_pos rfl]
    refine ⟨by rw [e]; simp, by rw [e]; simp, fun B h l hl => ?_⟩
    rcases List.mem_append.mp hl with hl | hl
    · have := h l hl; omega
    · rw [List.mem_singleton] at hl; subst hl; simp
  · subst hk
    have ec : cnt (.mk 2 S ps) = cntL ps := by unfold cnt cntL; rw [setsOf, if_neg (by decide), if_pos (.inl rfl)]
    have ew : wk cat (.mk 2 S ps) st = wkC cat ps ⟨[], [], true⟩ st := by unfold wk; rw [if_neg (by decide), if_pos rfl]
    rw [ec] at hc
    have key : ∀ (ps : List Rx), (∀ a ∈ ps, cnt a ≤ 100 → ∀ st, WB a st (wk cat a st).1 (wk cat a st).2) → ∀ (out : Part) (st : Sta), out.fi.length + cntL ps ≤ 100 → out.la.length + cntL ps ≤ 100 →
        (wkC cat ps out st).1.fi.length ≤ out.fi.length + cntL ps ∧ (wkC cat ps out st).1.la.length ≤ out.la.length + cntL ps ∧ ∀ B, Lb B st.fol → Lb (B + 2 * nodesL ps * 10000) (wkC cat ps out st).2.fol := by
      intro ps
      induction ps with
      | nil =>
        intro _ out st _ _
        refine ⟨by simp [wkC], by simp [wkC], ?_⟩
        intro B h l hl
        have h1 : l ∈ st.fol := by simpa [wkC] using hl
        exact Nat.le_trans (h l h1) (Nat.le_add_right _ _)
      | cons r rs ihl =>
        intro hw out st h1 h2
        rw [cntL_cons] at h1 h2 ⊢
        have h := hw r (by simp) (by omega) st
        have hfi := h.fi
        have hla := h.la
        have e1 : (stepC cat out (wk cat r st).1).fi.length ≤ out.fi.length + cnt r := by
          show (if out.nu = true then out.fi ++ (wk cat r st).1.fi else out.fi).length ≤ _
          split
          · rw [List.length_append]; omega
          · omega
        have e2 : (stepC cat out (wk cat r st).1).la.length ≤ out.la.length + cnt r := by
          show (if (wk cat r st).1.nu = true then out.la ++ (wk cat r st).1.la else (wk cat r st).1.la).length ≤ _
          split
          · rw [List.length_append]; omega
          · omega
        obtain ⟨g1, g2, g3⟩ := ihl (fun a ha => hw a (by simp [ha])) (stepC cat out (wk cat r st).1) ⟨(wk cat r st).2.sets, lk cat (wk cat r st).2.fol out.la (wk cat r st).1.fi⟩ (by omega) (by omega)
        refine ⟨?_, ?_, fun B hB => ?_⟩
        · show (wkC cat rs _ _).1.fi.length ≤ _; omega
        · show (wkC cat rs _ _).1.la.length ≤ _; omega
        · have := g3 _ (lk100 (by omega) (by omega) (h.fo B hB))
          intro l hl
          have h3 := this l hl
          have hp := nodes_pos r
          rw [nodesL]
          omega
    obtain ⟨g1, g2, g3⟩ := key ps (fun a ha hca st => ih a ha (hall a ha).2 hca st) ⟨[], [], true⟩ st (by simpa using hc) (by simpa using hc)
    rw [ew]
    refine ⟨by rw [ec]; simpa using g1, by rw [ec]; simpa using g2, fun B hB l hl => ?_⟩
    have h9 := g3 B hB l hl
    exact Nat.le_trans h9 (Nat.add_le_add_left (Nat.mul_le_mul_right _ (by rw [nodes]; omega)) _)
  · subst hk
    have ec : cnt (.mk 3 S ps) = cntL ps := by unfold cnt cntL; rw [setsOf, if_neg (by decide), if_pos (.inr rfl)]
    have ew : wk cat (.mk 3 S ps) st = wkA cat ps ⟨[], [], false⟩ st := by unfold wk; rw [if_neg (by decide), if_neg (by decide), if_pos rfl]
    rw [ec] at hc
    have key : ∀ (ps : List Rx), (∀ a ∈ ps, cnt a ≤ 100 → ∀ st, WB a st (wk cat a st).1 (wk cat a st).2) → ∀ (out : Part) (st : Sta), out.fi.length + cntL ps ≤ 100 → out.la.length + cntL ps ≤ 100 →
        (wkA cat ps out st).1.fi.length ≤ out.fi.length + cntL ps ∧ (wkA cat ps out st).1.la.length ≤ out.la.length + cntL ps ∧ ∀ B, Lb B st.fol → Lb (B + 2 * nodesL ps * 10000) (wkA cat ps out st).2.fol := by
      intro ps
      induction ps with
      | nil =>
        intro _ out st _ _
        refine ⟨by simp [wkA], by simp [wkA], ?_⟩
        intro B h l hl
        have h1 : l ∈ st.fol := by simpa [wkA] using hl
        exact Nat.le_trans (h l h1) (Nat.le_add_right _ _)
      | cons r rs ihl =>
        intro hw out st h1 h2
        rw [cntL_cons] at h1 h2 ⊢
        have h := hw r (by simp) (by omega) st
        have hfi := h.fi
        have hla := h.la
        obtain ⟨g1, g2, g3⟩ := ihl (fun a ha => hw a (by simp [ha])) ⟨out.fi ++ (wk cat r st).1.fi, out.la ++ (wk cat r st).1.la, out.nu || (wk cat r st).1.nu⟩ (wk cat r st).2 (by show (out.fi ++ (wk cat r st).1.fi).length + cntL rs ≤ 100; rw [List.length_append]; omega) (by show (out.la ++ (wk cat r st).1.la).length + cntL rs ≤ 100; rw [List.length_append]; omega)
        have e1 : (out.fi ++ (wk cat r st).1.fi).length = out.fi.length + (wk cat r st).1.fi.length := List.length_append
        have e2 : (out.la ++ (wk cat r st).1.la).length = out.la.length + (wk cat r st).1.la.length := List.length_append
        refine ⟨?_, ?_, fun B hB => ?_⟩
        · exact Nat.le_trans g1 (by show (out.fi ++ (wk cat r st).1.fi).length + cntL rs ≤ _; omega)
        · exact Nat.le_trans g2 (by show (out.la ++ (wk cat r st).1.la).length + cntL rs ≤ _; omega)
        · have := g3 _ (h.fo B hB)
          intro l hl
          have h3 := this l hl
          have hp := nodes_pos r
          rw [nodesL]
          omega
    obtain ⟨g1, g2, g3⟩ := key ps (fun a ha hca st => ih a ha (hall a ha).2 hca st) ⟨[], [], false⟩ st (by simpa using hc) (by simpa using hc)
    rw [ew]
    refine ⟨by rw [ec]; simpa using g1, by rw [ec]; simpa using g2, fun B hB l hl => ?_⟩
    have h9 := g3 B hB l hl
    exact Nat.le_trans h9 (Nat.add_le_add_left (Nat.mul_le_mul_right _ (by rw [nodes]; omega)) _)
  · have k1 : k ≠ 1 := by omega
    have k2 : k ≠ 2 := by omega
    have k3 : k ≠ 3 := by omega
    have ec : cnt (.mk k S [x]) = cnt x := by unfold cnt; rw [setsOf, if_neg k1, if_neg (by omega), sets1]
    have ew : wk cat (.mk k S [x]) st = wk1 cat k [x] st := by unfold wk; rw [if_neg k1, if_neg k2, if_neg k3]
    rw [ec] at hc
    have h := ih x (by simp) (hall x (by simp)).2 hc st
    have hfi := h.fi
    have hla := h.la
    rw [ew]
    refine ⟨by rw [ec]; exact hfi, by rw [ec]; exact hla, fun B hB l hl => ?_⟩
    have hl : l ∈ (if k ≠ 6 then lk cat (wk cat x st).2.fol (wk cat x st).1.la (wk cat x st).1.fi else (wk cat x st).2.fol) := hl
    have hp := nodes_pos x
    split at hl
    · have h9 := lk100 (by omega) (by omega) (h.fo B hB) l hl
      have e : 2 * nodes (.mk k S [x]) - 1 = (2 * nodes x - 1) + 2 := by rw [nodes, nodesL, nodesL]; omega
      rw [e, Nat.add_mul]
      refine Nat.le_trans h9 ?_
      rw [Nat.add_assoc]
      exact Nat.add_le_add_left (Nat.add_le_add_left (by decide) _) _
    · have h9 := h.fo B hB l hl
      exact Nat.le_trans h9 (Nat.add_le_add_left (Nat.mul_le_mul_right _ (by rw [nodes, nodesL, nodesL]; omega)) _)
end Go.E.Pl
set_option linter.unusedVariables false
set_option linter.unusedSimpArgs false
set_option maxRecDepth 20000
namespace Go.E.Pl
open Go.H Go.E Go.E.Rg
attribute [local irreducible] BiN MkS ConvN LookN MapUpN CallV HC
theorem nints_one (l : List Nat) : ∀ v ∈ ints (ns l), notOne v = false := ints_one _
theorem nints_len (l : List Nat) : (ints (ns l)).length = l.length := by rw [ints_len, ns_len]
theorem nints_append (a b : List Nat) : ints (ns (a ++ b)) = ints (ns a) ++ ints (ns b) := by rw [ns_append]; unfold ints; rw [List.map_append]
/-- Two rows of numbers, one behind the other, in a row of one's own: for a region. -/
theorem ncat {m r : Mem} {va wa : Option Addr} {vc wc : Nat} {v w : List Nat} (hr : Le r m) (hv : CellsAt m va (ints (ns v))) (hw : CellsAt m wa (ints (ns w))) (h1 : v.length ≤ 1000000) (h2 : w.length ≤ 1000000) {ty ty' : TypeId} {cs cs' : Array Bool} {K : Option Addr → Nat → Nat → Mem → Mem → Prop} {Pn : List PanicEntry → Mem → Prop}
    (h : ∀ a c m', Le m m' → CellsAt m' a (ints (ns (v ++ w))) → Fresh m a → K a (v ++ w).length c m' r) :
    NewC m #[] T_int fun b m1 => Lk r m1 fun r1 => BiN P .append #[T_sl_int, T_sl_int] ty cs #[.slice (some ⟨b, 0, none⟩) 0 0, .slice va v.length vc] m1 (fun z m2 => UnS z fun a l c => Lk r1 m2 fun r2 => BiN P .append #[T_sl_int, T_sl_int] ty' cs' #[.slice a l c, .slice wa w.length wc] m2 (fun z m3 => UnS z fun a l c => K a l c m3 r2) Pn) Pn := by
  intro b hb
  refine lk_same (hr.trans (Le.set hb _)) ?_
  refine clone_gen eInt (by decide) hv (by rw [nints_len]; omega) (nints_one _) (by omega) (by omega) ?_ b hb
  intro a' c' m2 hle2 ho2 hf2
  refine UnS.mk ?_
  refine lk_same (hr.trans hle2) ?_
  refine append_own eInt ho2 (hw.le hle2) (by rw [nints_len]; omega) (nints_one _) (by decide) (by omega) (by omega) ?_
  intro a3 c3 m3 ho3 hg
  obtain ⟨hle3, hf3⟩ := grown_le hle2 hf2 hg
  refine UnS.mk ?_
  have el : v.length + w.length = (v ++ w).length := List.length_append.symm
  rw [el, ← nints_append] at ho3
  rw [el]
  exact h a3 c3 m3 hle3 ho3.cells hf3
theorem goes_spec {m V : Mem} {pb : Nat} {st : Sta} {sa : Option Addr} {sc : Nat} {fa : Option Addr} {fc : Nat} {fv : List Value} (h : PSt T_eyotref8_Places m V pb st sa sc fa fc fv) {B : Nat} (hB : Lb B st.fol) (hBn : B ≤ 900000) {xs ys : List Nat} {la : Option Addr} {lc : Nat} {ra : Option Addr} {rc : Nat}
    (hx : CellsAt V la (ints (ns xs))) (hy : CellsAt V ra (ints (ns ys))) (hxl : ∀ x ∈ xs, x < st.fol.length) (hxs : xs.length ≤ 100) (hys : ys.length ≤ 100) {R : Ending → Mem → Prop}
    (k : ∀ m' V' fv', PSt T_eyotref8_Places m' V' pb ⟨st.sets, lk cat st.fol xs ys⟩ sa sc fa fc fv' → Gone (Ft pb sa fa) m V (Ft pb sa fa) m' V' → R (.returned (.tuple #[])) m') :
    HC P eyotref8_Places_goes.id #[.pointer (some ⟨pb, 0, none⟩), .slice la xs.length lc, .slice ra ys.length rc] m R := by
  refine eyotref8_Places_goes.ok _ _ _ _ _ _ _ _ _ ?_
  refine ⟨fun N p xa xl xc fa1 fl1 fc1 i mm => p = some ⟨pb, 0, none⟩ ∧ fa1 = ra ∧ fl1 = ys.length ∧ fc1 = rc ∧ xa = la ∧ xl = xs.length ∧ ∃ (j : Nat) (Vm : Mem) (fvm : List Value), i = (j : Int) ∧ j ≤ xs.length ∧ N = xs.length - j ∧
      PSt T_eyotref8_Places mm Vm pb ⟨st.sets, lk cat st.fol (xs.take j) ys⟩ sa sc fa fc fvm ∧ Gone (Ft pb sa fa) m V (Ft pb sa fa) mm Vm, xs.length,
    ⟨rfl, rfl, rfl, rfl, rfl, rfl, 0, V, fv, rfl, by omega, by omega, h, Gone.refl _ _ _⟩, ?_⟩
  rintro N p xa xl xc fa1 fl1 fc1 i mm ⟨rfl, rfl, rfl, rfl, rfl, rfl, j, Vm, fvm, rfl, hj, rfl, hp, hg⟩
  unfold eyotref8_Places_goes.l1B
  refine BrD (fun hlt => ?_) (fun hge => ?_)
  · have hjl : j < xs.length := by omega
    have hxj : (ns xs)[j]? = some ((xs[j] : Nat) : Int) := by unfold ns; rw [List.getElem?_map, List.getElem?_eq_getElem hjl]; rfl
    have hlb := Lb.lk hys (xs.take j) st.fol B hB
    have htl : (xs.take j).length * 100 ≤ 100 * 100 := Nat.mul_le_mul_right _ (by rw [List.length_take]; omega)
    have hxx : xs[j] < (lk cat st.fol (xs.take j) ys).length := by rw [lk_len]; exact hxl _ (List.getElem_mem _)
    obtain ⟨a1, c1, g1, g2⟩ := hp.rows.2 xs[j] _ (List.getElem?_eq_getElem hxx)
    have hrl := hlb _ (List.getElem_mem hxx)
    have ld : ∀ {K : Int → Prop}, K ((xs[j] : Nat) : Int) → IxS xa xs.length (j : Int) 1 fun b o => LdV mm b o fun v => UnI v .i64 fun x => K x := by
      intro K hK
      refine IxS.ints (xs := ns xs) ((hx.le hg.le).le hp.le) (ns_len _) (by omega) (by omega) ?_
      intro v hv
      rw [Int.toNat_natCast, hxj] at hv
      cases hv
      exact hK
    refine Sub.all ?_
    show LdV mm pb (0 + 3) _
    refine LdV.mk (cell_of hp.obj rfl) (UnS.mk ?_)
    refine ld ?_
    show LdV mm pb (0 + 3) _
    refine LdV.mk (cell_of hp.obj rfl) (UnS.mk ?_)
    refine ld ?_
    refine IxS.ld hp.of.cells (by rw [hp.rows.1]) (by omega) (by show ((xs[j] : Nat) : Int) < (((lk cat st.fol (xs.take j) ys).length : Nat) : Int); omega) ?_
    intro v hv
    rw [Int.toNat_natCast, g1] at hv
    cases hv
    refine UnS.mk ?_
    refine ncat (Le.refl mm) (g2.le hp.le) ((hy.le hg.le).le hp.le) (by omega) (by omega) ?_
    intro a' c' m2 hle2 hc2 hf2
    refine lk_same hle2 ?_
    obtain ⟨hp2, hg2⟩ := hp.see hle2
    refine hp2.wr hxx (CellsAt.see hc2 hf2) ?_
    intro m4 hp4 hg4
    have e1 : Pl.lk cat st.fol (xs.take (j + 1)) ys = (Pl.lk cat st.fol (xs.take j) ys).set xs[j] ((Pl.lk cat st.fol (xs.take j) ys)[xs[j]] ++ ys) := by
      rw [List.take_add_one, List.getElem?_eq_getElem hjl]
      show Pl.lk cat st.fol (xs.take j ++ [xs[j]]) ys = _
      rw [lk_snoc, List.getD_eq_getElem?_getD, List.getElem?_eq_getElem hxx]; rfl
    have key : PSt T_eyotref8_Places m4 (Pl.see mm m2 Vm) pb ⟨st.sets, Pl.lk cat st.fol (xs.take (j + 1)) ys⟩ sa sc fa fc (fvm.set xs[j] (Value.slice a' ((lk cat st.fol (List.take j xs) ys)[xs[j]] ++ ys).length c')) := by
      rw [e1]; exact hp4
    refine ⟨xs.length - (j + 1), by omega, rfl, rfl, rfl, rfl, rfl, rfl, j + 1, _, _, ?_, by omega, rfl, key, (hg.trans hg2).trans hg4⟩
    rw [wi (by omega) (by omega)]; omega
  · have e : xs.take j = xs := List.take_of_length_le (by omega)
    rw [e] at hp
    exact k mm Vm fvm hp hg
end Go.E.Pl
set_option linter.unusedVariables false
set_option linter.unusedSimpArgs false
set_option maxRecDepth 20000
namespace Go.E.Pl
open Go.H Go.E Go.E.Rg
attribute [local irreducible] BiN MkS ConvN LookN MapUpN CallV HC
/-- Where a Places' four rows lie. -/
structure Ads where
  sa : Option Addr
  sc : Nat
  ia : Option Addr
  ic : Nat
  la : Option Addr
  lc : Nat
  fa : Option Addr
  fc : Nat
abbrev lO (A : Ads) (p : Plc) : Array Value := #[.slice A.sa p.sets.length A.sc, .slice A.ia p.fi.length A.ic, .slice A.la p.la.length A.lc, .slice A.fa p.fol.length A.fc, .bool p.nu]
/-- A Places in memory. -/
structure PlV (m : Mem) (p : Plc) (A : Ads) : Prop where
  cs : CellsAt m A.sa (p.sets.flatMap four)
  cf : CellsAt m A.ia (ints (ns p.fi))
  cl : CellsAt m A.la (ints (ns p.la))
  co : ∃ fv, CellsAt m A.fa fv ∧ RowsOK m p.fol fv
theorem PlV.le {m m' : Mem} {p : Plc} {A : Ads} (h : PlV m p A) (k : Le m m') : PlV m' p A := ⟨h.cs.le k, h.cf.le k, h.cl.le k, by obtain ⟨fv, h1, h2⟩ := h.co; exact ⟨fv, h1.le k, h2.le k⟩⟩
def pl0 : Plc := ⟨[], [], [], [], false⟩
def ads0 : Ads := ⟨none, 0, none, 0, none, 0, none, 0⟩
theorem PlV.zero (m : Mem) : PlV m pl0 ads0 := ⟨CellsAt.empty _ _, CellsAt.empty _ _, CellsAt.empty _ _, [], CellsAt.empty _ _, rfl, fun i l h => by cases h⟩
def ofP (r : Rx) : Plc × Int := if may r = 0 then (plc r, 0) else (pl0, may r)
theorem ofP_ok {r : Rx} (h : may r = 0) : ofP r = (plc r, 0) := by unfold ofP; rw [if_pos h]
theorem ofP_no {r : Rx} (h : may r ≠ 0) : ofP r = (pl0, may r) := by unfold ofP; rw [if_neg h]
section
variable {m : Mem} {b : Nat} {e : TypeId}
theorem put5 {x0 x1 x2 x3 x4 u0 u1 u2 u3 u4 : Value} {K : Mem → Prop} (h : m b = some (.cells #[x0, x1, x2, x3, x4] e (0, 0))) (h0 : notOne u0 = false) (h1 : notOne u1 = false) (h2 : notOne u2 = false) (h3 : notOne u3 = false) (h4 : notOne u4 = false)
    (q : K (m.set b (.cells #[u0, u1, u2, u3, u4] e (0, 0)))) : St1 m b 0 u0 fun m1 => St1 m1 b 1 u1 fun m2 => St1 m2 b 2 u2 fun m3 => St1 m3 b 3 u3 fun m4 => St1 m4 b 4 u4 K := by
  refine St1.to #[u0, x1, x2, x3, x4] h (by simp) h0 (by simp) ?_
  refine St1.to #[u0, u1, x2, x3, x4] (set_same _ _ _) (by simp) h1 (by simp) ?_
  rw [set_set]
  refine St1.to #[u0, u1, u2, x3, x4] (set_same _ _ _) (by simp) h2 (by simp) ?_
  rw [set_set]
  refine St1.to #[u0, u1, u2, u3, x4] (set_same _ _ _) (by simp) h3 (by simp) ?_
  rw [set_set]
  refine St1.to #[u0, u1, u2, u3, u4] (set_same _ _ _) (by simp) h4 (by simp) ?_
  rw [set_set]
  exact q
theorem get5 {A : Ads} {p : Plc} {fr : Nat × Nat} {K : Option Addr → Nat → Nat → Option Addr → Nat → Nat → Option Addr → Nat → Nat → Option Addr → Nat → Nat → Bool → Prop} (h : m b = some (.cells (lO A p) e fr))
    (q : K A.sa p.sets.length A.sc A.ia p.fi.length A.ic A.la p.la.length A.lc A.fa p.fol.length A.fc p.nu) :
    LdV m b 0 fun v => UnS v fun x0a x0l x0c => LdV m b 1 fun v => UnS v fun x1a x1l x1c => LdV m b 2 fun v => UnS v fun x2a x2l x2c => LdV m b 3 fun v => UnS v fun x3a x3l x3c => LdV m b 4 fun v => UnB v fun z => K x0a x0l x0c x1a x1l x1c x2a x2l x2c x3a x3l x3c z :=
  LdV.s0 h (LdV.s1 h (LdV.s2 h (LdV.s3 h (LdV.s4 h q))))
theorem ContPl.mk {A : Ads} {p : Plc} {x : Int} {K : Option Addr → Nat → Nat → Option Addr → Nat → Nat → Option Addr → Nat → Nat → Option Addr → Nat → Nat → Bool → Int → Mem → Prop} {Pn : List PanicEntry → Mem → Prop} (h : K A.sa p.sets.length A.sc A.ia p.fi.length A.ic A.la p.la.length A.lc A.fa p.fol.length A.fc p.nu x m) :
    Cont (fun v m => UnTup v fun us0 => UnCons us0 fun w us1 => UnAgg w fun l => UnCons l fun v l => UnS v fun x0a x0l x0c => UnCons l fun v l => UnS v fun x1a x1l x1c => UnCons l fun v l => UnS v fun x2a x2l x2c => UnCons l fun v l => UnS v fun x3a x3l x3c => UnCons l fun v l => UnB v fun z => UnNil l (
      UnCons us1 fun w us2 => UnI w .i64 fun x => UnNil us2 (K x0a x0l x0c x1a x1l x1c x2a x2l x2c x3a x3l x3c z x m))) Pn (.returned (.tuple #[.agg (lO A p), .int .i64 x])) m := h
/-- A result in a place of its own. -/
theorem own5 {A : Ads} {p : Plc} {x0 x1 x2 x3 x4 : Value} {K : Nat → Mem → Prop} (h : ∀ b m1, m b = none → Le m m1 → m1 b = some (.cells (lO A p) e (0, 0)) → K b m1) :
    NewC m #[x0, x1, x2, x3, x4] e fun b m1 => St1 m1 b 0 (.slice A.sa p.sets.length A.sc) fun m2 => St1 m2 b 1 (.slice A.ia p.fi.length A.ic) fun m3 => St1 m3 b 2 (.slice A.la p.la.length A.lc) fun m4 => St1 m4 b 3 (.slice A.fa p.fol.length A.fc) fun m5 => St1 m5 b 4 (.bool p.nu) fun m6 => K b m6 := by
  intro b hb
  refine put5 (set_same _ _ _) rfl rfl rfl rfl rfl ?_
  rw [set_set]
  exact h b _ hb (Le.set hb _) (set_same _ _ _)
end
theorem Of_spec {r : Rx} {m : Mem} {v : Value} {R : Ending → Mem → Prop} (ha : ArgC m r v) (hn : nodes r ≤ 4000000000000000000) (k : ∀ m' A, Le m m' → PlV m' (ofP r).1 A → R (.returned (.tuple #[.agg (lO A (ofP r).1), .int .i64 (ofP r).2])) m') :
    HC P place_Of.id #[rxA r.k r.S v] m R := by
  obtain ⟨a, l, c, rfl⟩ := ha.sl
  refine place_Of.ok _ _ _ _ _ _ _ _ _ _ ?_
  refine newRx ?_
  intro b1 m1 hb1 hle1 h1
  intro b2 hb2
  have hle2 := Le.set hb2 (.cells #[.slice none 0 0, .slice none 0 0, .slice none 0 0, .slice none 0 0, .bool false] T_place_Places (0, 0))
  have h12 := hle2 _ _ h1
  have h2 : (m1.set b2 (.cells #[.slice none 0 0, .slice none 0 0, .slice none 0 0, .slice none 0 0, .bool false] T_place_Places (0, 0))) b2 = _ := set_same _ _ _
  generalize m1.set b2 (.cells #[.slice none 0 0, .slice none 0 0, .slice none 0 0, .slice none 0 0, .bool false] T_place_Places (0, 0)) = m2 at hle2 h12 h2 ⊢
  have w2 : m b2 = none := hle1.new hb2
  have l2 := hle1.trans hle2
  refine get6 h12 ?_
  refine May_spec (ha.le l2) hn ?_
  intro m3 hle3
  dsimp only [Cont]
  refine UnI.mk ?_
  have l3 := l2.trans hle3
  have h23 := hle3 _ _ h2
  have h13 := hle3 _ _ h12
  refine BrN (fun h0 => ?_) (fun h0 => ?_)
  · rw [ofP_no h0] at k
    refine put5 (u0 := .slice none 0 0) h23 rfl rfl rfl rfl rfl ?_
    refine get5 (A := ads0) (p := pl0) (set_same _ _ _) ?_
    refine k _ ads0 ?_ (PlV.zero _)
    exact (Chg.set m3 b2 _).to_le l3 (fun b e => by rw [show b = b2 from e]; exact w2)
  · rw [ofP_ok h0] at k
    have hf := (may_form h0).1
    have hcnt := may_cnt h0
    intro b5 hb5
    have hle4 := Le.set hb5 (.cells #[.slice none 0 0, .slice none 0 0, .slice none 0 0, .slice none 0 0, .bool false] T_place_Places (0, 0))
    have h5 : (m3.set b5 (.cells #[.slice none 0 0, .slice none 0 0, .slice none 0 0, .slice none 0 0, .bool false] T_place_Places (0, 0))) b5 = _ := set_same _ _ _
    have h14 := hle4 _ _ h13
    have h24 := hle4 _ _ h23
    generalize m3.set b5 (.cells #[.slice none 0 0, .slice none 0 0, .slice none 0 0, .slice none 0 0, .bool false] T_place_Places (0, 0)) = m4 at hle4 h5 h14 h24 ⊢
    have w5 : m b5 = none := l3.new hb5
    have hne52 : b2 ≠ b5 := by rintro rfl; rw [h23] at hb5; cases hb5
    refine get6 h14 ?_
    have p4 : PSt T_place_Places m4 m b5 ⟨[], []⟩ none 0 none 0 [] := ⟨l3.trans hle4, h5, Own.nil _ _ _, Own.nil _ _ _, ⟨rfl, fun i l h => by cases h⟩, fun b hb => (by rcases hb with rfl | e | e; exact w5; cases e; cases e), fun e => (by cases e), fun e => (by cases e), fun b e => (by cases e)⟩
    have l24 : Loc (Ft b5 none none) m4 m b2 (.cells #[.slice none 0 0, .slice none 0 0, .slice none 0 0, .slice none 0 0, .bool false] T_place_Places (0, 0)) := ⟨h24, w2, fun e => (by rcases e with e | e | e; exact hne52 e; cases e; cases e)⟩
    have hb0 : StB 0 ⟨[], []⟩ := ⟨rfl, rfl, fun l h => by cases h⟩
    refine walk_spec r hf p4 hb0 (by omega) ha ?_
    intro m5 V5 sa sc fa fc fv qa qc qla qlc p5 g5 cq cql
    obtain ⟨b5', ⟨hq1, hq2⟩, hq3, hq4⟩ := wk_bnd hf hb0
    refine ContPt.mk ?_
    refine copyPt ?_
    intro b6 m9 hb6 hle9 h6
    obtain ⟨p9, g9, l69⟩ := p5.mine hle9 hb6 h6
    have l29 := (l24.go g5).go g9
    have hne65 : b6 ≠ b5 := by rintro rfl; rw [p5.obj] at hb6; cases hb6
    refine LdV.s0 p9.obj (UnS.mk ?_)
    have hnum := b5'.num
    refine BrDf (by omega) ?_
    refine ⟨on m9 fun b => b ≠ b5, on_le _ _, ?_⟩
    have hr6 : (on m9 fun b => b ≠ b5) b6 = _ := (on_in (G := fun b => b ≠ b5) hne65).trans h6
    have hr : ∀ o, Le (on m9 fun b => b ≠ b5) (m9.set b5 o) := fun o b o' hbo => by
      obtain ⟨q1, q2⟩ := on_live hbo
      rw [set_other _ _ q1]; exact q2
    generalize (on m9 fun b => b ≠ b5) = r10 at hr6 hr ⊢
    refine LdV.s0 hr6 (UnS.mk (LdV.s1 hr6 (UnS.mk (LdV.s2 hr6 (UnB.mk ?_)))))
    refine St1.to #[.slice sa (wk also r ⟨[], []⟩).2.sets.length sc, .slice qa (wk also r ⟨[], []⟩).1.fi.length qc, .slice none 0 0, .slice fa (wk also r ⟨[], []⟩).2.fol.length fc, .bool false] p9.obj (by simp) rfl (by simp) ?_
    refine lk_same (hr _) ?_
    refine St1.to #[.slice sa (wk also r ⟨[], []⟩).2.sets.length sc, .slice qa (wk also r ⟨[], []⟩).1.fi.length qc, .slice qla (wk also r ⟨[], []⟩).1.la.length qlc, .slice fa (wk also r ⟨[], []⟩).2.fol.length fc, .bool false] (set_same _ _ _) (by simp) rfl (by simp) ?_
    rw [set_set]
    refine lk_same (hr _) ?_
    refine St1.to (lO ⟨sa, sc, qa, qc, qla, qlc, fa, fc⟩ (plc r)) (set_same _ _ _) (by simp) rfl (by simp [plc]) ?_
    rw [set_set]
    refine get5 (set_same _ _ _) ?_
    have h2f : (m9.set b5 (.cells (lO ⟨sa, sc, qa, qc, qla, qlc, fa, fc⟩ (plc r)) T_place_Places (0, 0))) b2 = _ := (set_other _ _ hne52).trans l29.at_
    refine put5 h2f rfl rfl rfl rfl rfl ?_
    refine get5 (A := ⟨sa, sc, qa, qc, qla, qlc, fa, fc⟩) (p := plc r) (set_same _ _ _) ?_
    have hch : Chg (fun b => b = b5 ∨ b = b2) m9 ((m9.set b5 (.cells (lO ⟨sa, sc, qa, qc, qla, qlc, fa, fc⟩ (plc r)) T_place_Places (0, 0))).set b2 (.cells (lO ⟨sa, sc, qa, qc, qla, qlc, fa, fc⟩ (plc r)) T_place_Places (0, 0))) :=
      ⟨fun b o hb hn => by rw [set_other _ _ (fun e => hn (.inr e)), set_other _ _ (fun e => hn (.inl e))]; exact hb, fun b hb => (Chg.set _ b2 _).live b ((Chg.set m9 b5 _).live b hb)⟩
    have hV : Le V5 ((m9.set b5 (.cells (lO ⟨sa, sc, qa, qc, qla, qlc, fa, fc⟩ (plc r)) T_place_Places (0, 0))).set b2 (.cells (lO ⟨sa, sc, qa, qc, qla, qlc, fa, fc⟩ (plc r)) T_place_Places (0, 0))) := fun b o hb => by
      refine hch.eq b o (p9.le b o hb) (fun e => ?_)
      rcases e with rfl | rfl
      · rw [p9.nV b (.inl rfl)] at hb; cases hb
      · rw [l29.hid] at hb; cases hb
    have hap : ∀ b, (blk sa = some b ∨ blk fa = some b) → ¬ (b = b5 ∨ b = b2) := by
      rintro b (hb | hb) (rfl | rfl)
      · exact p9.s1 hb
      · exact l29.out (.inr (.inl hb))
      · exact p9.f1 hb
      · exact l29.out (.inr (.inr hb))
    refine k _ ⟨sa, sc, qa, qc, qla, qlc, fa, fc⟩ (g5.le.trans hV) ⟨(p9.os.chg hch (fun b hb => hap b (.inl hb))).cells, cq.le hV, cql.le hV, fv, (p9.of.chg hch (fun b hb => hap b (.inr hb))).cells, p9.rows.le hV⟩
end Go.E.Pl
set_option linter.unusedVariables false
set_option linter.unusedSimpArgs false
set_option maxRecDepth 20000
namespace Go.E.Pl
open Go.H Go.E Go.E.Rg
attribute [local irreducible] BiN MkS ConvN LookN MapUpN CallV HC
abbrev rO (a : Option Addr) (l c : Nat) (a' : Option Addr) (l' c' : Nat) (z : Bool) : Array Value := #[.slice none 0 0, .slice a l c, .slice a' l' c', .slice none 0 0, .bool z]
abbrev zR : Array Value := #[.slice none 0 0, .slice none 0 0, .slice none 0 0, .slice none 0 0, .bool false]
section
variable {m : Mem} {b : Nat} {e : TypeId} {a : Option Addr} {l c : Nat} {a' : Option Addr} {l' c' : Nat} {z : Bool}
theorem getR {fr : Nat × Nat} {K : Option Addr → Nat → Nat → Option Addr → Nat → Nat → Option Addr → Nat → Nat → Option Addr → Nat → Nat → Bool → Prop} (h : m b = some (.cells (rO a l c a' l' c' z) e fr)) (q : K none 0 0 a l c a' l' c' none 0 0 z) :
    LdV m b 0 fun v => UnS v fun x0a x0l x0c => LdV m b 1 fun v => UnS v fun x1a x1l x1c => LdV m b 2 fun v => UnS v fun x2a x2l x2c => LdV m b 3 fun v => UnS v fun x3a x3l x3c => LdV m b 4 fun v => UnB v fun z => K x0a x0l x0c x1a x1l x1c x2a x2l x2c x3a x3l x3c z :=
  LdV.s0 h (LdV.s1 h (LdV.s2 h (LdV.s3 h (LdV.s4 h q))))
theorem putR {x0 x1 x2 x3 x4 : Value} {K : Mem → Prop} (h : m b = some (.cells #[x0, x1, x2, x3, x4] e (0, 0))) (q : K (m.set b (.cells (rO a l c a' l' c' z) e (0, 0)))) :
    St1 m b 0 (.slice none 0 0) fun m1 => St1 m1 b 1 (.slice a l c) fun m2 => St1 m2 b 2 (.slice a' l' c') fun m3 => St1 m3 b 3 (.slice none 0 0) fun m4 => St1 m4 b 4 (.bool z) K := put5 h rfl rfl rfl rfl rfl q
theorem retR {x0 x1 x2 x3 x4 : Value} {R : Ending → Mem → Prop} (h : m b = some (.cells #[x0, x1, x2, x3, x4] e (0, 0))) (q : R (.returned (.agg (rO a l c a' l' c' z))) (m.set b (.cells (rO a l c a' l' c' z) e (0, 0)))) :
    St1 m b 0 (.slice none 0 0) fun m1 => St1 m1 b 1 (.slice a l c) fun m2 => St1 m2 b 2 (.slice a' l' c') fun m3 => St1 m3 b 3 (.slice none 0 0) fun m4 => St1 m4 b 4 (.bool z) fun m5 =>
    LdV m5 b 0 fun v => UnS v fun x0a x0l x0c => LdV m5 b 1 fun v => UnS v fun x1a x1l x1c => LdV m5 b 2 fun v => UnS v fun x2a x2l x2c => LdV m5 b 3 fun v => UnS v fun x3a x3l x3c => LdV m5 b 4 fun v => UnB v fun z =>
      R (.returned (.agg #[.slice x0a x0l x0c, .slice x1a x1l x1c, .slice x2a x2l x2c, .slice x3a x3l x3c, .bool z])) m5 := putR h (getR (set_same _ _ _) q)
theorem copyR {x0 x1 x2 x3 x4 : Value} {K : Nat → Mem → Prop} (h : ∀ b m1, m b = none → Le m m1 → m1 b = some (.cells (rO a l c a' l' c' z) e (0, 0)) → K b m1) :
    NewC m #[x0, x1, x2, x3, x4] e fun b m1 => St1 m1 b 0 (.slice none 0 0) fun m2 => St1 m2 b 1 (.slice a l c) fun m3 => St1 m3 b 2 (.slice a' l' c') fun m4 => St1 m4 b 3 (.slice none 0 0) fun m5 => St1 m5 b 4 (.bool z) fun m6 => K b m6 := by
  intro b hb
  refine putR (set_same _ _ _) ?_
  rw [set_set]
  exact h b _ hb (Le.set hb _) (set_same _ _ _)
theorem ContR.mk {K : Option Addr → Nat → Nat → Option Addr → Nat → Nat → Option Addr → Nat → Nat → Option Addr → Nat → Nat → Bool → Mem → Prop} {Pn : List PanicEntry → Mem → Prop} (h : K none 0 0 a l c a' l' c' none 0 0 z m) :
    Cont (fun v m => UnAgg v fun l => UnCons l fun v l => UnS v fun x0a x0l x0c => UnCons l fun v l => UnS v fun x1a x1l x1c => UnCons l fun v l => UnS v fun x2a x2l x2c => UnCons l fun v l => UnS v fun x3a x3l x3c => UnCons l fun v l => UnB v fun z => UnNil l (K x0a x0l x0c x1a x1l x1c x2a x2l x2c x3a x3l x3c z m)) Pn (.returned (.agg (rO a l c a' l' c' z))) m := h
end
/-- What the reference's walk hands on. -/
def KR (F0 : Nat → Prop) (m0 V0 : Mem) (pb : Nat) (q : Part) (st' : Sta) (R : Ending → Mem → Prop) : Prop :=
  ∀ (m' V' : Mem) (sa : Option Addr) (sc : Nat) (fa : Option Addr) (fc : Nat) (fv : List Value) (a : Option Addr) (c : Nat) (a' : Option Addr) (c' : Nat), PSt T_eyotref8_Places m' V' pb st' sa sc fa fc fv → Gone F0 m0 V0 (Ft pb sa fa) m' V' →
    CellsAt V' a (ints (ns q.fi)) → CellsAt V' a' (ints (ns q.la)) → R (.returned (.agg (rO a q.fi.length c a' q.la.length c' q.nu))) m'
def WalkR (r : Rx) : Prop := ∀ {m V : Mem} {pb : Nat} {st : Sta} {sa : Option Addr} {sc : Nat} {fa : Option Addr} {fc : Nat} {fv : List Value} {n B : Nat} {v : Value} {R : Ending → Mem → Prop},
  PSt T_eyotref8_Places m V pb st sa sc fa fc fv → StN n st → Lb B st.fol → B + (2 * nodes r - 1) * 10000 ≤ 900000 → n + cnt r ≤ 100 → ArgC V r v → KR (Ft pb sa fa) m V pb (wk cat r st).1 (wk cat r st).2 R →
    HC P eyotref8_Places_walk.id #[.pointer (some ⟨pb, 0, none⟩), rxA r.k r.S v] m R
theorem rleaf_k1 {m0 V0 m V : Mem} {F0 : Nat → Prop} {pb : Nat} {st : Sta} {sa : Option Addr} {sc : Nat} {fa : Option Addr} {fc : Nat} {fv : List Value} {n : Nat} (h : PSt T_eyotref8_Places m V pb st sa sc fa fc fv) (g0 : Gone F0 m0 V0 (Ft pb sa fa) m V) {b4 : Nat} {x0 x1 x2 x3 x4 : Value} (n4 : m0 b4 = none) (h4 : Loc (Ft pb sa fa) m V b4 (.cells #[x0, x1, x2, x3, x4] T_eyotref8_Places (0, 0))) {R : Ending → Mem → Prop}
    (k : KR F0 m0 V0 pb ⟨[n], [n], false⟩ st R) : eyotref8_Places_walk.k1 b4 0 ((n : Nat) : Int) R m := by
  unfold eyotref8_Places_walk.k1
  intro b45 hb45 b47 hb47
  have hne : b47 ≠ b45 := by rintro rfl; rw [set_same] at hb47; cases hb47
  have hb47' : m b47 = none := by rw [set_other _ _ hne] at hb47; exact hb47
  have hle : Le m ((m.set b45 (.cells #[.int .i64 (n : Int)] T_int (0, 0))).set b47 (.cells #[.int .i64 (n : Int)] T_int (0, 0))) := (Le.set hb45 _).trans (Le.set hb47 _)
  have c45 : CellsAt ((m.set b45 (.cells #[.int .i64 (n : Int)] T_int (0, 0))).set b47 (.cells #[.int .i64 (n : Int)] T_int (0, 0))) (some ⟨b45, 0, none⟩) (ints (ns [n])) := cells_at ((set_other _ _ hne.symm).trans (set_same _ _ _)) rfl
  have c47 : CellsAt ((m.set b45 (.cells #[.int .i64 (n : Int)] T_int (0, 0))).set b47 (.cells #[.int .i64 (n : Int)] T_int (0, 0))) (some ⟨b47, 0, none⟩) (ints (ns [n])) := cells_at (set_same _ _ _) rfl
  generalize (m.set b45 (.cells #[.int .i64 (n : Int)] T_int (0, 0))).set b47 (.cells #[.int .i64 (n : Int)] T_int (0, 0)) = m2 at hle c45 c47 ⊢
  obtain ⟨h2, g2⟩ := h.see hle
  have h42 := h4.go g2
  refine retR h42.at_ ?_
  exact k _ _ sa sc fa fc fv (some ⟨b45, 0, none⟩) 1 (some ⟨b47, 0, none⟩) 1 (h2.put h42 _) ((g0.trans g2).locw n4 _) (CellsAt.see c45 (fun b e => by cases e; exact hb45)) (CellsAt.see c47 (fun b e => by cases e; exact hb47'))
theorem rwalk_leaf {S : Nat → Bool} : WalkR (.mk 1 S []) := by
  intro m V pb st sa sc fa fc fv n B v R h hB _ _ hn ha k
  have hn : n ≤ 10000 := by omega
  obtain ⟨prs, a, c, hps, rfl, hl, hb, hc, hp⟩ := ha.inv
  have e : wk cat (.mk 1 S []) st = (⟨[n], [n], false⟩, ⟨st.sets ++ [S], st.fol ++ [[]]⟩) := by unfold wk; rw [if_pos rfl, hB.num]
  rw [e] at k
  show HC P eyotref8_Places_walk.id #[.pointer (some ⟨pb, 0, none⟩), rxA 1 S (.slice a prs.length c)] m R
  refine eyotref8_Places_walk.ok _ _ _ _ _ _ _ _ _ _ _ ?_
  refine newRx ?_
  intro b3 m1 hb3 hle1 h3
  obtain ⟨p1, g1, l3⟩ := h.mine hle1 hb3 h3
  intro b4 hb4
  obtain ⟨p2, g2, l4⟩ := p1.mine (Le.set hb4 (.cells zR T_eyotref8_Places (0, 0))) hb4 (set_same _ _ _)
  have l32 := l3.go g2
  generalize m1.set b4 (.cells zR T_eyotref8_Places (0, 0)) = m2 at p2 g2 l4 l32 ⊢
  have g02 := g1.trans g2
  have n4 : m b4 = none := hle1.new hb4
  refine LdV.s0 l32.at_ (UnI.mk ?_)
  refine BrEt rfl ?_
  show LdV m2 pb 0 _
  refine LdV.s0 p2.obj (UnS.mk ?_)
  have hr : Le (on m2 fun b => ¬ (blk sa = some b ∨ blk fa = some b)) m2 := on_le _ _
  have hrp : (on m2 fun b => ¬ (blk sa = some b ∨ blk fa = some b)) pb = _ := (on_in (fun e => by rcases e with e | e; exact p2.s1 e; exact p2.f1 e)).trans p2.obj
  have hr3 : (on m2 fun b => ¬ (blk sa = some b ∨ blk fa = some b)) b3 = _ := (on_in (fun e => l32.out (.inr e))).trans l32.at_
  have hrc : ∀ {m' : Mem}, Chg (fun b => blk sa = some b ∨ blk fa = some b) m2 m' → Le (on m2 fun b => ¬ (blk sa = some b ∨ blk fa = some b)) m' := by
    intro m' hch b o hbo
    obtain ⟨h1, h2⟩ := on_live hbo
    exact hch.eq b o h2 h1
  refine ⟨_, hr, ?_⟩
  generalize (on m2 fun b => ¬ (blk sa = some b ∨ blk fa = some b)) = r at hr hrp hr3 hrc ⊢
  show LdV r pb 0 _
  refine LdV.s0 hrp (UnS.mk ?_)
  refine LdV.s1 hr3 (UnI.mk (LdV.s2 hr3 (UnI.mk (LdV.s3 hr3 (UnI.mk (LdV.s4 hr3 (UnI.mk ?_)))))))
  show LdV r pb (0 + 3) _
  refine LdV.s3 hrp (UnS.mk ?_)
  have fin : ∀ {m10 : Mem} {sa' : Option Addr} {sc' : Nat} {fa' : Option Addr} {fc' : Nat}, Chg (fun b => blk sa = some b ∨ blk fa = some b) m2 m10 → Own m10 T_api_Set 4 sa' (n + 1) sc' (st.sets.flatMap four ++ four S) → Own m10 T_sl_int 1 fa' (n + 1) fc' (fv ++ [.slice none 0 0]) → (blk sa' = blk sa ∨ Fresh m2 sa') → (blk fa' = blk fa ∨ Fresh m2 fa') → (∀ b, blk sa' = some b → blk fa' ≠ some b) →
      St1 m10 pb 0 (.slice sa' (n + 1) sc') fun m11 => St1 m11 pb (0 + 3) (.slice fa' (n + 1) fc') fun m12 => eyotref8_Places_walk.k1 b4 0 ((st.sets.length : Nat) : Int) R m12 := by
    intro m10 sa' sc' fa' fc' h1 h2 h3 h4 h5 h6
    refine p2.grow hB h1 h2 h3 h4 h5 h6 ?_
    intro m' hp' hg'
    rw [hB.num]
    exact rleaf_k1 hp' (g02.trans hg') n4 (l4.go hg') k
  have chS : ∀ {M1 m' : Mem}, Le m2 M1 → Chg (fun b => blk sa = some b) M1 m' → Chg (fun b => blk sa = some b ∨ blk fa = some b) m2 m' := fun h1 h2 => ((h1.chg _).trans h2 (fun _ _ e => e)).mono (fun _ e => .inl e)
  refine ⟨?_, ?_⟩
  · intro b32 hb32
    refine lk_same (hr.trans (Le.set hb32 _)) ?_
    refine ⟨?_, ?_⟩
    · refine app1 p2 hB hn (Le.set hb32 _) (set_same _ _ _) ?_
      intro sa' sc' m6 hch hos hsa
      refine UnS.mk ?_
      have hm6 := hrc (chS (Le.set hb32 _) hch)
      refine lk_same hm6 ?_
      intro b38 hb38
      refine lk_same (hm6.trans (Le.set hb38 _)) ?_
      refine app2 p2 hB hn (Le.set hb32 _) hch hos hsa (Le.set hb38 _) (set_same _ _ _) ?_
      intro fa' fc' m10 q1 q2 q3 q4 q5 q6
      refine UnS.mk ?_
      exact fin q1 q2 q3 q4 q5 q6
    · intro b38 hb38
      have hle := (Le.set hb32 (.cells #[.int .u64 (L S 0), .int .u64 (L S 1), .int .u64 (L S 2), .int .u64 (L S 3)] T_api_Set (0, 0))).trans (Le.set hb38 (.cells #[.slice none 0 0] T_sl_int (0, 0)))
      refine lk_same (hr.trans hle) ?_
      have hne : b32 ≠ b38 := by rintro rfl; rw [set_same] at hb38; cases hb38
      have w38 : m2 b38 = none := by rw [set_other _ _ (Ne.symm hne)] at hb38; exact hb38
      refine app1 p2 hB hn hle ((set_other _ _ hne).trans (set_same _ _ _)) ?_
      intro sa' sc' m6 hch hos hsa
      refine UnS.mk ?_
      refine lk_same (hrc (chS hle hch)) ?_
      refine app2 p2 hB hn hle hch hos hsa (Le.refl _) (hch.eq _ _ (set_same _ _ _) (fun e => p2.os.live b38 e w38)) ?_
      intro fa' fc' m10 q1 q2 q3 q4 q5 q6
      refine UnS.mk ?_
      exact fin q1 q2 q3 q4 q5 q6
  · intro b38 hb38
    refine lk_same (hr.trans (Le.set hb38 _)) ?_
    intro b32 hb32
    have hle := (Le.set hb38 (.cells #[.slice none 0 0] T_sl_int (0, 0))).trans (Le.set hb32 (.cells #[.int .u64 (L S 0), .int .u64 (L S 1), .int .u64 (L S 2), .int .u64 (L S 3)] T_api_Set (0, 0)))
    refine lk_same (hr.trans hle) ?_
    have hne : b38 ≠ b32 := by rintro rfl; rw [set_same] at hb32; cases hb32
    refine app1 p2 hB hn hle (set_same _ _ _) ?_
    intro sa' sc' m6 hch hos hsa
    refine UnS.mk ?_
    refine lk_same (hrc (chS hle hch)) ?_
    refine app2 p2 hB hn hle hch hos hsa (Le.refl _) (hch.eq _ _ ((set_other _ _ hne).trans (set_same _ _ _)) (fun e => p2.os.live b38 e hb38)) ?_
    intro fa' fc' m10 q1 q2 q3 q4 q5 q6
    refine UnS.mk ?_
    exact fin q1 q2 q3 q4 q5 q6
end Go.E.Pl
set_option linter.unusedVariables false
set_option linter.unusedSimpArgs false
set_option maxRecDepth 20000
namespace Go.E.Pl
open Go.H Go.E Go.E.Rg
attribute [local irreducible] BiN MkS ConvN LookN MapUpN CallV HC
theorem rwk_bnd {r : Rx} (hf : form r = true) {st : Sta} {n : Nat} (h : StN n st) : StN (n + cnt r) (wk cat r st).2 ∧ ∀ x ∈ (wk cat r st).1.la, x < n + cnt r := by
  have hw := walk_ok (J := cat) (fun a b x => List.mem_append) r hf st (by rw [h.len, h.num])
  have e := hw.fol_lt
  rw [h.num] at e
  refine ⟨⟨by rw [← hw.len]; exact e, e⟩, fun x hx => ?_⟩
  have := (hw.la x).mp hx
  rw [h.num] at this
  exact ((bounds r n).2.1 x this).2
/-- A walk of the reference under way. -/
structure RRnd (F0 : Nat → Prop) (m0 V0 : Mem) (pb b3 b4 b6 : Nat) (orx : Obj) (m V : Mem) (st : Sta) (n B : Nat) (fi la : List Nat) (nu : Bool) (sa : Option Addr) (sc : Nat) (fa : Option Addr) (fc : Nat) (fv : List Value) (oa : Option Addr) (oc : Nat) (ol : Option Addr) (olc : Nat) : Prop where
  p : PSt T_eyotref8_Places m V pb st sa sc fa fc fv
  g : Gone F0 m0 V0 (Ft pb sa fa) m V
  b : StN n st
  lb : Lb B st.fol
  n4 : m0 b4 = none
  n6 : m0 b6 = none
  l3 : Loc (Ft pb sa fa) m V b3 orx
  l4 : Loc (Ft pb sa fa) m V b4 (.cells zR T_eyotref8_Places (0, 0))
  l6 : Loc (Ft pb sa fa) m V b6 (.cells (rO oa fi.length oc ol la.length olc nu) T_eyotref8_Places (0, 0))
  ne : b6 ≠ b4
  ne3 : b6 ≠ b3
  cf : CellsAt V oa (ints (ns fi))
  cl : CellsAt V ol (ints (ns la))
  ml : ∀ x ∈ la, x < n
section
variable {F0 : Nat → Prop} {m0 V0 : Mem} {pb b3 b4 b6 b9 : Nat} {orx : Obj} {m V m' V' : Mem} {st st' : Sta} {n n' B B' : Nat} {fi la : List Nat} {nu : Bool} {sa sa' : Option Addr} {sc sc' : Nat} {fa fa' : Option Addr} {fc fc' : Nat} {fv fv' : List Value} {oa : Option Addr} {oc : Nat} {ol : Option Addr} {olc : Nat}
theorem RRnd.go (h : RRnd F0 m0 V0 pb b3 b4 b6 orx m V st n B fi la nu sa sc fa fc fv oa oc ol olc) (p : PSt T_eyotref8_Places m' V' pb st' sa' sc' fa' fc' fv') (g : Gone (Ft pb sa fa) m V (Ft pb sa' fa') m' V') (hb : StN n' st') (hl : Lb B' st'.fol) (hn : n ≤ n') :
    RRnd F0 m0 V0 pb b3 b4 b6 orx m' V' st' n' B' fi la nu sa' sc' fa' fc' fv' oa oc ol olc :=
  ⟨p, h.g.trans g, hb, hl, h.n4, h.n6, h.l3.go g, h.l4.go g, h.l6.go g, h.ne, h.ne3, h.cf.le g.le, h.cl.le g.le, fun x hx => Nat.lt_of_lt_of_le (h.ml x hx) hn⟩
theorem RRnd.put (h : RRnd F0 m0 V0 pb b3 b4 b6 orx m V st n B fi la nu sa sc fa fc fv oa oc ol olc) {fi' la' : List Nat} {nu' : Bool} {oa' : Option Addr} {oc' : Nat} {ol' : Option Addr} {olc' : Nat} (cf : CellsAt V oa' (ints (ns fi'))) (cl : CellsAt V ol' (ints (ns la'))) (ml : ∀ x ∈ la', x < n) :
    RRnd F0 m0 V0 pb b3 b4 b6 orx (m.set b6 (.cells (rO oa' fi'.length oc' ol' la'.length olc' nu') T_eyotref8_Places (0, 0))) V st n B fi' la' nu' sa sc fa fc fv oa' oc' ol' olc' :=
  ⟨h.p.put h.l6 _, h.g.locw h.n6 _, h.b, h.lb, h.n4, h.n6, h.l3.other h.ne3, h.l4.other h.ne, h.l6.put _, h.ne, h.ne3, cf, cl, ml⟩
theorem RRnd.end_ (h : RRnd F0 m0 V0 pb b3 b4 b6 orx m V st n B fi la nu sa sc fa fc fv oa oc ol olc) {R : Ending → Mem → Prop} (k : KR F0 m0 V0 pb ⟨fi, la, nu⟩ st R) :
    LdV m b6 0 fun v => UnS v fun x0a x0l x0c => LdV m b6 (0 + 1) fun v => UnS v fun x1a x1l x1c => LdV m b6 (0 + 2) fun v => UnS v fun x2a x2l x2c => LdV m b6 (0 + 3) fun v => UnS v fun x3a x3l x3c => LdV m b6 (0 + 4) fun v => UnB v fun x4 =>
    St1 m b4 0 (.slice x0a x0l x0c) fun m1 => St1 m1 b4 (0 + 1) (.slice x1a x1l x1c) fun m2 => St1 m2 b4 (0 + 2) (.slice x2a x2l x2c) fun m3 => St1 m3 b4 (0 + 3) (.slice x3a x3l x3c) fun m4 => St1 m4 b4 (0 + 4) (.bool x4) fun m5 =>
    LdV m5 b4 0 fun v => UnS v fun res0_0a res0_0l res0_0c => LdV m5 b4 (0 + 1) fun v => UnS v fun res0_1a res0_1l res0_1c => LdV m5 b4 (0 + 2) fun v => UnS v fun res0_2a res0_2l res0_2c => LdV m5 b4 (0 + 3) fun v => UnS v fun res0_3a res0_3l res0_3c => LdV m5 b4 (0 + 4) fun v => UnB v fun res0_4 =>
    R (.returned (.agg #[.slice res0_0a res0_0l res0_0c, .slice res0_1a res0_1l res0_1c, .slice res0_2a res0_2l res0_2c, .slice res0_3a res0_3l res0_3c, .bool res0_4])) m5 := by
  refine getR h.l6.at_ ?_
  refine retR h.l4.at_ ?_
  exact k _ _ sa sc fa fc fv oa oc ol olc (h.p.put h.l4 _) (h.g.locw h.n4 _) h.cf h.cl
theorem RRnd.side (h : RRnd F0 m0 V0 pb b3 b4 b6 orx m V st n B fi la nu sa sc fa fc fv oa oc ol olc) {o : Obj} (l9 : Loc (Ft pb sa fa) m V b9 o) (n9 : m0 b9 = none) (h6 : b9 ≠ b6) (h4 : b9 ≠ b4) (h3 : b9 ≠ b3) (o' : Obj) : RRnd F0 m0 V0 pb b3 b4 b6 orx (m.set b9 o') V st n B fi la nu sa sc fa fc fv oa oc ol olc :=
  ⟨h.p.put l9 _, h.g.locw n9 _, h.b, h.lb, h.n4, h.n6, h.l3.other h3, h.l4.other h4, h.l6.other h6, h.ne, h.ne3, h.cf, h.cl, h.ml⟩
variable {q : Part} {qa : Option Addr} {qc : Nat} {qla : Option Addr} {qlc : Nat} {i : Int} {R : Ending → Mem → Prop}
variable {K : Option Addr → Nat → Nat → Nat → Nat → Nat → Nat → Int → Mem → Prop}
theorem rcat_k5 {fi' la' : List Nat} (h : RRnd F0 m0 V0 pb b3 b4 b6 orx m V st n B fi' la' nu sa sc fa fc fv oa oc ol olc) (h9 : m b9 = some (.cells (rO qa q.fi.length qc qla q.la.length qlc q.nu) T_eyotref8_Places (0, 0)))
    (hK : ∀ {m' V' : Mem} {sa : Option Addr} {sc : Nat} {fa : Option Addr} {fc : Nat} {fv : List Value} {oa : Option Addr} {oc : Nat} {ol : Option Addr} {olc : Nat}, RRnd F0 m0 V0 pb b3 b4 b6 orx m' V' st n B fi' la' (nu && q.nu) sa sc fa fc fv oa oc ol olc → K (some ⟨pb, 0, none⟩) b3 0 b4 0 b6 0 (IntKind.i64.wrap (i + 1)) m') :
    eyotref8_Places_walk.k5 K (some ⟨pb, 0, none⟩) b3 0 b4 0 b6 0 i b9 0 R m := by
  unfold eyotref8_Places_walk.k5
  refine LdV.s4 h.l6.at_ (UnB.mk ?_)
  refine Br.mk (fun hz => ?_) (fun hz => ?_)
  · refine LdV.s4 h9 (UnB.mk ?_)
    refine St1.to (rO oa fi'.length oc ol la'.length olc q.nu) h.l6.at_ (by simp) rfl (by simp) ?_
    have e : (nu && q.nu) = q.nu := by rw [hz]; rfl
    rw [e] at hK
    exact hK (h.put h.cf h.cl h.ml)
  · refine St1.to (rO oa fi'.length oc ol la'.length olc false) h.l6.at_ (by simp) rfl (by simp) ?_
    have e : (nu && q.nu) = false := by rw [hz]; rfl
    rw [e] at hK
    exact hK (h.put h.cf h.cl h.ml)
theorem rcat_k4 {fi' : List Nat} (h : RRnd F0 m0 V0 pb b3 b4 b6 orx m V st n B fi' la nu sa sc fa fc fv oa oc ol olc) (l9 : Loc (Ft pb sa fa) m V b9 (.cells (rO qa q.fi.length qc qla q.la.length qlc q.nu) T_eyotref8_Places (0, 0))) (h6 : b9 ≠ b6) (cql : CellsAt V qla (ints (ns q.la))) (mql : ∀ x ∈ q.la, x < n) (s1 : la.length ≤ 100) (s2 : q.la.length ≤ 100)
    (hK : ∀ {m' V' : Mem} {sa : Option Addr} {sc : Nat} {fa : Option Addr} {fc : Nat} {fv : List Value} {oa : Option Addr} {oc : Nat} {ol : Option Addr} {olc : Nat}, RRnd F0 m0 V0 pb b3 b4 b6 orx m' V' st n B fi' (if q.nu = true then la ++ q.la else q.la) (nu && q.nu) sa sc fa fc fv oa oc ol olc → K (some ⟨pb, 0, none⟩) b3 0 b4 0 b6 0 (IntKind.i64.wrap (i + 1)) m') :
    eyotref8_Places_walk.k4 K (some ⟨pb, 0, none⟩) b3 0 b4 0 b6 0 i b9 0 R m := by
  unfold eyotref8_Places_walk.k4
  refine LdV.s4 l9.at_ (UnB.mk ?_)
  refine Br.mk (fun hz => ?_) (fun hz => ?_)
  · rw [if_pos hz] at hK
    refine Sub.all ?_
    refine LdV.s2 h.l6.at_ (UnS.mk ?_)
    refine LdV.s2 l9.at_ (UnS.mk ?_)
    refine ncat (Le.refl m) (h.cl.le h.p.le) (cql.le h.p.le) (by omega) (by omega) ?_
    intro a' c' m1 hle1 hc1 hf1
    obtain ⟨p1, g1⟩ := h.p.see hle1
    have h1 := h.go p1 g1 h.b h.lb (Nat.le_refl _)
    have l91 := l9.go g1
    refine St1.to (rO oa fi'.length oc a' (la ++ q.la).length c' nu) h1.l6.at_ (by simp) rfl (by simp) ?_
    refine rcat_k5 (q := q) (la' := la ++ q.la) (h1.put h1.cf (CellsAt.see hc1 hf1) (fun x hx => ?_)) (l91.other (Ne.symm h6)).at_ hK
    rcases List.mem_append.mp hx with e | e
    · exact h.ml x e
    · exact mql x e
  · rw [if_neg (by rw [hz]; decide)] at hK
    refine LdV.s2 l9.at_ (UnS.mk ?_)
    refine St1.to (rO oa fi'.length oc qla q.la.length qlc nu) h.l6.at_ (by simp) rfl (by simp) ?_
    exact rcat_k5 (q := q) (la' := q.la) (h.put h.cf cql mql) (l9.other (Ne.symm h6)).at_ hK
theorem rcat_mid (h : RRnd F0 m0 V0 pb b3 b4 b6 orx m V st n B fi la nu sa sc fa fc fv oa oc ol olc) (l9 : Loc (Ft pb sa fa) m V b9 (.cells (rO qa q.fi.length qc qla q.la.length qlc q.nu) T_eyotref8_Places (0, 0))) (h6 : b9 ≠ b6) (cq : CellsAt V qa (ints (ns q.fi))) (cql : CellsAt V qla (ints (ns q.la))) (mql : ∀ x ∈ q.la, x < n) (s1 : la.length ≤ 100) (s2 : q.la.length ≤ 100) (s3 : fi.length ≤ 100) (s4 : q.fi.length ≤ 100)
    (hK : ∀ {m' V' : Mem} {sa : Option Addr} {sc : Nat} {fa : Option Addr} {fc : Nat} {fv : List Value} {oa : Option Addr} {oc : Nat} {ol : Option Addr} {olc : Nat}, RRnd F0 m0 V0 pb b3 b4 b6 orx m' V' st n B (if nu = true then fi ++ q.fi else fi) (if q.nu = true then la ++ q.la else q.la) (nu && q.nu) sa sc fa fc fv oa oc ol olc → K (some ⟨pb, 0, none⟩) b3 0 b4 0 b6 0 (IntKind.i64.wrap (i + 1)) m') :
    LdV m b6 (0 + 4) fun v => UnB v fun x107 => Br x107 (
        Sub m fun r9 =>
        LdV r9 b6 (0 + 1) fun v =>
        UnS v fun x110a x110l x110c =>
        LdV r9 b9 1 fun v =>
        UnS v fun x113a x113l x113c =>
        NewC m #[] T_int fun b108 m10 =>
        Lk r9 m10 fun r11 =>
        BiN P .append #[T_sl_int, T_sl_int] T_sl_int #[false, false] #[.slice (some ⟨b108, 0, none⟩) 0 0, .slice x110a x110l x110c] m10 (fun w m12 =>
        UnS w fun x111a x111l x111c =>
        Lk r11 m12 fun r13 =>
        BiN P .append #[T_sl_int, T_sl_int] T_sl_int #[false, false] #[.slice x111a x111l x111c, .slice x113a x113l x113c] m12 (fun w m14 =>
        UnS w fun x114a x114l x114c =>
        St1 m14 b6 (0 + 1) (.slice x114a x114l x114c) fun m15 =>
        eyotref8_Places_walk.k4 K (some ⟨pb, 0, none⟩) b3 0 b4 0 b6 0 i b9 0 R m15) (panicR R)) (panicR R)) (
        eyotref8_Places_walk.k4 K (some ⟨pb, 0, none⟩) b3 0 b4 0 b6 0 i b9 0 R m) := by
  refine LdV.s4 h.l6.at_ (UnB.mk ?_)
  refine Br.mk (fun hz => ?_) (fun hz => ?_)
  · rw [if_pos hz] at hK
    refine Sub.all ?_
    refine LdV.s1 h.l6.at_ (UnS.mk ?_)
    refine LdV.s1 l9.at_ (UnS.mk ?_)
    refine ncat (Le.refl m) (h.cf.le h.p.le) (cq.le h.p.le) (by omega) (by omega) ?_
    intro a' c' m1 hle1 hc1 hf1
    obtain ⟨p1, g1⟩ := h.p.see hle1
    have h1 := h.go p1 g1 h.b h.lb (Nat.le_refl _)
    have l91 := l9.go g1
    refine St1.to (rO a' (fi ++ q.fi).length c' ol la.length olc nu) h1.l6.at_ (by simp) rfl (by simp) ?_
    exact rcat_k4 (q := q) (fi' := fi ++ q.fi) (h1.put (CellsAt.see hc1 hf1) h1.cl h1.ml) (l91.other (Ne.symm h6)) h6 (cql.le g1.le) mql s1 s2 hK
  · rw [if_neg (by rw [hz]; decide)] at hK
    exact rcat_k4 h l9 h6 cql mql s1 s2 hK
end
end Go.E.Pl
set_option linter.unusedVariables false
set_option linter.unusedSimpArgs false
set_option maxRecDepth 20000
namespace Go.E.Pl
open Go.H Go.E Go.E.Rg
attribute [local irreducible] BiN MkS ConvN LookN MapUpN CallV HC nodes nodesL cntL
theorem num1 {B a b : Nat} (h : B + 2 * (a + b) * 10000 ≤ 890000) (ha : 1 ≤ a) : B + (2 * a - 1) * 10000 + 10000 + 2 * b * 10000 ≤ 890000 := by
  have e : 2 * (a + b) = (2 * a - 1) + 1 + 2 * b := by omega
  rw [e, Nat.add_mul, Nat.add_mul, Nat.one_mul, ← Nat.add_assoc, ← Nat.add_assoc] at h
  exact h
theorem num2 {B x : Nat} (h : B + (2 * x + 1) * 10000 ≤ 900000) : B + 2 * x * 10000 ≤ 890000 := by
  rw [Nat.add_mul, Nat.one_mul, ← Nat.add_assoc] at h
  exact Nat.le_of_add_le_add_right h
theorem num3 {B x : Nat} (h : B + (x * 10000 + 2 * 10000) ≤ 900000) : B + x * 10000 ≤ 900000 := by
  rw [← Nat.add_assoc] at h
  exact Nat.le_trans (Nat.le_add_right _ _) h
theorem num4 {B x y : Nat} (h : B + x + y ≤ 890000) : B + x ≤ 900000 := Nat.le_trans (Nat.le_trans (Nat.le_add_right _ _) h) (by decide)
theorem num5 {B x y z : Nat} (h : B + x + y + z ≤ 890000) : B + x ≤ 900000 := num4 (B := B) (x := x) (y := y + z) (by rw [← Nat.add_assoc]; exact h)
theorem rwalk_cat {S : Nat → Bool} {ps : List Rx} (ih : ∀ a ∈ ps, form a = true ∧ WalkR a) : WalkR (.mk 2 S ps) := by
  intro m V pb st sa sc fa fc fv n B v R h hB hLb hBn hn ha k
  have hcnt : cnt (.mk 2 S ps) = cntL ps := by unfold cnt cntL; rw [setsOf, if_neg (by decide), if_pos (.inl rfl)]
  rw [hcnt] at hn
  have hnn : 2 * nodes (.mk 2 S ps) - 1 = 2 * nodesL ps + 1 := by rw [nodes]; omega
  rw [hnn] at hBn
  obtain ⟨prs, a, c, rfl, rfl, hl, hb, hc, hp⟩ := ha.inv
  have ewk : wk cat (.mk 2 S (prs.map (·.1))) st = wkC cat (prs.map (·.1)) ⟨[], [], true⟩ st := by unfold wk; rw [if_neg (by decide), if_pos rfl]
  rw [ewk] at k
  show HC P eyotref8_Places_walk.id #[.pointer (some ⟨pb, 0, none⟩), rxA 2 S (.slice a prs.length c)] m R
  refine eyotref8_Places_walk.ok _ _ _ _ _ _ _ _ _ _ _ ?_
  refine newRx ?_
  intro b3 m1 hb3 hle1 h3
  obtain ⟨p1, g1, l3⟩ := h.mine hle1 hb3 h3
  intro b4 hb4
  obtain ⟨p2, g2, l4⟩ := p1.mine (Le.set hb4 (.cells zR T_eyotref8_Places (0, 0))) hb4 (set_same _ _ _)
  have l32 := l3.go g2
  generalize m1.set b4 (.cells zR T_eyotref8_Places (0, 0)) = m2 at p2 g2 l4 l32 ⊢
  have g02 := g1.trans g2
  have n4 : m b4 = none := hle1.new hb4
  refine LdV.s0 l32.at_ (UnI.mk ?_)
  refine BrEf (by decide) ?_
  refine BrEf (by decide) ?_
  refine BrEt rfl ?_
  refine copyR ?_
  intro b6 m6 hb6 hle6 h6
  obtain ⟨p6, g6, l6⟩ := p2.mine hle6 hb6 h6
  have n6 : m b6 = none := g02.chg.new hb6
  have hne64 : b6 ≠ b4 := by rintro rfl; rw [l4.at_] at hb6; cases hb6
  have hne63 : b6 ≠ b3 := by rintro rfl; rw [l32.at_] at hb6; cases hb6
  have hlen : (prs.map (·.1)).length = prs.length := List.length_map _
  refine ⟨fun N p r3b r3o x4b x4o o6b o6o i mm => p = some ⟨pb, 0, none⟩ ∧ r3b = b3 ∧ r3o = 0 ∧ x4b = b4 ∧ x4o = 0 ∧ o6b = b6 ∧ o6o = 0 ∧
      ∃ (j : Nat) (Vm : Mem) (stj : Sta) (nj Bj : Nat) (fi la : List Nat) (nu : Bool) (sa' : Option Addr) (sc' : Nat) (fa' : Option Addr) (fc' : Nat) (fv' : List Value) (oa : Option Addr) (oc : Nat) (ol : Option Addr) (olc : Nat), i = (j : Int) ∧ j ≤ prs.length ∧ N = prs.length - j ∧
        RRnd (Ft pb sa fa) m V pb b3 b4 b6 (.cells (rxO 2 S (.slice a prs.length c)) T_api_Rx (0, 0)) mm Vm stj nj Bj fi la nu sa' sc' fa' fc' fv' oa oc ol olc ∧ nj + cntL ((prs.map (·.1)).drop j) ≤ 100 ∧ Bj + 2 * nodesL ((prs.map (·.1)).drop j) * 10000 ≤ 890000 ∧ fi.length + cntL ((prs.map (·.1)).drop j) ≤ 100 ∧ la.length + cntL ((prs.map (·.1)).drop j) ≤ 100 ∧
        wkC cat ((prs.map (·.1)).drop j) ⟨fi, la, nu⟩ stj = wkC cat (prs.map (·.1)) ⟨[], [], true⟩ st, prs.length,
    ⟨rfl, rfl, rfl, rfl, rfl, rfl, rfl, 0, V, st, n, B, [], [], true, sa, sc, fa, fc, fv, none, 0, none, 0, rfl, by omega, by omega, ⟨p6, g02.trans g6, hB, hLb, n4, n6, l32.go g6, l4.go g6, l6, hne64, hne63, CellsAt.empty _ _, CellsAt.empty _ _, fun x hx => by cases hx⟩, by simpa using hn, by rw [List.drop_zero]; exact num2 hBn, by rw [List.drop_zero]; simp; omega, by rw [List.drop_zero]; simp; omega, by simp⟩, ?_⟩
  rintro N p r3b r3o x4b x4o o6b o6o i mm ⟨rfl, rfl, rfl, rfl, rfl, rfl, rfl, j, Vm, stj, nj, Bj, fi, la, nu, sa', sc', fa', fc', fv', oa, oc, ol, olc, rfl, hj, rfl, hr, hnj, hBj, hfj1, hlj1, hwk⟩
  unfold eyotref8_Places_walk.l3B
  refine LdV.s5 hr.l3.at_ (UnS.mk ?_)
  refine BrD (fun hlt => ?_) (fun hge => ?_)
  · have hjl : j < prs.length := by omega
    have hpm := List.getElem_mem hjl
    obtain ⟨a', l', c', hv⟩ := (hp _ hpm).sl
    obtain ⟨hfj, hwj⟩ := ih prs[j].1 (List.mem_map.mpr ⟨_, hpm, rfl⟩)
    have hdrop : (prs.map (·.1)).drop j = prs[j].1 :: (prs.map (·.1)).drop (j + 1) := by
      rw [List.drop_eq_getElem_cons (by rw [hlen]; exact hjl), List.getElem_map]
    rw [hdrop, cntL_cons] at hnj hfj1 hlj1
    rw [hdrop, nodesL] at hBj
    rw [hdrop] at hwk
    have haj := hp _ hpm
    rw [hv] at haj
    have hnp := nodes_pos prs[j].1
    refine LdV.s5 hr.l3.at_ (UnS.mk ?_)
    refine IxS.rx6 ((hc.le hr.g.le).le hr.p.le) hjl hv ?_
    have hBx : Bj + (2 * nodes prs[j].1 - 1) * 10000 + 10000 + 2 * nodesL ((prs.map (·.1)).drop (j + 1)) * 10000 ≤ 890000 := num1 hBj hnp
    refine hwj hr.p hr.b hr.lb (num5 hBx) (by omega) (haj.le hr.g.le) ?_
    intro m8 V8 sa8 sc8 fa8 fc8 fv8 qa qc qla qlc p8 g8 cq cql
    obtain ⟨b8', hml⟩ := rwk_bnd hfj hr.b
    have hwb := walk_wb prs[j].1 hfj (by omega) stj
    have hq1 := hwb.fi
    have hq2 := hwb.la
    have hlb8 := hwb.fo Bj hr.lb
    have hr8 := hr.go p8 g8 b8' hlb8 (by omega)
    have hwk2 : wkC cat ((prs.map (·.1)).drop (j + 1)) (stepC cat ⟨fi, la, nu⟩ (wk cat prs[j].1 stj).1) ⟨(wk cat prs[j].1 stj).2.sets, lk cat (wk cat prs[j].1 stj).2.fol la (wk cat prs[j].1 stj).1.fi⟩ = wkC cat (prs.map (·.1)) ⟨[], [], true⟩ st := hwk
    clear hwb hwk
    generalize (wk cat prs[j].1 stj).1 = q at hq1 hq2 hml cq cql hwk2 ⊢
    generalize (wk cat prs[j].1 stj).2 = st8 at p8 b8' hr8 hwk2 hlb8
    generalize Bj + (2 * nodes prs[j].1 - 1) * 10000 = B8 at hr8 hlb8 hBx
    refine ContR.mk ?_
    refine copyR ?_
    intro b9 m12 hb9 hle12 h12
    obtain ⟨p12, g12, l9⟩ := p8.mine hle12 hb9 h12
    have hr12 := hr8.go p12 g12 b8' hlb8 (Nat.le_refl _)
    have hne96 : b9 ≠ o6b := by rintro rfl; rw [hr8.l6.at_] at hb9; cases hb9
    refine LdV.s2 hr12.l6.at_ (UnS.mk ?_)
    refine LdV.s1 l9.at_ (UnS.mk ?_)
    refine goes_spec p12 hlb8 (by omega) hr12.cl (cq.le g12.le) (fun x hx => by rw [b8'.len]; exact hr12.ml x hx) (by omega) (by omega) ?_
    intro m13 V13 fv13 p13 g13
    dsimp only [Cont]
    refine UnTup.mk (UnNil.mk ?_)
    have b13 : StN (nj + cnt prs[j].1) ⟨st8.sets, lk cat st8.fol la q.fi⟩ := ⟨b8'.num, by show (lk cat st8.fol la q.fi).length = _; rw [lk_len]; exact b8'.len⟩
    have lb13 : Lb (B8 + 10000) (lk cat st8.fol la q.fi) := lk100 (by omega) (by omega) hlb8
    have hr13 := hr12.go p13 g13 b13 lb13 (Nat.le_refl _)
    have l913 := l9.go g13
    refine rcat_mid hr13 l913 hne96 ((cq.le g12.le).le g13.le) ((cql.le g12.le).le g13.le) hml (by omega) (by omega) (by omega) (by omega) ?_
    intro m' V' sa5 sc5 fa5 fc5 fv5 oa5 oc5 ol5 olc5 h5
    have f1 : (if nu = true then fi ++ q.fi else fi).length ≤ fi.length + cnt prs[j].1 := by
      split
      · rw [List.length_append]; omega
      · omega
    have f2 : (if q.nu = true then la ++ q.la else q.la).length ≤ la.length + cnt prs[j].1 := by
      split
      · rw [List.length_append]; omega
      · omega
    refine ⟨prs.length - (j + 1), by omega, rfl, rfl, rfl, rfl, rfl, rfl, rfl, j + 1, V', _, nj + cnt prs[j].1, B8 + 10000, _, _, _, sa5, sc5, fa5, fc5, fv5, oa5, oc5, ol5, olc5, ?_, by omega, rfl, h5, by omega, hBx, by omega, by omega, hwk2⟩
    rw [wi (by omega) (by omega)]; omega
  · have e : (prs.map (·.1)).drop j = [] := List.drop_eq_nil_of_le (by omega)
    rw [e] at hwk
    rw [← hwk] at k
    exact hr.end_ k
theorem rwalk_sign {x : Int} {S : Nat → Bool} {y : Rx} (h4 : 4 ≤ x) (h6 : x ≤ 6) (hf : form y = true) (ih : WalkR y) : WalkR (.mk x S [y]) := by
  intro m V pb st sa sc fa fc fv n B v R h hB hLb hBn hn ha k
  have k1 : x ≠ 1 := by omega
  have k2 : x ≠ 2 := by omega
  have k3 : x ≠ 3 := by omega
  have hcnt : cnt (.mk x S [y]) = cnt y := by unfold cnt; rw [setsOf, if_neg k1, if_neg (by omega), sets1]
  rw [hcnt] at hn
  have hnn : 2 * nodes (.mk x S [y]) - 1 = (2 * nodes y - 1) + 2 := by have := nodes_pos y; rw [nodes, nodesL, nodesL]; omega
  rw [hnn, Nat.add_mul] at hBn
  obtain ⟨prs, a, c, hps, rfl, hl, hb, hc, hp⟩ := ha.inv
  obtain ⟨pr, rfl⟩ : ∃ p, prs = [p] := by
    have := congrArg List.length hps
    rw [List.length_map] at this
    exact List.length_eq_one_iff.mp this.symm
  have hyp : y = pr.1 := by simpa using hps
  subst hyp
  have ewk : wk cat (.mk x S [pr.1]) st = wk1 cat x [pr.1] st := by unfold wk; rw [if_neg k1, if_neg k2, if_neg k3]
  rw [ewk] at k
  show HC P eyotref8_Places_walk.id #[.pointer (some ⟨pb, 0, none⟩), rxA x S (.slice a 1 c)] m R
  refine eyotref8_Places_walk.ok _ _ _ _ _ _ _ _ _ _ _ ?_
  refine newRx ?_
  intro b3 m1 hb3 hle1 h3
  obtain ⟨p1, g1, l3⟩ := h.mine hle1 hb3 h3
  intro b4 hb4
  obtain ⟨p2, g2, l4⟩ := p1.mine (Le.set hb4 (.cells zR T_eyotref8_Places (0, 0))) hb4 (set_same _ _ _)
  have l32 := l3.go g2
  generalize m1.set b4 (.cells zR T_eyotref8_Places (0, 0)) = m2 at p2 g2 l4 l32 ⊢
  have g02 := g1.trans g2
  have n4 : m b4 = none := hle1.new hb4
  refine LdV.s0 l32.at_ (UnI.mk ?_)
  refine BrEf k1 ?_
  refine BrEf k3 ?_
  refine BrEf k2 ?_
  refine LdV.s5 l32.at_ (UnS.mk ?_)
  obtain ⟨a', l', c', hv⟩ := (hp pr (by simp)).sl
  have haj := hp pr (by simp)
  rw [hv] at haj
  refine IxS.rx6 (prs := [pr]) (hc.le p2.le) (j := 0) (by simp) hv ?_
  refine ih p2 hB hLb (num3 hBn) (by omega) haj ?_
  intro m8 V8 sa8 sc8 fa8 fc8 fv8 qa qc qla qlc p8 g8 cq cql
  obtain ⟨b8', hml⟩ := rwk_bnd hf hB
  have hwb := walk_wb pr.1 hf (by omega) st
  have hq1 := hwb.fi
  have hq2 := hwb.la
  have hlb8 := hwb.fo B hLb
  clear hwb
  have k' : KR (Ft pb sa fa) m V pb ⟨(wk cat pr.1 st).1.fi, (wk cat pr.1 st).1.la, (wk cat pr.1 st).1.nu || decide (x ≠ 5)⟩ ⟨(wk cat pr.1 st).2.sets, if x ≠ 6 then lk cat (wk cat pr.1 st).2.fol (wk cat pr.1 st).1.la (wk cat pr.1 st).1.fi else (wk cat pr.1 st).2.fol⟩ R := k
  clear k
  generalize (wk cat pr.1 st).1 = q at hq1 hq2 hml cq cql k' ⊢
  generalize (wk cat pr.1 st).2 = st8 at p8 b8' k' hlb8
  refine ContR.mk ?_
  refine copyR ?_
  intro b9 m12 hb9 hle12 h12
  obtain ⟨p12, g12, l9⟩ := p8.mine hle12 hb9 h12
  have l312 := (l32.go g8).go g12
  have l412 := (l4.go g8).go g12
  have g012 := (g02.trans g8).trans g12
  have n9 : m b9 = none := (g02.trans g8).chg.new hb9
  have hne : b9 ≠ b4 := by rintro rfl; rw [(l4.go g8).at_] at hb9; cases hb9
  have fin : ∀ {m5 V5 : Mem} {fv5 : List Value} {st5 : Sta}, PSt T_eyotref8_Places m5 V5 pb st5 sa8 sc8 fa8 fc8 fv5 → Gone (Ft pb sa fa) m V (Ft pb sa8 fa8) m5 V5 → Loc (Ft pb sa8 fa8) m5 V5 b3 (.cells (rxO x S (.slice a 1 c)) T_api_Rx (0, 0)) → Loc (Ft pb sa8 fa8) m5 V5 b4 (.cells zR T_eyotref8_Places (0, 0)) →
      Loc (Ft pb sa8 fa8) m5 V5 b9 (.cells (rO qa q.fi.length qc qla q.la.length qlc q.nu) T_eyotref8_Places (0, 0)) → CellsAt V5 qa (ints (ns q.fi)) → CellsAt V5 qla (ints (ns q.la)) → KR (Ft pb sa fa) m V pb ⟨q.fi, q.la, q.nu || decide (x ≠ 5)⟩ st5 R → eyotref8_Places_walk.k6 b3 0 b4 0 b9 0 R m5 := by
    intro m5 V5 fv5 st5 p5 g5 l35 l45 l95 c5 cl5 kk
    unfold eyotref8_Places_walk.k6
    have tail : ∀ z, z = (q.nu || decide (x ≠ 5)) → St1 m5 b9 (0 + 4) (.bool z) fun m1 =>
        LdV m1 b9 0 fun v => UnS v fun x0a x0l x0c => LdV m1 b9 (0 + 1) fun v => UnS v fun x1a x1l x1c => LdV m1 b9 (0 + 2) fun v => UnS v fun x2a x2l x2c => LdV m1 b9 (0 + 3) fun v => UnS v fun x3a x3l x3c => LdV m1 b9 (0 + 4) fun v => UnB v fun x4 =>
        St1 m1 b4 0 (.slice x0a x0l x0c) fun m2 => St1 m2 b4 (0 + 1) (.slice x1a x1l x1c) fun m3 => St1 m3 b4 (0 + 2) (.slice x2a x2l x2c) fun m4 => St1 m4 b4 (0 + 3) (.slice x3a x3l x3c) fun m5 => St1 m5 b4 (0 + 4) (.bool x4) fun m6 =>
        LdV m6 b4 0 fun v => UnS v fun y0a y0l y0c => LdV m6 b4 (0 + 1) fun v => UnS v fun y1a y1l y1c => LdV m6 b4 (0 + 2) fun v => UnS v fun y2a y2l y2c => LdV m6 b4 (0 + 3) fun v => UnS v fun y3a y3l y3c => LdV m6 b4 (0 + 4) fun v => UnB v fun y4 =>
        R (.returned (.agg #[.slice y0a y0l y0c, .slice y1a y1l y1c, .slice y2a y2l y2c, .slice y3a y3l y3c, .bool y4])) m6 := by
      rintro z rfl
      refine St1.to (rO qa q.fi.length qc qla q.la.length qlc (q.nu || decide (x ≠ 5))) l95.at_ (by simp) rfl (by simp) ?_
      have p6 := p5.put l95 (.cells (rO qa q.fi.length qc qla q.la.length qlc (q.nu || decide (x ≠ 5))) T_eyotref8_Places (0, 0))
      have g6 := g5.locw n9 (.cells (rO qa q.fi.length qc qla q.la.length qlc (q.nu || decide (x ≠ 5))) T_eyotref8_Places (0, 0))
      have l46 := l45.other hne (ox := .cells (rO qa q.fi.length qc qla q.la.length qlc (q.nu || decide (x ≠ 5))) T_eyotref8_Places (0, 0))
      refine getR (set_same _ _ _) ?_
      refine retR l46.at_ ?_
      exact kk _ _ sa8 sc8 fa8 fc8 fv5 qa qc qla qlc (p6.put l46 _) (g6.locw n4 _) c5 cl5
    refine LdV.s4 l95.at_ (UnB.mk ?_)
    refine Br.mk (fun hz => ?_) (fun hz => ?_)
    · exact tail true (by rw [hz]; rfl)
    · refine LdV.s0 l35.at_ (UnI.mk ?_)
      refine tail (x != 5) ?_
      rw [hz, Bool.false_or]
      by_cases e : x = 5
      · subst e; rfl
      · rw [decide_eq_true e]; simpa using e
  refine LdV.s0 l312.at_ (UnI.mk ?_)
  refine BrN (fun h6n => ?_) (fun h6e => ?_)
  · rw [if_pos h6n] at k'
    refine LdV.s2 l9.at_ (UnS.mk ?_)
    refine LdV.s1 l9.at_ (UnS.mk ?_)
    refine goes_spec p12 hlb8 (num3 hBn) (cql.le g12.le) (cq.le g12.le) (fun z hz => by rw [b8'.len]; exact hml z hz) (by omega) (by omega) ?_
    intro m13 V13 fv13 p13 g13
    dsimp only [Cont]
    refine UnTup.mk (UnNil.mk ?_)
    exact fin p13 (g012.trans g13) (l312.go g13) (l412.go g13) (l9.go g13) ((cq.le g12.le).le g13.le) ((cql.le g12.le).le g13.le) k'
  · rw [if_neg (by simpa using h6e)] at k'
    exact fin p12 g012 l312 l412 l9 (cq.le g12.le) (cql.le g12.le) k'
end Go.E.Pl
set_option linter.unusedVariables false
set_option linter.unusedSimpArgs false
set_option maxRecDepth 20000
namespace Go.E.Pl
open Go.H Go.E Go.E.Rg
attribute [local irreducible] BiN MkS ConvN LookN MapUpN CallV HC nodes nodesL cntL
theorem Gone.chgw {F F' S : Nat → Prop} {m V m' V' m2 : Mem} (h : Gone F m V F' m' V') (hch : Chg S m' m2) (hS : ∀ b, S b → m b = none) : Gone F m V F' m2 V' :=
  ⟨⟨fun b o hb hn => hch.eq b o (h.chg.eq b o hb hn) (fun e => by rw [hS b e] at hb; cases hb), fun b hb => hch.live b (h.chg.live b hb)⟩, h.ft, h.le, h.hid⟩
theorem Loc.chg {F S : Nat → Prop} {m V m2 : Mem} {b : Nat} {o : Obj} (h : Loc F m V b o) (hch : Chg S m m2) (hS : ¬ S b) : Loc F m2 V b o := ⟨hch.eq _ _ h.at_ hS, h.hid, h.out⟩
/-- A row of the walk's own, under way. -/
structure Own1 (m0 : Mem) (F : Nat → Prop) (m V : Mem) (b3 b4 b6 : Nat) (oa : Option Addr) (oc : Nat) (l : List Nat) : Prop where
  own : Own m T_int 1 oa l.length oc (ints (ns l))
  ap : ∀ b, blk oa = some b → V b = none ∧ ¬ F b ∧ m0 b = none ∧ b ≠ b3 ∧ b ≠ b4 ∧ b ≠ b6
theorem Own1.nil (m0 : Mem) (F : Nat → Prop) (m V : Mem) (b3 b4 b6 : Nat) : Own1 m0 F m V b3 b4 b6 none 0 [] := ⟨Own.nil _ _ _, fun b e => by cases e⟩
theorem Own1.go {m0 : Mem} {F F' : Nat → Prop} {m V m' V' : Mem} {b3 b4 b6 : Nat} {oa : Option Addr} {oc : Nat} {l : List Nat} (h : Own1 m0 F m V b3 b4 b6 oa oc l) (g : Gone F m V F' m' V') : Own1 m0 F' m' V' b3 b4 b6 oa oc l :=
  ⟨h.own.chg g.chg (fun b hb => (h.ap b hb).2.1), fun b hb => by
    obtain ⟨h1, h2, h3, h4⟩ := h.ap b hb
    have hl := h.own.live b hb
    exact ⟨g.hid b hl h1, fun e => (g.ft b e).elim h2 (fun e => hl e), h3, h4⟩⟩
noncomputable def vis2 (m V : Mem) (a a' : Option Addr) : Mem := fun b => open Classical in if blk a = some b ∨ blk a' = some b then m b else V b
theorem rwalk_alt {S : Nat → Bool} {ps : List Rx} (ih : ∀ a ∈ ps, form a = true ∧ WalkR a) : WalkR (.mk 3 S ps) := by
  intro m V pb st sa sc fa fc fv n B v R h hB hLb hBn hn ha k
  have hcnt : cnt (.mk 3 S ps) = cntL ps := by unfold cnt cntL; rw [setsOf, if_neg (by decide), if_pos (.inr rfl)]
  rw [hcnt] at hn
  have hnn : 2 * nodes (.mk 3 S ps) - 1 = 2 * nodesL ps + 1 := by rw [nodes]; omega
  rw [hnn] at hBn
  obtain ⟨prs, a, c, rfl, rfl, hl, hb, hc, hp⟩ := ha.inv
  have ewk : wk cat (.mk 3 S (prs.map (·.1))) st = wkA cat (prs.map (·.1)) ⟨[], [], false⟩ st := by unfold wk; rw [if_neg (by decide), if_neg (by decide), if_pos rfl]
  rw [ewk] at k
  show HC P eyotref8_Places_walk.id #[.pointer (some ⟨pb, 0, none⟩), rxA 3 S (.slice a prs.length c)] m R
  refine eyotref8_Places_walk.ok _ _ _ _ _ _ _ _ _ _ _ ?_
  refine newRx ?_
  intro b3 m1 hb3 hle1 h3
  obtain ⟨p1, g1, l3⟩ := h.mine hle1 hb3 h3
  intro b4 hb4
  obtain ⟨p2, g2, l4⟩ := p1.mine (Le.set hb4 (.cells zR T_eyotref8_Places (0, 0))) hb4 (set_same _ _ _)
  have l32 := l3.go g2
  generalize m1.set b4 (.cells zR T_eyotref8_Places (0, 0)) = m2 at p2 g2 l4 l32 ⊢
  have g02 := g1.trans g2
  have n4 : m b4 = none := hle1.new hb4
  refine LdV.s0 l32.at_ (UnI.mk ?_)
  refine BrEf (by decide) ?_
  refine BrEt rfl ?_
  intro b6 hb6
  obtain ⟨p6, g6, l6⟩ := p2.mine (Le.set hb6 (.cells zR T_eyotref8_Places (0, 0))) hb6 (set_same _ _ _)
  have n6 : m b6 = none := g02.chg.new hb6
  have hne64 : b6 ≠ b4 := by rintro rfl; rw [l4.at_] at hb6; cases hb6
  have hne63 : b6 ≠ b3 := by rintro rfl; rw [l32.at_] at hb6; cases hb6
  have l36 := l32.go g6
  have l46 := l4.go g6
  generalize m2.set b6 (.cells zR T_eyotref8_Places (0, 0)) = m6 at p6 g6 l6 l36 l46 ⊢
  have hlen : (prs.map (·.1)).length = prs.length := List.length_map _
  refine ⟨fun N p r3b r3o x4b x4o o6b o6o i mm => p = some ⟨pb, 0, none⟩ ∧ r3b = b3 ∧ r3o = 0 ∧ x4b = b4 ∧ x4o = 0 ∧ o6b = b6 ∧ o6o = 0 ∧
      ∃ (j : Nat) (Vm : Mem) (stj : Sta) (nj Bj : Nat) (fi la : List Nat) (nu : Bool) (sa' : Option Addr) (sc' : Nat) (fa' : Option Addr) (fc' : Nat) (fv' : List Value) (oa : Option Addr) (oc : Nat) (ol : Option Addr) (olc : Nat), i = (j : Int) ∧ j ≤ prs.length ∧ N = prs.length - j ∧
        PSt T_eyotref8_Places mm Vm pb stj sa' sc' fa' fc' fv' ∧ Gone (Ft pb sa fa) m V (Ft pb sa' fa') mm Vm ∧ StN nj stj ∧ Lb Bj stj.fol ∧ Loc (Ft pb sa' fa') mm Vm b3 (.cells (rxO 3 S (.slice a prs.length c)) T_api_Rx (0, 0)) ∧ Loc (Ft pb sa' fa') mm Vm b4 (.cells zR T_eyotref8_Places (0, 0)) ∧ Loc (Ft pb sa' fa') mm Vm b6 (.cells (rO oa fi.length oc ol la.length olc nu) T_eyotref8_Places (0, 0)) ∧
        Own1 m (Ft pb sa' fa') mm Vm b3 b4 b6 oa oc fi ∧ Own1 m (Ft pb sa' fa') mm Vm b3 b4 b6 ol olc la ∧ (∀ b, blk oa = some b → blk ol ≠ some b) ∧
        nj + cntL ((prs.map (·.1)).drop j) ≤ 100 ∧ Bj + 2 * nodesL ((prs.map (·.1)).drop j) * 10000 ≤ 890000 ∧ fi.length + cntL ((prs.map (·.1)).drop j) ≤ 100 ∧ la.length + cntL ((prs.map (·.1)).drop j) ≤ 100 ∧
        wkA cat ((prs.map (·.1)).drop j) ⟨fi, la, nu⟩ stj = wkA cat (prs.map (·.1)) ⟨[], [], false⟩ st, prs.length,
    ⟨rfl, rfl, rfl, rfl, rfl, rfl, rfl, 0, V, st, n, B, [], [], false, sa, sc, fa, fc, fv, none, 0, none, 0, rfl, by omega, by omega, p6, g02.trans g6, hB, hLb, l36, l46, l6, Own1.nil _ _ _ _ _ _ _, Own1.nil _ _ _ _ _ _ _, fun b e => (by cases e), by simpa using hn, by rw [List.drop_zero]; exact num2 hBn, by rw [List.drop_zero]; simp; omega, by rw [List.drop_zero]; simp; omega, by simp⟩, ?_⟩
  rintro N p r3b r3o x4b x4o o6b o6o i mm ⟨rfl, rfl, rfl, rfl, rfl, rfl, rfl, j, Vm, stj, nj, Bj, fi, la, nu, sa', sc', fa', fc', fv', oa, oc, ol, olc, rfl, hj, rfl, hpp, hg, hbn, hlb, q3, q4, q6, o1, o2, hap, hnj, hBj, hfj1, hlj1, hwk⟩
  unfold eyotref8_Places_walk.l2B
  refine LdV.s5 q3.at_ (UnS.mk ?_)
  refine BrD (fun hlt => ?_) (fun hge => ?_)
  rotate_left
  · have e : (prs.map (·.1)).drop j = [] := List.drop_eq_nil_of_le (by omega)
    rw [e] at hwk
    rw [← hwk] at k
    refine getR q6.at_ ?_
    refine retR q4.at_ ?_
    have hv2 : Le Vm (vis2 mm Vm oa ol) := fun b o hbo => by
      unfold vis2
      split
      · exact hpp.le b o hbo
      · exact hbo
    have hn2 : ∀ b, Vm b = none → ¬ (blk oa = some b ∨ blk ol = some b) → vis2 mm Vm oa ol b = none := fun b h1 h2 => by unfold vis2; rw [if_neg h2]; exact h1
    have hown : ∀ b, (blk oa = some b ∨ blk ol = some b) → ¬ Ft pb sa' fa' b ∧ m b = none ∧ b ≠ x4b := fun b e => by
      rcases e with e | e
      · exact ⟨(o1.ap b e).2.1, (o1.ap b e).2.2.1, (o1.ap b e).2.2.2.2.1⟩
      · exact ⟨(o2.ap b e).2.1, (o2.ap b e).2.2.1, (o2.ap b e).2.2.2.2.1⟩
    have p9 : PSt T_eyotref8_Places mm (vis2 mm Vm oa ol) pb stj sa' sc' fa' fc' fv' :=
      ⟨fun b o hbo => by
        unfold vis2 at hbo
        split at hbo
        · exact hbo
        · exact hpp.le b o hbo, hpp.obj, hpp.os, hpp.of, hpp.rows.le hv2, fun b hbF => hn2 b (hpp.nV b hbF) (fun e => (hown b e).1 hbF), hpp.s1, hpp.f1, hpp.sf⟩
    have g9 : Gone (Ft pb sa fa) m V (Ft pb sa' fa') mm (vis2 mm Vm oa ol) := ⟨hg.chg, hg.ft, hg.le.trans hv2, fun b hb1 hb2 => hn2 b (hg.hid b hb1 hb2) (fun e => hb1 (hown b e).2.1)⟩
    have l9 : Loc (Ft pb sa' fa') mm (vis2 mm Vm oa ol) x4b (.cells zR T_eyotref8_Places (0, 0)) := ⟨q4.at_, hn2 _ q4.hid (fun e => (hown _ e).2.2 rfl), q4.out⟩
    have cells : ∀ {x : Option Addr} {vs : List Value}, CellsAt mm x vs → (∀ b, blk x = some b → blk oa = some b ∨ blk ol = some b) → CellsAt (vis2 mm Vm oa ol) x vs := by
      intro x vs hx hb
      rcases hx.cases with ⟨b, o, rfl, hh⟩ | ⟨rfl, _⟩
      · intro t u hu
        have := hh t u hu
        have hbb := hb b rfl
        unfold Mem.cell at this ⊢
        have e : vis2 mm Vm oa ol b = mm b := by unfold vis2; rw [if_pos hbb]
        rw [e]; exact this
      · exact CellsAt.empty _ _
    exact k _ _ sa' sc' fa' fc' fv' oa oc ol olc (p9.put l9 _) (g9.locw n4 _) (cells o1.own.cells (fun b e => .inl e)) (cells o2.own.cells (fun b e => .inr e))
  have hjl : j < prs.length := by omega
  have hpm := List.getElem_mem hjl
  obtain ⟨a', l', c', hv⟩ := (hp _ hpm).sl
  obtain ⟨hfj, hwj⟩ := ih prs[j].1 (List.mem_map.mpr ⟨_, hpm, rfl⟩)
  have hdrop : (prs.map (·.1)).drop j = prs[j].1 :: (prs.map (·.1)).drop (j + 1) := by
    rw [List.drop_eq_getElem_cons (by rw [hlen]; exact hjl), List.getElem_map]
  rw [hdrop, cntL_cons] at hnj hfj1 hlj1
  rw [hdrop, nodesL] at hBj
  rw [hdrop] at hwk
  have haj := hp _ hpm
  rw [hv] at haj
  have hnp := nodes_pos prs[j].1
  refine LdV.s5 q3.at_ (UnS.mk ?_)
  refine IxS.rx6 ((hc.le hg.le).le hpp.le) hjl hv ?_
  have hBx : Bj + (2 * nodes prs[j].1 - 1) * 10000 + 10000 + 2 * nodesL ((prs.map (·.1)).drop (j + 1)) * 10000 ≤ 890000 := num1 hBj hnp
  refine hwj hpp hbn hlb (num5 hBx) (by omega) (haj.le hg.le) ?_
  intro m8 V8 sa8 sc8 fa8 fc8 fv8 qa qc qla qlc p8 g8 cq cql
  obtain ⟨b8', hml⟩ := rwk_bnd hfj hbn
  have hwb := walk_wb prs[j].1 hfj (by omega) stj
  have hq1 := hwb.fi
  have hq2 := hwb.la
  have hlb8 := hwb.fo Bj hlb
  have hwk2 : wkA cat ((prs.map (·.1)).drop (j + 1)) ⟨fi ++ (wk cat prs[j].1 stj).1.fi, la ++ (wk cat prs[j].1 stj).1.la, nu || (wk cat prs[j].1 stj).1.nu⟩ (wk cat prs[j].1 stj).2 = wkA cat (prs.map (·.1)) ⟨[], [], false⟩ st := hwk
  clear hwb hwk
  generalize (wk cat prs[j].1 stj).1 = q at hq1 hq2 hml cq cql hwk2 ⊢
  generalize (wk cat prs[j].1 stj).2 = st8 at p8 b8' hwk2 hlb8
  generalize Bj + (2 * nodes prs[j].1 - 1) * 10000 = B8 at hlb8 hBx
  have hg8 := hg.trans g8
  have q38 := q3.go g8
  have q48 := q4.go g8
  have q68 := q6.go g8
  have o18 := o1.go g8
  have o28 := o2.go g8
  refine ContR.mk ?_
  refine copyR ?_
  intro b9 m7 hb9 hle7 h9
  obtain ⟨p7, g7, l9⟩ := p8.mine hle7 hb9 h9
  have hg7 := hg8.trans g7
  have q37 := q38.go g7
  have q47 := q48.go g7
  have q67 := q68.go g7
  have o17 := o18.go g7
  have o27 := o28.go g7
  have hx9 : ∀ b, (blk oa = some b ∨ blk ol = some b) → b ≠ b9 := fun b e e2 => by
    subst e2
    rcases e with e | e
    · exact o18.own.live b e hb9
    · exact o28.own.live b e hb9
  have hx6 : ∀ b, (blk oa = some b ∨ blk ol = some b) → b ≠ o6b := fun b e => by
    rcases e with e | e
    · exact (o17.ap b e).2.2.2.2.2
    · exact (o27.ap b e).2.2.2.2.2
  refine ⟨on m7 fun b => ¬ (blk oa = some b ∨ blk ol = some b), on_le _ _, ?_⟩
  have hr6 : (on m7 fun b => ¬ (blk oa = some b ∨ blk ol = some b)) o6b = _ := (on_in (G := fun b => ¬ (blk oa = some b ∨ blk ol = some b)) (fun e => hx6 _ e rfl)).trans q67.at_
  have hr9 : (on m7 fun b => ¬ (blk oa = some b ∨ blk ol = some b)) b9 = _ := (on_in (G := fun b => ¬ (blk oa = some b ∨ blk ol = some b)) (fun e => hx9 _ e rfl)).trans l9.at_
  have hrc : ∀ {m' : Mem}, Chg (fun b => blk oa = some b ∨ blk ol = some b) m7 m' → Le (on m7 fun b => ¬ (blk oa = some b ∨ blk ol = some b)) m' := by
    intro m' hch b o hbo
    obtain ⟨h1, h2⟩ := on_live hbo
    exact hch.eq b o h2 h1
  generalize (on m7 fun b => ¬ (blk oa = some b ∨ blk ol = some b)) = r8 at hr6 hr9 hrc ⊢
  refine LdV.s1 hr6 (UnS.mk ?_)
  refine LdV.s1 hr9 (UnS.mk ?_)
  refine LdV.s2 hr6 (UnS.mk ?_)
  refine LdV.s2 hr9 (UnS.mk ?_)
  refine LdV.s4 hr6 (UnB.mk ?_)
  have c7 := (cq.le g7.le).le p7.le
  refine append_own eInt o17.own c7 (by rw [nints_len]; omega) (nints_one _) (by decide) (by omega) (by omega) ?_
  intro oa' oc' m9 ho9 hg9
  rw [← nints_append] at ho9
  refine UnS.mk ?_
  refine lk_same (hrc (hg9.1.mono (fun _ e => .inl e))) ?_
  have p9 : PSt T_eyotref8_Places m9 V8 pb st8 sa8 sc8 fa8 fc8 fv8 := p7.chg hg9.1 (fun b e => (o17.ap b e).1) (fun b e => (o17.ap b e).2.1)
  have o29 : Own m9 T_int 1 ol la.length olc (ints (ns la)) := o27.own.chg hg9.1 (fun b e e2 => hap b e2 e)
  refine append_own eInt o29 ((cql.le g7.le).le p9.le) (by rw [nints_len]; omega) (nints_one _) (by decide) (by omega) (by omega) ?_
  intro ol' olc' m11 ho11 hg11
  rw [← nints_append] at ho11
  refine UnS.mk ?_
  have hch711 : Chg (fun b => blk oa = some b ∨ blk ol = some b) m7 m11 := (hg9.1.mono (S' := fun b => blk oa = some b ∨ blk ol = some b) (fun _ e => .inl e)).trans hg11.1 (fun _ _ e => .inr e)
  refine lk_same (hrc hch711) ?_
  have p11 : PSt T_eyotref8_Places m11 V8 pb st8 sa8 sc8 fa8 fc8 fv8 := p9.chg hg11.1 (fun b e => (o27.ap b e).1) (fun b e => (o27.ap b e).2.1)
  have hS0 : ∀ b, (blk oa = some b ∨ blk ol = some b) → m b = none := fun b e => by
    rcases e with e | e
    · exact (o17.ap b e).2.2.1
    · exact (o27.ap b e).2.2.1
  have g11 := hg7.chgw hch711 hS0
  have q311 := q37.chg hch711 (fun e => by rcases e with e | e; exact (o17.ap _ e).2.2.2.1 rfl; exact (o27.ap _ e).2.2.2.1 rfl)
  have q411 := q47.chg hch711 (fun e => by rcases e with e | e; exact (o17.ap _ e).2.2.2.2.1 rfl; exact (o27.ap _ e).2.2.2.2.1 rfl)
  have q611 := q67.chg hch711 (fun e => hx6 _ e rfl)
  have l911 := l9.chg hch711 (fun e => hx9 _ e rfl)
  have el1 : fi.length + q.fi.length = (fi ++ q.fi).length := List.length_append.symm
  have el2 : la.length + q.la.length = (la ++ q.la).length := List.length_append.symm
  rw [el1] at ho9 ⊢
  rw [el2] at ho11 ⊢
  -- fresh rows
  have fr : ∀ {x : Option Addr}, Fresh m7 x → ∀ b, blk x = some b → V8 b = none ∧ ¬ Ft pb sa8 fa8 b ∧ m b = none ∧ b ≠ r3b ∧ b ≠ x4b ∧ b ≠ o6b := by
    intro x hf b e
    have hb := hf b e
    refine ⟨?_, fun e2 => p7.live e2 hb, hg7.chg.new hb, ?_, ?_, ?_⟩
    · cases e2 : V8 b with
      | none => rfl
      | some o => have := p7.le b o e2; rw [hb] at this; cases this
    · rintro rfl; rw [q37.at_] at hb; cases hb
    · rintro rfl; rw [q47.at_] at hb; cases hb
    · rintro rfl; rw [q67.at_] at hb; cases hb
  have f7 : ∀ {x : Option Addr}, Fresh m9 x → Fresh m7 x := fun hf b e => hg9.1.new (hf b e)
  have ap1 : ∀ b, blk oa' = some b → V8 b = none ∧ ¬ Ft pb sa8 fa8 b ∧ m b = none ∧ b ≠ r3b ∧ b ≠ x4b ∧ b ≠ o6b := fun b e => by
    rcases hg9.2 with e2 | e2
    · rw [e2] at e; exact o17.ap b e
    · exact fr e2 b e
  have ap2 : ∀ b, blk ol' = some b → V8 b = none ∧ ¬ Ft pb sa8 fa8 b ∧ m b = none ∧ b ≠ r3b ∧ b ≠ x4b ∧ b ≠ o6b := fun b e => by
    rcases hg11.2 with e2 | e2
    · rw [e2] at e; exact o27.ap b e
    · exact fr (f7 e2) b e
  have hapl : ∀ b, blk oa' = some b → blk ol ≠ some b := fun b e e3 => by
    rcases hg9.2 with e2 | e2
    · rw [e2] at e; exact hap b e e3
    · exact o27.own.live b e3 (e2 b e)
  have hap' : ∀ b, blk oa' = some b → blk ol' ≠ some b := fun b e e3 => by
    rcases hg11.2 with e2 | e2
    · rw [e2] at e3; exact hapl b e e3
    · exact ho9.live b e (e2 b e3)
  have ho91 : Own m11 T_int 1 oa' (fi ++ q.fi).length oc' (ints (ns (fi ++ q.fi))) := ho9.chg hg11.1 (fun b e e2 => hapl b e e2)
  -- the round's end
  have fin3 : ∀ z, z = (nu || q.nu) → St1 (m11.set o6b (.cells (rO oa' (fi ++ q.fi).length oc' ol' (la ++ q.la).length olc' nu) T_eyotref8_Places (0, 0))) o6b (0 + 4) (.bool z) fun m15 =>
      ∃ N1, N1 < prs.length - j ∧ ((some ⟨pb, 0, none⟩ : Option Addr) = some ⟨pb, 0, none⟩ ∧ r3b = r3b ∧ 0 = 0 ∧ x4b = x4b ∧ 0 = 0 ∧ o6b = o6b ∧ 0 = 0 ∧
      ∃ (j' : Nat) (Vm : Mem) (stj : Sta) (nj Bj : Nat) (fi la : List Nat) (nu : Bool) (sa' : Option Addr) (sc' : Nat) (fa' : Option Addr) (fc' : Nat) (fv' : List Value) (oa : Option Addr) (oc : Nat) (ol : Option Addr) (olc : Nat), IntKind.i64.wrap ((j : Int) + 1) = (j' : Int) ∧ j' ≤ prs.length ∧ N1 = prs.length - j' ∧
        PSt T_eyotref8_Places m15 Vm pb stj sa' sc' fa' fc' fv' ∧ Gone (Ft pb sa fa) m V (Ft pb sa' fa') m15 Vm ∧ StN nj stj ∧ Lb Bj stj.fol ∧ Loc (Ft pb sa' fa') m15 Vm r3b (.cells (rxO 3 S (.slice a prs.length c)) T_api_Rx (0, 0)) ∧ Loc (Ft pb sa' fa') m15 Vm x4b (.cells zR T_eyotref8_Places (0, 0)) ∧ Loc (Ft pb sa' fa') m15 Vm o6b (.cells (rO oa fi.length oc ol la.length olc nu) T_eyotref8_Places (0, 0)) ∧
        Own1 m (Ft pb sa' fa') m15 Vm r3b x4b o6b oa oc fi ∧ Own1 m (Ft pb sa' fa') m15 Vm r3b x4b o6b ol olc la ∧ (∀ b, blk oa = some b → blk ol ≠ some b) ∧
        nj + cntL ((prs.map (·.1)).drop j') ≤ 100 ∧ Bj + 2 * nodesL ((prs.map (·.1)).drop j') * 10000 ≤ 890000 ∧ fi.length + cntL ((prs.map (·.1)).drop j') ≤ 100 ∧ la.length + cntL ((prs.map (·.1)).drop j') ≤ 100 ∧
        wkA cat ((prs.map (·.1)).drop j') ⟨fi, la, nu⟩ stj = wkA cat (prs.map (·.1)) ⟨[], [], false⟩ st) := by
    rintro z rfl
    refine St1.to (rO oa' (fi ++ q.fi).length oc' ol' (la ++ q.la).length olc' (nu || q.nu)) (set_same _ _ _) (by simp) rfl (by simp) ?_
    rw [set_set]
    have hcs := Chg.set m11 o6b (.cells (rO oa' (fi ++ q.fi).length oc' ol' (la ++ q.la).length olc' (nu || q.nu)) T_eyotref8_Places (0, 0))
    refine ⟨prs.length - (j + 1), by omega, rfl, rfl, rfl, rfl, rfl, rfl, rfl, j + 1, V8, st8, nj + cnt prs[j].1, B8, fi ++ q.fi, la ++ q.la, nu || q.nu, sa8, sc8, fa8, fc8, fv8, oa', oc', ol', olc', ?_, by omega, rfl, p11.put q611 _, g11.locw n6 _, b8', hlb8, q311.other hne63, q411.other hne64, q611.put _,
      ⟨ho91.chg hcs (fun b e e2 => (ap1 b e).2.2.2.2.2 e2), ap1⟩, ⟨ho11.chg hcs (fun b e e2 => (ap2 b e).2.2.2.2.2 e2), ap2⟩, hap', by omega, ?_, by rw [← el1]; omega, by rw [← el2]; omega, hwk2⟩
    · rw [wi (by omega) (by omega)]; omega
    · exact Nat.le_trans (Nat.add_le_add_right (Nat.le_add_right _ _) _) hBx
  have fin2 : ∀ {K : Mem → Prop}, K (m11.set o6b (.cells (rO oa' (fi ++ q.fi).length oc' ol' (la ++ q.la).length olc' nu) T_eyotref8_Places (0, 0))) → St1 (m11.set o6b (.cells (rO oa' (fi ++ q.fi).length oc' ol la.length olc nu) T_eyotref8_Places (0, 0))) o6b (0 + 2) (.slice ol' (la ++ q.la).length olc') K := by
    intro K hK
    refine St1.to (rO oa' (fi ++ q.fi).length oc' ol' (la ++ q.la).length olc' nu) (set_same _ _ _) (by simp) rfl (by simp) ?_
    rw [set_set]; exact hK
  have fin1 : ∀ {K : Mem → Prop}, K (m11.set o6b (.cells (rO oa' (fi ++ q.fi).length oc' ol la.length olc nu) T_eyotref8_Places (0, 0))) → St1 m11 o6b (0 + 1) (.slice oa' (fi ++ q.fi).length oc') K := by
    intro K hK
    exact St1.to (rO oa' (fi ++ q.fi).length oc' ol la.length olc nu) q611.at_ (by simp) rfl (by simp) hK
  have rd : ∀ {mm' : Mem} {K : Bool → Prop}, mm' b9 = some (.cells (rO qa q.fi.length qc qla q.la.length qlc q.nu) T_eyotref8_Places (0, 0)) → K q.nu → LdV mm' b9 4 fun v => UnB v K := fun h1 h2 => LdV.s4 h1 (UnB.mk h2)
  have n96 : b9 ≠ o6b := by rintro rfl; rw [q68.at_] at hb9; cases hb9
  have h9a := l911.at_
  have h9b : (m11.set o6b (.cells (rO oa' (fi ++ q.fi).length oc' ol la.length olc nu) T_eyotref8_Places (0, 0))) b9 = _ := (set_other _ _ n96).trans h9a
  have h9c : (m11.set o6b (.cells (rO oa' (fi ++ q.fi).length oc' ol' (la ++ q.la).length olc' nu) T_eyotref8_Places (0, 0))) b9 = _ := (set_other _ _ n96).trans h9a
  refine Br.mk (fun hz => ?_) (fun hz => ?_)
  · have e : true = (nu || q.nu) := by rw [hz]; rfl
    refine ⟨fin1 (fin2 (fin3 _ e)), fin1 ⟨fin2 (fin3 _ e), fin2 (fin3 _ e)⟩⟩
  · have e : q.nu = (nu || q.nu) := by rw [hz]; rfl
    exact ⟨rd h9a (fin1 (fin2 (fin3 _ e))), fin1 ⟨rd h9b (fin2 (fin3 _ e)), fin2 (rd h9c (fin3 _ e))⟩⟩
theorem rwalk_spec (r : Rx) : form r = true → WalkR r := by
  refine Rx.ind (C := fun r => form r = true → WalkR r) ?_ r
  intro k S ps ih hf
  rcases form_cases hf with ⟨rfl, rfl, hS⟩ | ⟨_, hall, ⟨hk | hk, hlen⟩ | ⟨h4, h6, x, rfl, hx⟩⟩
  · exact rwalk_leaf
  · subst hk; exact rwalk_cat (fun a ha => ⟨(hall a ha).2, ih a ha (hall a ha).2⟩)
  · subst hk; exact rwalk_alt (fun a ha => ⟨(hall a ha).2, ih a ha (hall a ha).2⟩)
  · exact rwalk_sign h4 h6 (hall x (by simp)).2 (ih x (by simp) (hall x (by simp)).2)
end Go.E.Pl
set_option linter.unusedVariables false
set_option linter.unusedSimpArgs false
set_option maxRecDepth 20000
namespace Go.E.Rg
open Go.H Go.E
attribute [local irreducible] BiN MkS ConvN LookN MapUpN CallV HC limb dbTab
section
variable {m mm m3 m' : Mem} {a : Option Addr} {c : Nat} {prs : List (Rx × Value)} {r : Nat}
theorem RL.up {S : Nat → Prop} (h : RL m mm a c prs) (k : Chg S mm m3) (hs : ∀ b, S b → m b ≠ none) : RL m m3 a c prs := by
  refine ⟨h.own.chg k (fun b hb hS => hs b hS (h.fr b hb)), h.fr, fun p hp => (h.ok p hp).le ?_⟩
  exact on_mono k (fun b hb _ hS => hs b hS hb.1) (fun b hb _ => hb)
theorem RL.part (h : RL m mm a c prs) (k : Le mm m') {p : Rx × Value} (hp : p ∈ prs) : ArgC (newB m m') p.1 p.2 :=
  (h.ok p hp).le (on_mono (k.chg fun _ => False) (fun _ _ _ h => h) (fun b hb _ => hb.1))
theorem RL.arg (h : RL m mm a c prs) (k : Le mm m') (hl : prs.length ≤ 9223372036854775807) (kd : Int) (S : Nat → Bool) : ArgC (newB m m') (.mk kd S (prs.map (·.1))) (.slice a prs.length c) :=
  .mk h.own.cap hl (CellsAt.on (h.own.cells.le k) (fun b hb => h.fr b hb)) (fun p hp => h.part k hp)
theorem RL.in_ (h : RL m mm a c prs) (hm : ∀ b, m b ≠ none → mm b ≠ none) {x : Rx} {v : Value} (hx : ArgC (newB mm m3) x v) : ArgC (on m3 fun b => m b = none ∧ blk a ≠ some b) x v := by
  refine hx.le ?_
  intro b o hb
  obtain ⟨h1, h2⟩ := on_live hb
  have e1 : m b = none := by
    cases e : m b with
    | none => rfl
    | some o => exact absurd h1 (hm b (by rw [e]; simp))
  have e2 : blk a ≠ some b := fun e => h.own.live b e h1
  rw [on_in (G := fun b => m b = none ∧ blk a ≠ some b) ⟨e1, e2⟩]; exact h2
theorem RL.push (h : RL m mm a c prs) {x : Rx} {v : Value} (hv : notOne v = false) (hx : ArgC (on mm fun b => m b = none ∧ blk a ≠ some b) x v) (hlen : prs.length ≤ 1000000000) (hmm : ∀ b, m b ≠ none → mm b ≠ none) {ty : TypeId} {cs : Array Bool} {K : Value → Mem → Prop} {Pn : List PanicEntry → Mem → Prop}
    (k : ∀ a' c' m5, Chg (fun b => blk a = some b) mm m5 → RL m m5 a' c' (prs ++ [(x, v)]) → K (.slice a' (prs.length + 1) c') m5) :
    ∀ b, mm b = none → BiN P .append #[T_sl_api_Rx, T_sl_api_Rx] ty cs #[.slice a prs.length c, .slice (some ⟨b, 0, none⟩) 1 1] (mm.set b (.cells #[.int .i64 x.k, .int .u64 (L x.S 0), .int .u64 (L x.S 1), .int .u64 (L x.S 2), .int .u64 (L x.S 3), v] T_api_Rx (0, 0))) K Pn := by
  refine push_row eRx (by decide) h.own rfl ?_ hlen (by decide) ?_
  · intro u hu
    simp only [List.mem_cons, List.not_mem_nil, or_false] at hu
    rcases hu with rfl | rfl | rfl | rfl | rfl | rfl <;> first | rfl | exact hv
  intro a' c' m5 hch ho hfr
  have hf' : Fresh m a' := by
    rcases hfr with e | e
    · intro b hb; rw [e] at hb; exact h.fr b hb
    · intro b hb
      have := e b hb
      cases e2 : m b with
      | none => rfl
      | some o => exact absurd this (hmm b (by rw [e2]; simp))
  have hle : Le (on mm fun b => m b = none ∧ blk a ≠ some b) (on m5 fun b => m b = none ∧ blk a' ≠ some b) := by
    refine on_mono hch (fun b hb _ hS => hb.2 hS) (fun b hb hl => ⟨hb.1, fun e => ?_⟩)
    rcases hfr with e2 | e2
    · rw [e2] at e; exact hb.2 e
    · exact hl (e2 b e)
  refine k a' c' m5 hch ⟨?_, hf', ?_⟩
  · rw [List.flatMap_append, List.length_append]
    exact ho
  · intro p hp
    rcases List.mem_append.mp hp with hp | hp
    · exact (h.ok p hp).le hle
    · have : p = (x, v) := by simpa using hp
      subst this
      exact hx.le hle
theorem RL.one (hb : m3 r = none) (hm : ∀ b, m b ≠ none → m3 b ≠ none) {x : Rx} {v : Value} (hx : ArgC (newB m m3) x v) : RL m (m3.set r (.cells #[.int .i64 x.k, .int .u64 (L x.S 0), .int .u64 (L x.S 1), .int .u64 (L x.S 2), .int .u64 (L x.S 3), v] T_api_Rx (0, 0))) (some ⟨r, 0, none⟩) 1 [(x, v)] := by
  have hmr : m r = none := by
    cases e : m r with
    | none => rfl
    | some o => exact absurd hb (hm r (by rw [e]; simp))
  refine ⟨⟨by simp [rxRow], .inr ⟨r, _, rfl, set_same _ _ _, Nat.le_refl _, by simp, by simp [rxRow], by omega⟩⟩, fun b e => by cases e; exact hmr, ?_⟩
  intro p hp
  have : p = (x, v) := by simpa using hp
  subst this
  refine hx.le ?_
  refine on_mono ((Le.set hb _).chg fun _ => False) (fun _ _ _ h => h) (fun b h1 h2 => ⟨h1, fun e => ?_⟩)
  cases e
  exact h2 hb
end
abbrev zRx : Array Value := #[.int .i64 0, .int .u64 0, .int .u64 0, .int .u64 0, .int .u64 0, .slice none 0 0]
end Go.E.Rg
set_option linter.unusedVariables false
set_option linter.unusedSimpArgs false
set_option maxRecDepth 20000
namespace Go.E.Rg
open Go.H Go.E
attribute [local irreducible] BiN MkS ConvN LookN MapUpN CallV HC limb dbTab
theorem Cl.app {T : TypeId} {m m1 mm m' : Mem} {r b : Nat} {c : Array Value} {a : Option Addr} (h : Cl T m mm r b c) (k : Chg (fun x => blk a = some x) mm m') (hf : Fresh m1 a) (hb : m1 b ≠ none) (hm : ∀ b, m b ≠ none → m1 b ≠ none) : Cl T m m' r b c := by
  refine ⟨k.eq _ _ h.at_ (fun e => hb (hf b e)), h.ne, h.new, ?_⟩
  refine h.ch.trans k (fun x hx e => ?_)
  exact absurd (hf x e) (hm x hx)
end Go.E.Rg
set_option linter.unusedVariables false
set_option linter.unusedSimpArgs false
set_option maxRecDepth 20000
namespace Go.E.Rg
open Go.H Go.E
attribute [local irreducible] BiN MkS ConvN LookN MapUpN CallV HC limb dbTab
abbrev ptr (b : Nat) : Value := .pointer (some ⟨b, 0, none⟩)
end Go.E.Rg
set_option linter.unusedVariables false
set_option linter.unusedSimpArgs false
set_option maxRecDepth 20000
namespace Go.E.Rg
open Go.H Go.E
attribute [local irreducible] BiN MkS ConvN LookN MapUpN CallV HC limb dbTab
theorem ContU.mk {K : Mem → Prop} {Pn : List PanicEntry → Mem → Prop} {m : Mem} (h : K m) : Cont (fun v m => UnTup v fun us0 => UnNil us0 (K m)) Pn (.returned (.tuple #[])) m := h
end Go.E.Rg
set_option linter.unusedVariables false
set_option linter.unusedSimpArgs false
set_option maxRecDepth 20000
namespace Go.E.Rg
open Go.H Go.E
attribute [local irreducible] BiN MkS ConvN LookN MapUpN CallV HC limb dbTab
theorem Empty_spec {S : Nat → Bool} {m : Mem} {R : Ending → Mem → Prop} (k : ∀ m', Le m m' → R (.returned (.bool (emptyS S))) m') : HC P eyotref8_Empty.id #[setv S] m R := by
  refine eyotref8_Empty.ok _ _ _ _ _ _ ?_
  intro b hb
  have e : (m.set b (.cells (cells4 S) T_api_Set (0, 0))) b = _ := set_same _ _ _
  refine get4 e ?_
  rw [eq4_zero]
  exact k _ (Le.set hb _)
theorem form_two {k : Int} {S : Nat → Bool} {ps : List Rx} (h : k = 2 ∨ k = 3) : form (.mk k S ps) = (decide (2 ≤ ps.length) && (formL k ps && emptyS S)) := by
  rw [form_mk, if_neg (by omega)]
  cases hS : emptyS S with
  | false => simp
  | true => rw [if_neg (by simp), if_pos h]; simp
theorem form_sg {k : Int} {S : Nat → Bool} {ps : List Rx} (h4 : 4 ≤ k) (h6 : k ≤ 6) : form (.mk k S ps) = (decide (ps.length = 1) && !(ps.any fun a => sgK a.k) && (formL k ps && emptyS S)) := by
  rw [form_mk, if_neg (by omega)]
  cases hS : emptyS S with
  | false => simp
  | true => rw [if_neg (by simp), if_neg (by omega), if_pos (sgK_iff.mpr ⟨h4, h6⟩)]; simp
theorem form_no {k : Int} {S : Nat → Bool} {ps : List Rx} (h1 : k ≠ 1) (h2 : k ≠ 2) (h3 : k ≠ 3) (h : ¬ (4 ≤ k ∧ k ≤ 6)) : form (.mk k S ps) = false := by
  rw [form_mk, if_neg h1]
  cases hS : emptyS S with
  | false => simp
  | true => rw [if_neg (by simp), if_neg (by omega), if_neg (by rw [sgK_iff]; exact h)]
theorem form_big {a : Rx} (h : form a = true) : a.k ≤ 6 := by
  cases a with
  | mk k S ps =>
    show k ≤ 6
    apply Decidable.byContradiction
    intro hn
    rw [form_no (by omega) (by omega) (by omega) (by omega)] at h; cases h
theorem rform_spec (r : Rx) : ∀ {m : Mem} {v : Value} {R : Ending → Mem → Prop}, ArgC m r v → (∀ m', Le m m' → R (.returned (.bool (form r))) m') → HC P eyotref8_form.id #[rxA r.k r.S v] m R := by
  refine Rx.ind (C := fun r => ∀ {m : Mem} {v : Value} {R : Ending → Mem → Prop}, ArgC m r v → (∀ m', Le m m' → R (.returned (.bool (form r))) m') → HC P eyotref8_form.id #[rxA r.k r.S v] m R) ?_ r
  intro k S ps ih m v R ha hk
  obtain ⟨prs, a, c, rfl, rfl, hl, hb, hc, hp⟩ := ha.inv
  show HC P eyotref8_form.id #[rxA k S (.slice a prs.length c)] m R
  refine eyotref8_form.ok _ _ _ _ _ _ _ _ _ _ ?_
  refine newRx ?_
  intro b1 m1 hb1 hle h1
  have hlen : (prs.map (·.1)).length = prs.length := List.length_map _
  -- the loop over the parts, the set behind it
  have k2 : (∀ m', Le m m' → R (.returned (.bool (formL k (prs.map (·.1)) && emptyS S))) m') → eyotref8_form.k2 b1 0 R m1 := by
    intro hk2
    unfold eyotref8_form.k2
    refine ⟨fun N x1b x1o i mm => x1b = b1 ∧ x1o = 0 ∧ ∃ j : Nat, i = (j : Int) ∧ j ≤ prs.length ∧ N = prs.length - j ∧ Le m1 mm ∧ formL k (prs.map (·.1)) = formL k ((prs.map (·.1)).drop j), prs.length,
      ⟨rfl, rfl, 0, rfl, by omega, by omega, Le.refl _, rfl⟩, ?_⟩
    rintro N x1b x1o i mm ⟨rfl, rfl, j, rfl, hj, rfl, hlm, hfl⟩
    unfold eyotref8_form.l3B
    refine LdV.s5 (hlm _ _ h1) (UnS.mk ?_)
    refine BrD (fun hlt => ?_) (fun hge => ?_)
    · have hjl : j < prs.length := by omega
      have hpm := List.getElem_mem hjl
      obtain ⟨a', l', c', hv⟩ := (hp _ hpm).sl
      have hdrop : (prs.map (·.1)).drop j = prs[j].1 :: (prs.map (·.1)).drop (j + 1) := by
        rw [List.drop_eq_getElem_cons (by rw [hlen]; exact hjl), List.getElem_map]
      rw [hdrop, formL_cons] at hfl
      refine Sub.all ?_
      refine LdV.s5 (hlm _ _ h1) (UnS.mk ?_)
      refine IxS.rx6 (hc.le (hle.trans hlm)) hjl hv ?_
      refine ih prs[j].1 (List.mem_map.mpr ⟨_, hpm, rfl⟩) (m := mm) (v := .slice a' l' c') (by
          have := hp _ hpm
          rw [hv] at this
          exact this.le (hle.trans hlm)) ?_
      intro m2 hle2
      dsimp only [Cont]
      refine UnB.mk ?_
      have hlm2 := hlm.trans hle2
      refine Lk.all hle2 ?_
      refine Br.mk (fun hf => ?_) (fun hf => ?_)
      · have hf : form prs[j].1 = false := by simpa using hf
        have := hk2 m2 (hle.trans hlm2)
        rw [hfl, hf, Bool.and_false, Bool.false_and, Bool.false_and] at this
        exact this
      have hf : form prs[j].1 = true := by simpa using hf
      refine LdV.s5 (hlm2 _ _ h1) (UnS.mk ?_)
      refine IxS.rxk (hc.le (hle.trans hlm2)) hjl ?_
      refine LdV.s0 (hlm2 _ _ h1) (UnI.mk ?_)
      rw [hf, Bool.and_true] at hfl
      refine BrE (fun e => ?_) (fun e => ?_)
      · have := hk2 m2 (hle.trans hlm2)
        rw [hfl] at this
        rw [show decide (prs[j].1.k ≠ k) = false by simpa using e, Bool.false_and, Bool.false_and] at this
        exact this
      · rw [show decide (prs[j].1.k ≠ k) = true by simpa using e, Bool.true_and] at hfl
        refine ⟨prs.length - (j + 1), by omega, rfl, rfl, j + 1, ?_, by omega, rfl, hlm2, hfl⟩
        rw [wi (by omega) (by omega)]; omega
    · have e : (prs.map (·.1)).drop j = [] := List.drop_eq_nil_of_le (by omega)
      rw [e] at hfl
      have e2 : formL k [] = true := by unfold formL; rfl
      rw [e2] at hfl
      rw [hfl, Bool.true_and] at hk2
      unfold eyotref8_form.k4
      have hb' := hlm _ _ h1
      refine LdV.s1 hb' (UnI.mk (LdV.s2 hb' (UnI.mk (LdV.s3 hb' (UnI.mk (LdV.s4 hb' (UnI.mk ?_)))))))
      refine Empty_spec (S := S) ?_
      intro m2 hle2
      exact hk2 m2 (hle.trans (hlm.trans hle2))
  have k5 : ∀ x : Bool, (x = true ↔ (4 ≤ k ∧ k ≤ 6)) → k ≠ 1 → k ≠ 2 → k ≠ 3 → eyotref8_form.k5 b1 0 x R m1 := by
    intro x hx n1 n2 n3
    unfold eyotref8_form.k5
    refine Br.mk (fun h => ?_) (fun h => ?_)
    rotate_left
    · rw [form_no n1 n2 n3 (by rw [← hx, h]; decide)] at hk
      exact hk m1 hle
    obtain ⟨h4, h6⟩ := hx.mp h
    rw [form_sg h4 h6, hlen] at hk
    refine LdV.s5 h1 (UnS.mk ?_)
    refine BrN (fun h1' => ?_) (fun h1' => ?_)
    · have := hk m1 hle
      rw [show decide (prs.length = 1) = false by simp; omega] at this
      simpa using this
    have hl1 : prs.length = 1 := by omega
    refine LdV.s5 h1 (UnS.mk ?_)
    refine IxS.rxk (hc.le hle) (j := 0) (by omega) ?_
    obtain ⟨p, rfl⟩ := List.length_eq_one_iff.mp hl1
    refine BrD (fun hge => ?_) (fun hlt => ?_)
    · have hge : 4 ≤ p.1.k := hge
      have := hk m1 hle
      have e0 : (decide ([p].length = 1) && !([p].map (·.1)).any (fun a => sgK a.k) && (formL k ([p].map (·.1)) && emptyS S)) = false := by
        cases hs : sgK p.1.k with
        | true => simp [hs]
        | false =>
          have : ¬ (4 ≤ p.1.k ∧ p.1.k ≤ 6) := by rw [← sgK_iff, hs]; decide
          have hf : form p.1 = false := by
            cases h : form p.1 with
            | false => rfl
            | true => exact absurd ⟨hge, form_big h⟩ this
          rw [List.map_cons, formL_cons, hf]; simp
      rw [e0] at this
      exact this
    · have hlt : ¬ 4 ≤ p.1.k := hlt
      have hs : sgK p.1.k = false := by
        cases h : sgK p.1.k with
        | false => rfl
        | true => exact absurd (sgK_iff.mp h).1 hlt
      refine k2 ?_
      intro m' hm'
      have := hk m' hm'
      simp [hs] at this ⊢
      exact this
  have k1 : ∀ x : Bool, (x = true ↔ (k = 2 ∨ k = 3)) → k ≠ 1 → eyotref8_form.k1 b1 0 k x R m1 := by
    intro x hx n1
    unfold eyotref8_form.k1
    refine Br.mk (fun h => ?_) (fun h => ?_)
    · have h23 := hx.mp h
      rw [form_two h23, hlen] at hk
      refine LdV.s5 h1 (UnS.mk ?_)
      refine BrD (fun h2 => ?_) (fun h2 => ?_)
      · have := hk m1 hle
        rw [show decide (2 ≤ prs.length) = false by simp; omega] at this
        simpa using this
      · rw [show decide (2 ≤ prs.length) = true by simp; omega] at hk
        exact k2 (by simpa using hk)
    · have h23 : ¬ (k = 2 ∨ k = 3) := by rw [← hx, h]; decide
      refine BrE (fun e => ?_) (fun e => ?_)
      · exact k5 true (by simp; omega) n1 (by omega) (by omega)
      refine BrE (fun e2 => ?_) (fun e2 => ?_)
      · exact k5 true (by simp; omega) n1 (by omega) (by omega)
      · exact k5 _ (by simp; omega) n1 (by omega) (by omega)
  refine LdV.s0 h1 (UnI.mk ?_)
  refine BrE (fun e => ?_) (fun e => ?_)
  · rw [form_mk, if_pos e] at hk
    refine LdV.s5 h1 (UnS.mk ?_)
    refine BrE (fun e2 => ?_) (fun e2 => ?_)
    · have hz : prs = [] := List.eq_nil_of_length_eq_zero (by omega)
      refine LdV.s1 h1 (UnI.mk (LdV.s2 h1 (UnI.mk (LdV.s3 h1 (UnI.mk (LdV.s4 h1 (UnI.mk ?_)))))))
      refine Empty_spec (S := S) ?_
      intro m2 hle2
      have := hk m2 (hle.trans hle2)
      rw [hz] at this
      simpa using this
    · have := hk m1 hle
      have hz : (prs.map (·.1)).isEmpty = false := by
        cases prs with
        | nil => simp at e2
        | cons p qs => rfl
      rw [hz] at this
      simpa using this
  refine BrE (fun e2 => ?_) (fun e2 => ?_)
  · exact k1 true (by simp; omega) e
  · exact k1 _ (by simp; omega) e
theorem rnodes_spec (r : Rx) : ∀ {m : Mem} {v : Value} {R : Ending → Mem → Prop}, ArgC m r v → nodes r ≤ 4000000000000000000 → (∀ m', Le m m' → R (.returned (.int .i64 (nodes r : Nat))) m') → HC P eyotref8_nodes.id #[rxA r.k r.S v] m R := by
  refine Rx.ind (C := fun r => ∀ {m : Mem} {v : Value} {R : Ending → Mem → Prop}, ArgC m r v → nodes r ≤ 4000000000000000000 → (∀ m', Le m m' → R (.returned (.int .i64 (nodes r : Nat))) m') → HC P eyotref8_nodes.id #[rxA r.k r.S v] m R) ?_ r
  intro k S ps ih m v R ha hn hk
  obtain ⟨prs, a, c, rfl, rfl, hl, hb, hc, hp⟩ := ha.inv
  show HC P eyotref8_nodes.id #[rxA k S (.slice a prs.length c)] m R
  refine eyotref8_nodes.ok _ _ _ _ _ _ _ _ _ _ ?_
  refine newRx ?_
  intro b1 m1 hb1 hle h1
  have hlen : (prs.map (·.1)).length = prs.length := List.length_map _
  rw [nodes_mk] at hn hk
  refine ⟨fun N rb ro nd i mm => rb = b1 ∧ ro = 0 ∧ ∃ j : Nat, i = (j : Int) ∧ j ≤ prs.length ∧ N = prs.length - j ∧ Le m1 mm ∧ nd = ((nodesL ((prs.map (·.1)).take j) + 1 : Nat) : Int), prs.length,
    ⟨rfl, rfl, 0, rfl, by omega, by omega, Le.refl _, by unfold nodesL; rfl⟩, ?_⟩
  rintro N rb ro nd i mm ⟨rfl, rfl, j, rfl, hj, rfl, hlm, rfl⟩
  unfold eyotref8_nodes.l1B
  refine LdV.s5 (hlm _ _ h1) (UnS.mk ?_)
  refine BrD (fun hlt => ?_) (fun hge => ?_)
  · have hjl : j < prs.length := by omega
    have hpm := List.getElem_mem hjl
    obtain ⟨a', l', c', hv⟩ := (hp _ hpm).sl
    have hg : (prs.map (·.1))[j]? = some prs[j].1 := by rw [List.getElem?_map, List.getElem?_eq_getElem hjl]; rfl
    obtain ⟨e1, e2, e3⟩ := nodesL_take hg
    refine LdV.s5 (hlm _ _ h1) (UnS.mk ?_)
    refine IxS.rx6 (hc.le (hle.trans hlm)) hjl hv ?_
    refine ih prs[j].1 (List.mem_map.mpr ⟨_, hpm, rfl⟩) (m := mm) (v := .slice a' l' c') (by
        have := hp _ hpm
        rw [hv] at this
        exact this.le (hle.trans hlm)) (by omega) ?_
    intro m2 hle2
    dsimp only [Cont]
    refine UnI.mk ?_
    refine ⟨prs.length - (j + 1), by omega, rfl, rfl, j + 1, ?_, by omega, rfl, hlm.trans hle2, ?_⟩
    · rw [wi (by omega) (by omega)]; omega
    · rw [wi (by omega) (by omega), e1]; omega
  · have e : (prs.map (·.1)).take j = prs.map (·.1) := List.take_of_length_le (by omega)
    rw [e]
    exact hk mm (hle.trans hlm)
theorem rdepth_spec (r : Rx) : ∀ {m : Mem} {v : Value} {R : Ending → Mem → Prop}, ArgC m r v → depth r ≤ 4000000000000000000 → (∀ m', Le m m' → R (.returned (.int .i64 (depth r : Nat))) m') → HC P eyotref8_depth.id #[rxA r.k r.S v] m R := by
  refine Rx.ind (C := fun r => ∀ {m : Mem} {v : Value} {R : Ending → Mem → Prop}, ArgC m r v → depth r ≤ 4000000000000000000 → (∀ m', Le m m' → R (.returned (.int .i64 (depth r : Nat))) m') → HC P eyotref8_depth.id #[rxA r.k r.S v] m R) ?_ r
  intro k S ps ih m v R ha hn hk
  obtain ⟨prs, a, c, rfl, rfl, hl, hb, hc, hp⟩ := ha.inv
  show HC P eyotref8_depth.id #[rxA k S (.slice a prs.length c)] m R
  refine eyotref8_depth.ok _ _ _ _ _ _ _ _ _ _ ?_
  refine newRx ?_
  intro b1 m1 hb1 hle h1
  have hlen : (prs.map (·.1)).length = prs.length := List.length_map _
  rw [depth_mk] at hn hk
  refine ⟨fun N rb ro nd i mm => rb = b1 ∧ ro = 0 ∧ ∃ j : Nat, i = (j : Int) ∧ j ≤ prs.length ∧ N = prs.length - j ∧ Le m1 mm ∧ nd = ((depthL ((prs.map (·.1)).take j) : Nat) : Int), prs.length,
    ⟨rfl, rfl, 0, rfl, by omega, by omega, Le.refl _, by unfold depthL; rfl⟩, ?_⟩
  rintro N rb ro nd i mm ⟨rfl, rfl, j, rfl, hj, rfl, hlm, rfl⟩
  unfold eyotref8_depth.l1B
  refine LdV.s5 (hlm _ _ h1) (UnS.mk ?_)
  refine BrD (fun hlt => ?_) (fun hge => ?_)
  · have hjl : j < prs.length := by omega
    have hpm := List.getElem_mem hjl
    obtain ⟨a', l', c', hv⟩ := (hp _ hpm).sl
    have hg : (prs.map (·.1))[j]? = some prs[j].1 := by rw [List.getElem?_map, List.getElem?_eq_getElem hjl]; rfl
    obtain ⟨e1, e2, e3⟩ := nodesL_take hg
    have hdl := depthL_le (List.mem_map.mpr ⟨_, hpm, rfl⟩ : prs[j].1 ∈ prs.map (·.1))
    refine LdV.s5 (hlm _ _ h1) (UnS.mk ?_)
    refine IxS.rx6 (hc.le (hle.trans hlm)) hjl hv ?_
    refine ih prs[j].1 (List.mem_map.mpr ⟨_, hpm, rfl⟩) (m := mm) (v := .slice a' l' c') (by
        have := hp _ hpm
        rw [hv] at this
        exact this.le (hle.trans hlm)) (by omega) ?_
    intro m2 hle2
    dsimp only [Cont]
    refine UnI.mk ?_
    refine ⟨prs.length - (j + 1), by omega, rfl, rfl, j + 1, ?_, by omega, rfl, hlm.trans hle2, ?_⟩
    · rw [wi (by omega) (by omega)]; omega
    · rw [e2]; split <;> omega
  · have e : (prs.map (·.1)).take j = prs.map (·.1) := List.take_of_length_le (by omega)
    rw [e, wi (by omega) (by omega)]
    exact hk mm (hle.trans hlm)
theorem RMay_spec {r : Rx} {m : Mem} {v : Value} {R : Ending → Mem → Prop} (ha : ArgC m r v) (hn : nodes r ≤ 4000000000000000000) (hk : ∀ m', Le m m' → R (.returned (.int .i64 (may r))) m') : HC P eyotref8_May.id #[rxA r.k r.S v] m R := by
  obtain ⟨a, l, c, rfl⟩ := ha.sl
  refine eyotref8_May.ok _ _ _ _ _ _ _ _ _ _ ?_
  refine newRx ?_
  intro b1 m1 hb1 hle h1
  refine get6 h1 ?_
  refine rform_spec r (ha.le hle) ?_
  intro m2 hle2
  dsimp only [Cont]
  refine UnB.mk ?_
  unfold may at hk
  refine Br.mk (fun hf => ?_) (fun hf => ?_)
  · rw [if_neg (by simpa using hf)] at hk
    exact hk m2 (hle.trans hle2)
  rw [if_pos (by simpa using hf)] at hk
  refine get6 (hle2 _ _ h1) ?_
  refine rnodes_spec r (ha.le (hle.trans hle2)) hn ?_
  intro m3 hle3
  dsimp only [Cont]
  refine UnI.mk ?_
  have hle3' := hle.trans (hle2.trans hle3)
  refine BrD (fun h4 => ?_) (fun h4 => ?_)
  · rw [if_pos (.inl (by omega))] at hk
    exact hk m3 hle3'
  have hdn := depth_nodes r
  refine get6 (hle3 _ _ (hle2 _ _ h1)) ?_
  refine rdepth_spec r (ha.le hle3') (by omega) ?_
  intro m4 hle4
  dsimp only [Cont]
  refine UnI.mk ?_
  refine BrD (fun h5 => ?_) (fun h5 => ?_)
  · rw [if_pos (.inr (by omega))] at hk
    exact hk m4 (hle3'.trans hle4)
  rw [if_neg (by omega)] at hk
  exact hk m4 (hle3'.trans hle4)
end Go.E.Rg
set_option linter.unusedVariables false
set_option linter.unusedSimpArgs false
set_option maxRecDepth 20000
namespace Go.E.Rg
open Go.H Go.E
attribute [local irreducible] BiN MkS ConvN LookN MapUpN CallV HC limb dbTab
abbrev rowA (n : Nat) (f : Nat → Bool) : Array Value := ((List.range n).map fun k => Value.bool (f k)).toArray
abbrev tblA (n q : Nat) (rb : Nat → Nat) : Array Value := ((List.range n).map fun i => if i < q then Value.slice (some ⟨rb i, 0, none⟩) n n else Value.slice none 0 0).toArray
/-- A table as it lies there. -/
structure Tb (m : Mem) (n b0 : Nat) (rb : Nat → Nat) (f : Nat → Nat → Bool) : Prop where
  c0 : m b0 = some (.cells (tblA n n rb) T_sl_bool (0, 0))
  row : ∀ i, i < n → m (rb i) = some (.cells (rowA n (f i)) T_bool (0, 0))
theorem Tb.le {m m' : Mem} {n b0 : Nat} {rb : Nat → Nat} {f : Nat → Nat → Bool} (h : Tb m n b0 rb f) (k : Le m m') : Tb m' n b0 rb f := ⟨k _ _ h.c0, fun i hi => k _ _ (h.row i hi)⟩
theorem range_get {α : Type} {n i : Nat} (g : Nat → α) (h : i < n) : ((List.range n).map g)[i]? = some (g i) := by
  rw [List.getElem?_map, List.getElem?_range h]; rfl
theorem IxS.blk {m : Mem} {b n i : Nat} {vs : List Value} {e : TypeId} {fr : Nat × Nat} {v : Value} (h : m b = some (.cells vs.toArray e fr)) (hi : i < n) (hv : vs[i]? = some v) {K : Value → Prop} (k : K v) : IxS (some ⟨b, 0, none⟩) n (i : Int) 1 fun b o => LdV m b o K := by
  refine ⟨by omega, by omega, ?_⟩
  refine LdV.mk (v := v) ?_ k
  refine cell_of h ?_
  rw [show (0 + (i : Int).toNat * 1) = i by omega]
  simpa using hv
section
variable {m : Mem} {n b0 i k : Nat} {rb : Nat → Nat} {f : Nat → Nat → Bool}
theorem Tb.rd (h : Tb m n b0 rb f) (hi : i < n) {K : Option Addr → Nat → Nat → Prop} (q : K (some ⟨rb i, 0, none⟩) n n) : IxS (some ⟨b0, 0, none⟩) n (i : Int) 1 fun b o => LdV m b o fun v => UnS v K := by
  refine IxS.blk h.c0 hi (range_get _ hi) ?_
  rw [if_pos hi]
  exact q
theorem Tb.cell (h : Tb m n b0 rb f) (hi : i < n) (hk : k < n) {K : Bool → Prop} (q : K (f i k)) : IxS (some ⟨rb i, 0, none⟩) n (k : Int) 1 fun b o => LdV m b o fun v => UnB v K :=
  IxS.blk (h.row i hi) hk (range_get _ hk) q
end
/-- A table of one's own, q rows of it made. -/
structure TbP (m0 mm : Mem) (n q b0 : Nat) (rb : Nat → Nat) (f : Nat → Nat → Bool) : Prop where
  le : Le m0 mm
  c0 : mm b0 = some (.cells (tblA n q rb) T_sl_bool (0, 0))
  w0 : m0 b0 = none
  row : ∀ i, i < q → mm (rb i) = some (.cells (rowA n (f i)) T_bool (0, 0))
  inj : ∀ i j, i < q → j < q → rb i = rb j → i = j
  ne : ∀ i, i < q → rb i ≠ b0
  wr : ∀ i, i < q → m0 (rb i) = none
theorem TbP.tb {m0 mm : Mem} {n b0 : Nat} {rb : Nat → Nat} {f : Nat → Nat → Bool} (h : TbP m0 mm n n b0 rb f) : Tb mm n b0 rb f := ⟨h.c0, h.row⟩
theorem TbP.up {m0 mm m' : Mem} {n q b0 : Nat} {rb : Nat → Nat} {f : Nat → Nat → Bool} (h : TbP m0 mm n q b0 rb f) (k : Le mm m') : TbP m0 m' n q b0 rb f :=
  ⟨h.le.trans k, k _ _ h.c0, h.w0, fun i hi => k _ _ (h.row i hi), h.inj, h.ne, h.wr⟩
theorem rowA_congr {n : Nat} {f g : Nat → Bool} (h : ∀ k, k < n → f k = g k) : rowA n f = rowA n g := by
  unfold rowA
  congr 1
  refine List.map_congr_left fun k hk => ?_
  rw [h k (by simpa using hk)]
theorem TbP.congr {m0 mm : Mem} {n b0 : Nat} {rb : Nat → Nat} {f g : Nat → Nat → Bool} (h : TbP m0 mm n n b0 rb f) (k : ∀ i, i < n → ∀ k, k < n → f i k = g i k) : TbP m0 mm n n b0 rb g :=
  ⟨h.le, h.c0, h.w0, fun i hi => by rw [← rowA_congr (k i hi)]; exact h.row i hi, h.inj, h.ne, h.wr⟩
/-- One cell turned. -/
def updF (f : Nat → Nat → Bool) (i k : Nat) (y : Bool) : Nat → Nat → Bool := fun i' k' => if i' = i ∧ k' = k then y else f i' k'
theorem map_range_set {α : Type} (n k : Nat) (g : Nat → α) (y : α) : ((List.range n).map g).toArray.setIfInBounds k y = ((List.range n).map fun j => if j = k then y else g j).toArray := by
  rw [List.setIfInBounds_toArray]
  congr 1
  apply List.ext_getElem
  · simp
  · intro j h1 h2
    rw [List.getElem_set, List.getElem_map, List.getElem_map, List.getElem_range]
    by_cases e : k = j
    · rw [if_pos e, if_pos e.symm]
    · rw [if_neg e, if_neg (fun x => e x.symm)]
theorem rowA_set {n : Nat} {f : Nat → Bool} {k : Nat} (y : Bool) : (rowA n f).setIfInBounds k (.bool y) = rowA n (fun k' => if k' = k then y else f k') := by
  unfold rowA
  rw [map_range_set]
  congr 1
  refine List.map_congr_left fun j _ => ?_
  show (if j = k then Value.bool y else Value.bool (f j)) = Value.bool (if j = k then y else f j)
  by_cases e : j = k
  · rw [if_pos e, if_pos e]
  · rw [if_neg e, if_neg e]
theorem TbP.st {m0 mm : Mem} {n b0 i k : Nat} {rb : Nat → Nat} {f : Nat → Nat → Bool} (h : TbP m0 mm n n b0 rb f) (hi : i < n) (hk : k < n) {y : Bool} {K : Mem → Prop} (q : ∀ m', Chg (fun b => b = rb i) mm m' → TbP m0 m' n n b0 rb (updF f i k y) → K m') :
    IxS (some ⟨rb i, 0, none⟩) n (k : Int) 1 fun b o => St1 mm b o (.bool y) K := by
  refine ⟨by omega, by omega, ?_⟩
  have e : 0 + (k : Int).toNat * 1 = k := by omega
  refine St1.of (by exact h.row i hi) (by simp; omega) rfl ?_
  rw [e, rowA_set]
  refine q _ (Chg.set _ _ _) ⟨?_, ?_, h.w0, ?_, h.inj, h.ne, h.wr⟩
  · exact (Chg.set mm (rb i) _).to_le h.le (fun b e => by rw [show b = rb i from e]; exact h.wr i hi)
  · rw [set_other _ _ (h.ne i hi).symm]; exact h.c0
  · intro i' hi'
    by_cases e2 : i' = i
    · subst e2
      rw [set_same]
      congr 2
      refine rowA_congr fun k' _ => ?_
      unfold updF
      by_cases e3 : k' = k
      · subst e3; simp
      · simp [e3]
    · rw [set_other _ _ (fun x => e2 (h.inj _ _ hi' hi x)), h.row i' hi']
      congr 2
      refine rowA_congr fun k' _ => ?_
      unfold updF
      rw [if_neg (fun x => e2 x.1)]
end Go.E.Rg
set_option linter.unusedVariables false
set_option linter.unusedSimpArgs false
set_option maxRecDepth 20000
namespace Go.E.Rg
open Go.H Go.E
attribute [local irreducible] BiN MkS ConvN LookN MapUpN CallV HC limb dbTab
theorem wo_chg {m m' : Mem} {r : Nat} (k : Chg (fun b => b = r) m m') : Le (m.wo fun b => b = r) (m'.wo fun b => b = r) := fun b o hb => by
  by_cases e : b = r
  · rw [wo_out (F := fun b => b = r) e] at hb; cases hb
  · rw [wo_in (F := fun b => b = r) e] at hb ⊢
    exact k.eq b o hb e
/-- Numbers, some of them left; where they lie nothing turns (B). -/
def Pk (B m : Mem) (r : Nat) (l : List UInt8) : Prop := ∃ (la : Option Addr) (cap : Nat) (ps : List UInt8) (n : Nat), m r = some (.cells #[.slice la ps.length cap, .int .i64 (n : Int)] T_eyotplay_Picks (0, 0)) ∧ CellsAt B la (u8s ps) ∧ Le B (m.wo fun b => b = r) ∧ n ≤ ps.length ∧ ps.length ≤ 1000000 ∧ ps.drop n = l
section
variable {B m m' : Mem} {r b : Nat} {l : List UInt8}
theorem Pk.le (h : Pk B m r l) (k : Le m m') : Pk B m' r l := by
  obtain ⟨la, cap, ps, n, h1, h2, h3, h4⟩ := h
  exact ⟨la, cap, ps, n, k _ _ h1, h2, h3.trans (wo_chg (k.chg _)), h4⟩
theorem Pk.live (h : Pk B m r l) : m r ≠ none := by
  obtain ⟨la, cap, ps, n, h1, _⟩ := h
  rw [h1]; simp
theorem Pk.base (h : Pk B m r l) : Le B m := by
  obtain ⟨la, cap, ps, n, h1, h2, h3, h4⟩ := h
  exact h3.trans (wo_le _ _)
/-- Something new is written elsewhere. -/
theorem Pk.oth (h : Pk B m r l) (hb : b ≠ r) (hB : B b = none) (o : Obj) : Pk B (m.set b o) r l := by
  obtain ⟨la, cap, ps, n, h1, h2, h3, h4⟩ := h
  refine ⟨la, cap, ps, n, (set_other _ _ hb.symm).trans h1, h2, fun x o' hx => ?_, h4⟩
  have := h3 x o' hx
  by_cases e : x = r
  · rw [wo_out (F := fun b => b = r) e] at this; cases this
  · rw [wo_in (F := fun b => b = r) e] at this ⊢
    rw [set_other _ _ (fun e2 => by subst e2; rw [hB] at hx; cases hx)]; exact this
end
theorem Num_spec {B m : Mem} {r k : Nat} {l : List UInt8} (hp : Pk B m r l) (hk : 0 < k) {R : Ending → Mem → Prop} (h : ∀ m', Chg (fun b => b = r) m m' → Pk B m' r l.tail → R (.returned (.int .i64 (num l k : Nat))) m') :
    HC P eyotplay_Picks_Num.id #[.pointer (some ⟨r, 0, none⟩), .int .i64 (k : Int)] m R := by
  obtain ⟨la, cap, ps, n, h1, hB, h2, hn, hl, rfl⟩ := hp
  refine eyotplay_Picks_Num.ok _ _ _ _ ?_
  refine Sub.all ?_
  refine LdV.s1 h1 (UnI.mk ?_)
  refine LdV.s0 h1 (UnS.mk ?_)
  refine BrD (fun hge => ?_) (fun hlt => ?_)
  · have hz : ps.drop n = [] := List.drop_eq_nil_of_le (by omega)
    have := h m (Chg.refl _ _) ⟨la, cap, ps, n, h1, hB, h2, hn, hl, by rw [hz]; rfl⟩
    rw [hz] at this
    exact this
  have hnl : n < ps.length := by omega
  refine LdV.s1 h1 (UnI.mk ?_)
  rw [wi (n := (n : Int) + 1) (by omega) (by omega)]
  refine St1.to #[.slice la ps.length cap, .int .i64 ((n + 1 : Nat) : Int)] h1 (by simp) rfl rfl ?_
  have hch := Chg.set m r (.cells #[.slice la ps.length cap, .int .i64 ((n + 1 : Nat) : Int)] T_eyotplay_Picks (0, 0))
  have h1' : (m.set r (.cells #[.slice la ps.length cap, .int .i64 ((n + 1 : Nat) : Int)] T_eyotplay_Picks (0, 0))) r = _ := set_same _ _ _
  generalize m.set r (.cells #[.slice la ps.length cap, .int .i64 ((n + 1 : Nat) : Int)] T_eyotplay_Picks (0, 0)) = m2 at hch h1' ⊢
  have h2' := h2.trans (wo_chg hch)
  refine Sub.all ?_
  refine LdV.s0 h1' (UnS.mk ?_)
  refine LdV.s1 h1' (UnI.mk ?_)
  rw [wi (n := ((n + 1 : Nat) : Int) - 1) (by omega) (by omega), show ((n + 1 : Nat) : Int) - 1 = (n : Int) by omega]
  refine IxS.u8s (hB.le (h2'.trans (wo_le _ _))) rfl (by omega) (by omega) ?_
  intro x hx
  rw [Int.toNat_natCast] at hx
  refine UnI.mk ?_
  have hd : ps.drop n = x :: ps.drop (n + 1) := by
    rw [List.drop_eq_getElem_cons hnl]
    rw [List.getElem?_eq_getElem hnl] at hx
    cases hx; rfl
  have hxl := UInt8.toNat_lt x
  refine NzI.mk (by omega) ?_
  rw [wi (by omega) (by omega)]
  have := h m2 hch ⟨la, cap, ps, n + 1, h1', hB, h2', by omega, hl, by rw [hd]; rfl⟩
  rw [hd] at this
  have e : Int.tmod ((x.toNat : Nat) : Int) (k : Int) = ((num (x :: ps.drop (n + 1)) k : Nat) : Int) := by
    unfold num
    rw [Int.tmod_eq_emod_of_nonneg (by omega)]
    exact (Int.natCast_emod _ _).symm
  rw [e]
  exact this
/-- A row of bytes of one's own. -/
theorem new_row {m : Mem} {bs : List UInt8} {K : Nat → Mem → Prop} (h : ∀ b m', Le m m' → CellsAt m' (some ⟨b, 0, none⟩) (u8s bs) → K b m') : NewC m (u8s bs).toArray T_uint8 K := fun b hb =>
  h b _ (Le.set hb _) (cells_at (set_same _ _ _) (by simp))
theorem Set_spec {B m : Mem} {r : Nat} {l : List UInt8} (hp : Pk B m r l) {R : Ending → Mem → Prop} (h : ∀ m', Chg (fun b => b = r) m m' → Pk B m' r (psR l) → R (.returned (setv (psS l))) m') :
    HC P eyotplay_Picks_Set.id #[.pointer (some ⟨r, 0, none⟩)] m R := by
  refine eyotplay_Picks_Set.ok _ _ _ ?_
  intro b2 hb2
  have c2 := Cl.mk0 (T := T_api_Set) (c := z4) hp.live hb2
  have hBb : B b2 = none := hp.base.new hb2
  have hp1 := hp.le (Le.set hb2 (.cells z4 T_api_Set (0, 0)))
  generalize m.set b2 (.cells z4 T_api_Set (0, 0)) = m1 at c2 hp1 ⊢
  refine Num_spec (k := 7) hp1 (by decide) ?_
  intro m2 hch2 hp2
  have c3 := c2.step hch2
  dsimp only [Cont]
  refine UnI.mk ?_
  have h7 := num_lt l (m := 7) (by decide)
  -- the end: this set is told
  have fin : ∀ (S : Nat → Bool) (mm : Mem), Chg (fun b => b = r) m2 mm → Pk B mm r (psR l) → S = psS l →
      St1 mm b2 0 (.int .u64 (L S 0)) fun m1 => St1 m1 b2 1 (.int .u64 (L S 1)) fun m2 => St1 m2 b2 2 (.int .u64 (L S 2)) fun m3 => St1 m3 b2 3 (.int .u64 (L S 3)) fun m4 =>
        LdV m4 b2 0 fun v => UnI v .u64 fun x0 => LdV m4 b2 1 fun v => UnI v .u64 fun x1 => LdV m4 b2 2 fun v => UnI v .u64 fun x2 => LdV m4 b2 3 fun v => UnI v .u64 fun x3 => R (.returned (.agg #[.int .u64 x0, .int .u64 x1, .int .u64 x2, .int .u64 x3])) m4 := by
    rintro S mm hch hpm rfl
    have c4 := c3.step hch
    refine out4 c4.at_ ?_
    refine h _ (c4.put _).ch ?_
    exact hpm.oth c4.ne hBb _
  have hR : ∀ c, num l 7 = c → c ≤ 3 → psR l = l.tail := fun c h h' => by unfold psR; rw [if_pos (by omega)]
  refine BrE (fun e => ?_) (fun e => ?_)
  · have e : num l 7 = 0 := by omega
    refine new_row (bs := [97, 98]) ?_
    intro b m3 hle3 hc
    refine ROf_spec hc rfl (by decide) ?_
    intro m4 hle4
    refine ContSet.mk ?_
    exact fin _ m4 ((hle3.trans hle4).chg _) (by rw [hR 0 e (by decide)]; exact hp2.le (hle3.trans hle4)) (by unfold psS; rw [if_pos e])
  have e : num l 7 ≠ 0 := by omega
  refine BrE (fun e1 => ?_) (fun e1 => ?_)
  · have e1 : num l 7 = 1 := by omega
    refine new_row (bs := [98, 99, 100]) ?_
    intro b m3 hle3 hc
    refine ROf_spec hc rfl (by decide) ?_
    intro m4 hle4
    refine ContSet.mk ?_
    exact fin _ m4 ((hle3.trans hle4).chg _) (by rw [hR 1 e1 (by decide)]; exact hp2.le (hle3.trans hle4)) (by unfold psS; rw [if_neg e, if_pos e1])
  have e1 : num l 7 ≠ 1 := by omega
  refine BrE (fun e2 => ?_) (fun e2 => ?_)
  · have e2 : num l 7 = 2 := by omega
    refine new_row (bs := [97, 10]) ?_
    intro b m3 hle3 hc
    refine ROf_spec hc rfl (by decide) ?_
    intro m4 hle4
    refine ContSet.mk ?_
    refine RNot_spec ?_
    intro m5 hle5
    refine ContSet.mk ?_
    have hle := (hle3.trans hle4).trans hle5
    exact fin _ m5 (hle.chg _) (by rw [hR 2 e2 (by decide)]; exact hp2.le hle) (by unfold psS; rw [if_neg e, if_neg e1, if_pos e2])
  have e2 : num l 7 ≠ 2 := by omega
  refine BrE (fun e3 => ?_) (fun e3 => ?_)
  · have e3 : num l 7 = 3 := by omega
    refine new_row (bs := [48, 49, 50]) ?_
    intro b m3 hle3 hc
    refine ROf_spec hc rfl (by decide) ?_
    intro m4 hle4
    refine ContSet.mk ?_
    exact fin _ m4 ((hle3.trans hle4).chg _) (by rw [hR 3 e3 (by decide)]; exact hp2.le (hle3.trans hle4)) (by unfold psS; rw [if_neg e, if_neg e1, if_neg e2, if_pos e3])
  have e3 : num l 7 ≠ 3 := by omega
  refine Num_spec (k := 6) hp2 (by decide) ?_
  intro m3 hch3 hp3
  dsimp only [Cont]
  refine UnI.mk ?_
  have h6 := num_lt l.tail (m := 6) (by decide)
  have hsz : (ByteArray.mk #[97, 98, 49, 10, 32, 45]).size = 6 := rfl
  refine ⟨by omega, by omega, ?_⟩
  have hbt : bt (ByteArray.mk #[97, 98, 49, 10, 32, 45]) (num l.tail 6 : Nat) = (((few.getD (num l.tail 6) 0).toNat : Nat) : Int) := by
    generalize num l.tail 6 = q at h6
    have : q = 0 ∨ q = 1 ∨ q = 2 ∨ q = 3 ∨ q = 4 ∨ q = 5 := by omega
    rcases this with rfl | rfl | rfl | rfl | rfl | rfl <;> rfl
  rw [hbt]
  refine new_row (bs := [few.getD (num l.tail 6) 0]) ?_
  intro b m4 hle4 hc
  refine ROf_spec hc rfl (by simp) ?_
  intro m5 hle5
  refine ContSet.mk ?_
  have hle := hle4.trans hle5
  refine fin _ m5 (hch3.trans (hle.chg _) (fun _ _ e => e)) ?_ ?_
  · have : psR l = l.tail.tail := by unfold psR; rw [if_neg (by omega)]
    rw [this]; exact hp3.le hle
  · unfold psS; rw [if_neg e, if_neg e1, if_neg e2, if_neg e3]
end Go.E.Rg
set_option linter.unusedVariables false
set_option linter.unusedSimpArgs false
set_option maxRecDepth 20000
namespace Go.E.Rg
open Go.H Go.E
attribute [local irreducible] BiN MkS ConvN LookN MapUpN CallV HC limb dbTab
theorem Pk.chg {B m m' : Mem} {r : Nat} {l : List UInt8} {S : Nat → Prop} (h : Pk B m r l) (k : Chg S m m') (hs : ∀ b, S b → b ≠ r ∧ B b = none) : Pk B m' r l := by
  obtain ⟨la, cap, ps, n, h1, h2, h3, h4⟩ := h
  refine ⟨la, cap, ps, n, k.eq _ _ h1 (fun hS => (hs r hS).1 rfl), h2, fun x o' hx => ?_, h4⟩
  have := h3 x o' hx
  by_cases e : x = r
  · rw [wo_out (F := fun b => b = r) e] at this; cases this
  · rw [wo_in (F := fun b => b = r) e] at this ⊢
    exact k.eq x o' this (fun hS => by rw [(hs x hS).2] at hx; cases hx)
theorem Cl.with {T : TypeId} {m mm : Mem} {r b b' : Nat} {c : Array Value} (h : Cl T m mm r b c) (hne : b ≠ b') (o : Obj) (hm : m b' = none) : Cl T m (mm.set b' o) r b c := by
  refine ⟨(set_other _ _ hne).trans h.at_, h.ne, h.new, ?_⟩
  refine h.ch.trans (Chg.set mm b' o) (fun x hx e => ?_)
  rw [show x = b' from e, hm] at hx; exact absurd rfl hx
def PrxOK (d : Nat) : Prop := ∀ {B m : Mem} {r : Nat} {l : List UInt8} {R : Ending → Mem → Prop}, Pk B m r l → (∀ m' v, Chg (fun b => b = r) m m' → Pk B m' r (prx d l).2 → ArgC (newB m m') (prx d l).1 v → R (.returned (rxA (prx d l).1.k (prx d l).1.S v)) m') → HC P eyotplay_Picks_Rx.id #[.pointer (some ⟨r, 0, none⟩), .int .i64 (d : Int)] m R
section
variable {B m m1 : Mem} {r b4 b8 : Nat} {d n : Nat} {kind : Int} {l0 : List UInt8} {R : Ending → Mem → Prop}
/-- One more part is put on. -/
theorem k5_spec {K3 : Option Addr → Int → Nat → Nat → Int → Int → Nat → Nat → Int → Mem → Prop} {x0 : Option Addr} {x1 : Int} {x4o : Nat} {i : Nat} {mm : Mem} {b10 : Nat} {a : Option Addr} {c : Nat} {prs : List (Rx × Value)} {y : Rx} {a' : Option Addr} {l' c' : Nat} {lr : List UInt8}
    (hle1 : Le B m1) (hrl1 : m1 r ≠ none) (hl4 : m1 b4 ≠ none) (hl8 : m1 b8 ≠ none) (hup : ∀ b, m b ≠ none → m1 b ≠ none) (h48 : b4 ≠ b8) (hm8 : m b8 = none)
    (c4 : Cl T_api_Rx m mm r b4 zRx) (c8 : Cl T_api_Rx m mm r b8 (rxO kind noS (.slice a prs.length c))) (hL : RL m1 mm a c prs) (hp : Pk B mm r lr) (hupm : ∀ b, m1 b ≠ none → mm b ≠ none)
    (h10 : mm b10 = some (.cells (rxO y.k y.S (.slice a' l' c')) T_api_Rx (0, 0))) (hy : ArgC (on mm fun b => m1 b = none ∧ blk a ≠ some b) y (.slice a' l' c')) (hlen : prs.length ≤ 100) (hi : i ≤ 100) (hB8 : B b8 = none)
    (hK : ∀ m' a2 c2, Cl T_api_Rx m m' r b4 zRx → Cl T_api_Rx m m' r b8 (rxO kind noS (.slice a2 (prs.length + 1) c2)) → RL m1 m' a2 c2 (prs ++ [(y, .slice a' l' c')]) → Pk B m' r lr → (∀ b, m1 b ≠ none → m' b ≠ none) → K3 x0 x1 b4 x4o kind (n : Int) b8 0 ((i + 1 : Nat) : Int) m') :
    eyotplay_Picks_Rx.k5 K3 x0 x1 b4 x4o kind (n : Int) b8 0 (i : Int) b10 0 R mm := by
  unfold eyotplay_Picks_Rx.k5
  refine LdV.s5 c8.at_ (UnS.mk ?_)
  refine get6 h10 ?_
  refine RL.push hL (x := y) rfl hy (by omega) hupm ?_
  intro a2 c2 m5 hch5 hL5
  refine UnS.mk ?_
  have c45 := c4.app hch5 hL.fr hl4 hup
  have c85 := c8.app hch5 hL.fr hl8 hup
  have hp5 := hp.chg hch5 (fun b hb => ⟨fun e => by subst e; exact hrl1 (hL.fr b hb), hle1.new (hL.fr b hb)⟩)
  have hup5 : ∀ b, m1 b ≠ none → m5 b ≠ none := fun b hb => hch5.live b (hupm b hb)
  refine St1.to (rxO kind noS (.slice a2 (prs.length + 1) c2)) c85.at_ (by simp [rxO]) rfl (by simp [rxO]) ?_
  rw [show IntKind.i64.wrap ((i : Int) + 1) = ((i + 1 : Nat) : Int) by rw [wi (by omega) (by omega)]; omega]
  refine hK _ a2 c2 (c45.with h48 _ hm8) (c85.put _) (hL5.up (Chg.set m5 b8 _) (fun b e => by rw [show b = b8 from e]; exact hl8)) (hp5.oth c85.ne hB8 _) (fun b hb => (Chg.set m5 b8 _).live b (hup5 b hb))
end
theorem prx_spec : ∀ d, d ≤ 1000 → PrxOK d := by
  intro d
  induction d with
  | zero =>
    intro hd B m r l R hp k
    refine eyotplay_Picks_Rx.ok _ _ _ _ ?_
    intro b4 hb4
    have c4 := Cl.mk0 (T := T_api_Rx) (c := zRx) hp.live hb4
    have hB4 : B b4 = none := hp.base.new hb4
    have hp1 := hp.le (Le.set hb4 (.cells zRx T_api_Rx (0, 0)))
    generalize m.set b4 (.cells zRx T_api_Rx (0, 0)) = m1 at c4 hp1 ⊢
    refine Num_spec (k := 9) hp1 (by decide) ?_
    intro m2 hch2 hp2
    dsimp only [Cont]
    refine UnI.mk ?_
    refine BrDt (by omega) ?_
    unfold eyotplay_Picks_Rx.k1
    refine Br.t rfl ?_
    refine Set_spec hp2 ?_
    intro m3 hch3 hp3
    refine ContSet.mk ?_
    have c5 := (c4.step hch2).step hch3
    refine out6 (S := psS l.tail) c5.at_ ?_
    exact k _ (.slice none 0 0) (c5.put _).ch (hp3.oth c5.ne hB4 _) ArgC.none
  | succ d ih =>
    intro hd B m r l R hp k
    refine eyotplay_Picks_Rx.ok _ _ _ _ ?_
    intro b4 hb4
    have c4 := Cl.mk0 (T := T_api_Rx) (c := zRx) hp.live hb4
    have hB4 : B b4 = none := hp.base.new hb4
    have hle0 : Le m (m.set b4 (.cells zRx T_api_Rx (0, 0))) := Le.set hb4 _
    have hp1 := hp.le hle0
    have hl40 : (m.set b4 (.cells zRx T_api_Rx (0, 0))) b4 ≠ none := by rw [set_same]; simp
    generalize m.set b4 (.cells zRx T_api_Rx (0, 0)) = m0 at c4 hp1 hle0 hl40 ⊢
    refine Num_spec (k := 9) hp1 (by decide) ?_
    intro m2 hch2 hp2
    dsimp only [Cont]
    refine UnI.mk ?_
    have c42 := c4.step hch2
    have hl42 : m2 b4 ≠ none := hch2.live _ hl40
    have hup2 : ∀ b, m b ≠ none → m2 b ≠ none := fun b hb => hch2.live b (hle0.live hb)
    refine BrDf (by omega) ?_
    have h9 := num_lt l (m := 9) (by decide)
    have hprx : prx (d + 1) l = (if num l 9 < 4 then (st (psS l.tail), psR l.tail)
      else if kindOf (num l 9) ≤ 3 then (.mk (kindOf (num l 9)) noS (kidsF (prx d) (kindOf (num l 9)) (2 + num l.tail 2) l.tail.tail).1, (kidsF (prx d) (kindOf (num l 9)) (2 + num l.tail 2) l.tail.tail).2)
      else (.mk (kindOf (num l 9)) noS (kidsF (prx d) (kindOf (num l 9)) 1 l.tail).1, (kidsF (prx d) (kindOf (num l 9)) 1 l.tail).2)) := rfl
    unfold eyotplay_Picks_Rx.k1
    refine BrD (fun hlt => ?_) (fun hge => ?_)
    · rw [hprx, if_pos (by omega)] at k
      refine Set_spec hp2 ?_
      intro m3 hch3 hp3
      refine ContSet.mk ?_
      have c5 := c42.step hch3
      refine out6 (S := psS l.tail) c5.at_ ?_
      exact k _ (.slice none 0 0) (c5.put _).ch (hp3.oth c5.ne hB4 _) ArgC.none
    rw [hprx, if_neg (by omega)] at k
    have hki : kindOf (num l 9) = 2 + (((num l 9 + 1) % 5 : Nat) : Int) := rfl
    have ekind : IntKind.i64.wrap (2 + (Int.tmod (IntKind.i64.wrap (((num l 9 : Nat) : Int) + 1)) 5)) = kindOf (num l 9) := by
      rw [wi (n := ((num l 9 : Nat) : Int) + 1) (by omega) (by omega)]
      have : Int.tmod (((num l 9 : Nat) : Int) + 1) 5 = (((num l 9 + 1) % 5 : Nat) : Int) := by
        rw [Int.tmod_eq_emod_of_nonneg (by omega)]; omega
      rw [this, hki, wi (by omega) (by omega)]
    rw [ekind]
    have hkin := kindOf_in (num l 9)
    generalize kindOf (num l 9) = kind at k hkin ⊢
    -- so many parts
    have parts : ∀ (n : Nat) (l0 : List UInt8) (m3 : Mem), n ≤ 3 → Chg (fun b => b = r) m2 m3 → Pk B m3 r l0 →
        (∀ m' v, Chg (fun b => b = r) m m' → Pk B m' r (kidsF (prx d) kind n l0).2 → ArgC (newB m m') (.mk kind noS (kidsF (prx d) kind n l0).1) v → R (.returned (rxA kind noS v)) m') →
        eyotplay_Picks_Rx.k2 (some ⟨r, 0, none⟩) ((d + 1 : Nat) : Int) b4 0 kind (n : Int) R m3 := by
      intro n l0 m3 hn hch3 hp3 hk
      unfold eyotplay_Picks_Rx.k2
      intro b8 hb8
      have c43 := c42.step hch3
      have hm8 : m b8 = none := c43.ch.new hb8
      have hB8 : B b8 = none := hp3.base.new hb8
      have h48 : b4 ≠ b8 := by rintro rfl; rw [c43.at_] at hb8; cases hb8
      have h8r : b8 ≠ r := by rintro rfl; exact hp3.live hb8
      have key := put6 (m := m3.set b8 (.cells zRx T_api_Rx (0, 0))) (b := b8) (k := kind) (S := noS) (a := none) (l := 0) (c := 0) (e := T_api_Rx) (K := fun m7 => eyotplay_Picks_Rx.l3 (some ⟨r, 0, none⟩) ((d + 1 : Nat) : Int) b4 0 kind (n : Int) b8 0 0 R m7) (set_same _ _ _) (by
        rw [set_set]
        have c44 : Cl T_api_Rx m (m3.set b8 (.cells (rxO kind noS (.slice none 0 0)) T_api_Rx (0, 0))) r b4 zRx := c43.le (Le.set hb8 _)
        have c84 : Cl T_api_Rx m (m3.set b8 (.cells (rxO kind noS (.slice none 0 0)) T_api_Rx (0, 0))) r b8 (rxO kind noS (.slice none 0 0)) := Cl.mkAt c43.ch hp.live hb8
        have hp4 := hp3.le (Le.set hb8 (.cells (rxO kind noS (.slice none 0 0)) T_api_Rx (0, 0)))
        have hl8 : (m3.set b8 (.cells (rxO kind noS (.slice none 0 0)) T_api_Rx (0, 0))) b8 ≠ none := by rw [set_same]; simp
        have hl4 : (m3.set b8 (.cells (rxO kind noS (.slice none 0 0)) T_api_Rx (0, 0))) b4 ≠ none := (Le.set hb8 _).live (hch3.live _ hl42)
        have hup : ∀ b, m b ≠ none → (m3.set b8 (.cells (rxO kind noS (.slice none 0 0)) T_api_Rx (0, 0))) b ≠ none := fun b hb => (Le.set hb8 _).live (hch3.live b (hup2 b hb))
        generalize m3.set b8 (.cells (rxO kind noS (.slice none 0 0)) T_api_Rx (0, 0)) = m1 at c44 c84 hp4 hl8 hl4 hup ⊢
        have hrl1 := hp4.live
        have hle1 := hp4.base
        refine ⟨fun N x0 x1 x4b x4o x6 x7 x8b x8o i mm => x0 = some ⟨r, 0, none⟩ ∧ x1 = ((d + 1 : Nat) : Int) ∧ x4b = b4 ∧ x4o = 0 ∧ x6 = kind ∧ x7 = (n : Int) ∧ x8b = b8 ∧ x8o = 0 ∧ ∃ (j : Nat) (a : Option Addr) (c : Nat) (prs : List (Rx × Value)) (l' : List UInt8), i = (j : Int) ∧ j ≤ n ∧ N = n - j ∧ prs.length = j ∧ Cl T_api_Rx m mm r b4 zRx ∧ Cl T_api_Rx m mm r b8 (rxO kind noS (.slice a prs.length c)) ∧ RL m1 mm a c prs ∧ Pk B mm r l' ∧ (∀ b, m1 b ≠ none → mm b ≠ none) ∧
            kidsF (prx d) kind n l0 = (prs.map (·.1) ++ (kidsF (prx d) kind (n - j) l').1, (kidsF (prx d) kind (n - j) l').2), n,
          ⟨rfl, rfl, rfl, rfl, rfl, rfl, rfl, rfl, 0, none, 0, [], l0, rfl, by omega, by omega, rfl, c44, c84, ⟨Own.nil _ _ _, Fresh.none _, fun p hp => by cases hp⟩, hp4, fun b hb => hb, by simp⟩, ?_⟩
        rintro N x0 x1 x4b x4o x6 x7 x8b x8o i mm ⟨g0, g1, g2, g3, g4, g5, g6, g7, j, a, c, prs, l', rfl, hj, rfl, hpj, cm4, cm8, hL, hpm, hupm, hkids⟩
        subst x0 x1 x4b x4o x6 x7 x8b x8o
        unfold eyotplay_Picks_Rx.l3B
        refine BrD (fun hlt => ?_) (fun hge => ?_)
        rotate_left
        · have hz : n - j = 0 := by omega
          rw [hz] at hkids
          have e0 : kidsF (prx d) kind 0 l' = ([], l') := rfl
          rw [e0, List.append_nil] at hkids
          refine get6 cm8.at_ ?_
          refine out6 (S := noS) cm4.at_ ?_
          have c5 := cm4.put (rxO kind noS (.slice a prs.length c))
          have hL5 := hL.up (Chg.set mm b4 (.cells (rxO kind noS (.slice a prs.length c)) T_api_Rx (0, 0))) (fun b e => by rw [show b = b4 from e]; exact hl4)
          rw [hkids] at hk
          exact hk _ (.slice a prs.length c) c5.ch (hpm.oth cm4.ne hB4 _) ((hL5.arg (Le.refl _) (by omega) kind noS).le (newB_up hup))
        have ed : IntKind.i64.wrap (((d + 1 : Nat) : Int) - 1) = (d : Int) := by rw [wi (by omega) (by omega)]; omega
        rw [ed]
        refine ih (by omega) hpm ?_
        intro m4 v hch4 hp5 hv
        obtain ⟨a', l'', c', rfl⟩ := hv.sl
        refine ContRx.mk ?_
        refine copyRx ?_
        intro b10 m8 hb10 hle8 h10
        have cm4' := (cm4.step hch4).le hle8
        have cm8' := (cm8.step hch4).le hle8
        have hL8 := (hL.up hch4 (fun b e => by rw [show b = r from e]; exact hrl1)).up (hle8.chg fun _ => False) (fun _ h => h.elim)
        have hp8 := hp5.le hle8
        have hup8 : ∀ b, m1 b ≠ none → m8 b ≠ none := fun b hb => hle8.live (hch4.live b (hupm b hb))
        have hin : ∀ {y : Rx} {w : Value} {m9 : Mem}, ArgC (newB mm m9) y w → ArgC (on m9 fun b => m1 b = none ∧ blk a ≠ some b) y w := fun h => hL.in_ hupm h
        have hx : ArgC (newB mm m8) (prx d l').1 (.slice a' l'' c') := hv.le (newB_le hle8)
        obtain ⟨q, hq⟩ : ∃ q, n - j = q + 1 := ⟨n - j - 1, by omega⟩
        have hq' : n - (j + 1) = q := by omega
        have hks : kidsF (prx d) kind (n - j) l' = ((kidF (prx d) kind l').1 :: (kidsF (prx d) kind q (kidF (prx d) kind l').2).1, (kidsF (prx d) kind q (kidF (prx d) kind l').2).2) := by rw [hq]; rfl
        rw [hks] at hkids
        -- this part, or a set in its place
        have k4 : ∀ z : Bool, (z = true ↔ ((prx d l').1.k = kind ∨ (4 ≤ kind ∧ 4 ≤ (prx d l').1.k))) → eyotplay_Picks_Rx.k4 (fun x0 x1 x4b x4o x6 x7 x8b x8o i mm => ∃ N1, N1 < n - j ∧ (x0 = some ⟨r, 0, none⟩ ∧ x1 = ((d + 1 : Nat) : Int) ∧ x4b = b4 ∧ x4o = 0 ∧ x6 = kind ∧ x7 = (n : Int) ∧ x8b = b8 ∧ x8o = 0 ∧ ∃ (j : Nat) (a : Option Addr) (c : Nat) (prs : List (Rx × Value)) (l' : List UInt8), i = (j : Int) ∧ j ≤ n ∧ N1 = n - j ∧ prs.length = j ∧ Cl T_api_Rx m mm r b4 zRx ∧ Cl T_api_Rx m mm r b8 (rxO kind noS (.slice a prs.length c)) ∧ RL m1 mm a c prs ∧ Pk B mm r l' ∧ (∀ b, m1 b ≠ none → mm b ≠ none) ∧
            kidsF (prx d) kind n l0 = (prs.map (·.1) ++ (kidsF (prx d) kind (n - j) l').1, (kidsF (prx d) kind (n - j) l').2))) (some ⟨r, 0, none⟩) ((d + 1 : Nat) : Int) b4 0 kind (n : Int) b8 0 (j : Int) b10 0 z R m8 := by
          intro z hz
          have goOn : ∀ {m9 : Mem} {y : Rx} {ay : Option Addr} {ly cy : Nat} {lr : List UInt8}, kidF (prx d) kind l' = (y, lr) → Cl T_api_Rx m m9 r b4 zRx → Cl T_api_Rx m m9 r b8 (rxO kind noS (.slice a prs.length c)) → RL m1 m9 a c prs → Pk B m9 r lr → (∀ b, m1 b ≠ none → m9 b ≠ none) → m9 b10 = some (.cells (rxO y.k y.S (.slice ay ly cy)) T_api_Rx (0, 0)) → ArgC (on m9 fun b => m1 b = none ∧ blk a ≠ some b) y (.slice ay ly cy) →
              eyotplay_Picks_Rx.k5 (fun x0 x1 x4b x4o x6 x7 x8b x8o i mm => ∃ N1, N1 < n - j ∧ (x0 = some ⟨r, 0, none⟩ ∧ x1 = ((d + 1 : Nat) : Int) ∧ x4b = b4 ∧ x4o = 0 ∧ x6 = kind ∧ x7 = (n : Int) ∧ x8b = b8 ∧ x8o = 0 ∧ ∃ (j : Nat) (a : Option Addr) (c : Nat) (prs : List (Rx × Value)) (l' : List UInt8), i = (j : Int) ∧ j ≤ n ∧ N1 = n - j ∧ prs.length = j ∧ Cl T_api_Rx m mm r b4 zRx ∧ Cl T_api_Rx m mm r b8 (rxO kind noS (.slice a prs.length c)) ∧ RL m1 mm a c prs ∧ Pk B mm r l' ∧ (∀ b, m1 b ≠ none → mm b ≠ none) ∧
                kidsF (prx d) kind n l0 = (prs.map (·.1) ++ (kidsF (prx d) kind (n - j) l').1, (kidsF (prx d) kind (n - j) l').2))) (some ⟨r, 0, none⟩) ((d + 1 : Nat) : Int) b4 0 kind (n : Int) b8 0 (j : Int) b10 0 R m9 := by
            intro m9 y ay ly cy lr hkf d4 d8 dL dp dup d10 dy
            refine k5_spec (m := m) (m1 := m1) hle1 hrl1 hl4 hl8 hup h48 hm8 d4 d8 dL dp dup d10 dy (by omega) (by omega) hB8 ?_
            intro m' a2 c2 e4 e8 eL ep eup
            refine ⟨n - (j + 1), by omega, rfl, rfl, rfl, rfl, rfl, rfl, rfl, rfl, j + 1, a2, c2, prs ++ [(y, .slice ay ly cy)], lr, rfl, by omega, rfl, by simp [hpj], e4, by rw [List.length_append]; exact e8, eL, ep, eup, ?_⟩
            rw [hq', hkids, hkf]
            simp
          unfold eyotplay_Picks_Rx.k4
          refine Br.mk (fun ht => ?_) (fun hf => ?_)
          · have hc := hz.mp ht
            have hkf : kidF (prx d) kind l' = (st (psS (prx d l').2), psR (prx d l').2) := by unfold kidF; rw [if_pos hc]
            refine Set_spec hp8 ?_
            intro m9 hch9 hp9
            refine ContSet.mk ?_
            have h10r : b10 ≠ r := by rintro rfl; exact hp5.live hb10
            have h109 := hch9.eq _ _ h10 h10r
            refine put6 (S := psS (prx d l').2) h109 ?_
            have hb10m1 : m1 b10 = none := by
              cases h : m1 b10 with
              | none => rfl
              | some o => exact absurd hb10 (hch4.live _ (hupm _ (by rw [h]; simp)))
            have hne4 : b4 ≠ b10 := by rintro rfl; exact hl4 hb10m1
            have hne8 : b8 ≠ b10 := by rintro rfl; exact hl8 hb10m1
            have hm10 : m b10 = none := by
              cases h : m b10 with
              | none => rfl
              | some o => exact absurd hb10m1 (hup _ (by rw [h]; simp))
            refine goOn hkf ((cm4'.step hch9).with hne4 _ hm10) ((cm8'.step hch9).with hne8 _ hm10) ?_ (hp9.oth h10r (hle1.new hb10m1) _) (fun b hb => (Chg.set m9 b10 _).live b (hch9.live b (hup8 b hb))) (set_same _ _ _) ArgC.none
            have hL9 := hL8.up hch9 (fun b e => by rw [show b = r from e]; exact hrl1)
            have hab : blk a ≠ some b10 := fun e => by
              have := (hL.up hch4 (fun b e => by rw [show b = r from e]; exact hrl1)).own.live b10 e
              exact this hb10
            have hchS := Chg.set m9 b10 (.cells (rxO 1 (psS (prx d l').2) (.slice none 0 0)) T_api_Rx (0, 0))
            refine ⟨hL9.own.chg hchS (fun b hb e => hab (by rw [hb]; rw [show b = b10 from e])), hL9.fr, fun p hpp => ?_⟩
            -- what the parts have lies elsewhere: it is older than b10
            have h0 := (hL.up hch4 (fun b e => by rw [show b = r from e]; exact hrl1)).ok p hpp
            refine h0.le ?_
            intro b o hb
            obtain ⟨g1, g2⟩ := on_live hb
            have hbne : b ≠ b10 := by rintro rfl; rw [hb10] at g2; cases g2
            have hbr : b ≠ r := fun e => hrl1 (e ▸ g1.1)
            rw [on_in (G := fun b => m1 b = none ∧ blk a ≠ some b) g1, set_other _ _ hbne]
            exact hch9.eq _ _ (hle8 _ _ g2) hbr
          · have hc : ¬ ((prx d l').1.k = kind ∨ (4 ≤ kind ∧ 4 ≤ (prx d l').1.k)) := by rw [← hz, hf]; decide
            have hkf : kidF (prx d) kind l' = ((prx d l').1, (prx d l').2) := by unfold kidF; rw [if_neg hc]
            exact goOn hkf cm4' cm8' hL8 hp8 hup8 h10 (hin hx)
        refine LdV.s0 h10 (UnI.mk ?_)
        refine BrE (fun e => ?_) (fun e => ?_)
        · exact k4 true (by simp [e])
        refine BrD (fun h4 => ?_) (fun h4 => ?_)
        · refine LdV.s0 h10 (UnI.mk ?_)
          refine k4 _ ?_
          simp only [ge_iff_le, decide_eq_true_eq]
          exact ⟨fun h => .inr ⟨by omega, h⟩, fun h => by rcases h with h | h; exact absurd h e; exact h.2⟩
        · refine k4 false ⟨fun h => (by cases h), fun h => ?_⟩
          rcases h with h | h
          · exact absurd h e
          · omega)
      rw [noS_L, noS_L, noS_L, noS_L] at key
      exact key
    refine BrD (fun h3 => ?_) (fun h3 => ?_)
    · rw [if_pos (by omega)] at k
      refine Num_spec (k := 2) hp2 (by decide) ?_
      intro m3 hch3 hp3
      dsimp only [Cont]
      refine UnI.mk ?_
      have h2 := num_lt l.tail (m := 2) (by decide)
      have e2 : IntKind.i64.wrap (2 + ((num l.tail 2 : Nat) : Int)) = ((2 + num l.tail 2 : Nat) : Int) := by rw [wi (by omega) (by omega)]; omega
      rw [e2]
      exact parts _ _ m3 (by omega) hch3 hp3 k
    · rw [if_neg (by omega)] at k
      exact parts 1 _ m2 (by omega) (Chg.refl _ _) hp2 k
end Go.E.Rg
set_option linter.unusedVariables false
set_option linter.unusedSimpArgs false
set_option maxRecDepth 20000
namespace Go.E.Rg
open Go.H Go.E
theorem kid_nodes {f : List UInt8 → Rx × List UInt8} {D : Nat} (hD : 1 ≤ D) (hf : ∀ l, nodes (f l).1 ≤ D) (kind : Int) (l : List UInt8) : nodes (kidF f kind l).1 ≤ D := by
  unfold kidF
  split
  · show nodes (st _) ≤ D
    unfold st
    rw [nodes_mk', nodesL_nil]; omega
  · exact hf l
theorem kids_nodes {f : List UInt8 → Rx × List UInt8} {D : Nat} (hD : 1 ≤ D) (hf : ∀ l, nodes (f l).1 ≤ D) (kind : Int) : ∀ (n : Nat) (l : List UInt8), nodesL (kidsF f kind n l).1 ≤ n * D
  | 0, l => by show nodesL [] ≤ _; rw [nodesL_nil]; omega
  | n + 1, l => by
    show nodesL ((kidF f kind l).1 :: _) ≤ _
    rw [nodesL_cons', Nat.add_mul, Nat.one_mul]
    have h1 := kid_nodes hD hf kind l
    have h2 := kids_nodes hD hf kind n (kidF f kind l).2
    omega
theorem prx_nodes : ∀ (d : Nat) (l : List UInt8), nodes (prx d l).1 ≤ 4 ^ d
  | 0, l => by
    show nodes (st _) ≤ _
    unfold st
    rw [nodes_mk', nodesL_nil]; simp
  | d + 1, l => by
    have hD : 1 ≤ 4 ^ d := Nat.pow_pos (by decide)
    have hs : ∀ S, nodes (st S) = 1 := fun S => by unfold st; rw [nodes_mk', nodesL_nil]
    unfold prx
    have h2 := num_lt l.tail (m := 2) (by decide)
    rw [Nat.pow_succ]
    split
    · show nodes (st _) ≤ _
      rw [hs]; omega
    split
    · show nodes (Rx.mk _ _ _) ≤ _
      rw [nodes_mk']
      have := kids_nodes hD (prx_nodes d) (kindOf (num l 9)) (2 + num l.tail 2) l.tail.tail
      have h3 : (2 + num l.tail 2) * 4 ^ d ≤ 3 * 4 ^ d := Nat.mul_le_mul_right _ (by omega)
      omega
    · show nodes (Rx.mk _ _ _) ≤ _
      rw [nodes_mk']
      have := kids_nodes hD (prx_nodes d) (kindOf (num l 9)) 1 l.tail
      omega
end Go.E.Rg
set_option linter.unusedVariables false
set_option linter.unusedSimpArgs false
set_option maxRecDepth 20000
namespace Go.E.Rg
open Go.H Go.E
attribute [local irreducible] BiN MkS ConvN LookN MapUpN CallV HC limb dbTab
/-- What Parse answers. -/
theorem ContPR.mk {k u0 u1 u2 u3 e : Int} {a : Option Addr} {l c : Nat} {K : Int → Int → Int → Int → Int → Option Addr → Nat → Nat → Int → Mem → Prop} {Pn : List PanicEntry → Mem → Prop} {m : Mem} (h : K k u0 u1 u2 u3 a l c e m) :
    Cont (fun v m => UnTup v fun us0 => UnCons us0 fun w us1 => UnAgg w fun l => UnCons l fun v l => UnI v .i64 fun x0 => UnCons l fun v l => UnI v .u64 fun x1 => UnCons l fun v l => UnI v .u64 fun x2 => UnCons l fun v l => UnI v .u64 fun x3 => UnCons l fun v l => UnI v .u64 fun x4 => UnCons l fun v l => UnS v fun xa xl xc => UnNil l (
      UnCons us1 fun w us2 => UnI w .i64 fun e => UnNil us2 (K x0 x1 x2 x3 x4 xa xl xc e m))) Pn
      (.returned (.tuple #[.agg #[.int .i64 k, .int .u64 u0, .int .u64 u1, .int .u64 u2, .int .u64 u3, .slice a l c], .int .i64 e])) m := h
/-- Parse told at once: what it answers, as an expression with a word why not. -/
def prs (l : List UInt8) : Rx × Int := match parse l with | .ok x => (x, 0) | .error e => (rx0, e)
theorem Made_spec {B m : Mem} {la : Option Addr} {cap : Nat} {ps : List UInt8} (hB : Le B m) (hc : CellsAt B la (u8s ps)) (hl : ps.length ≤ 1000000) {R : Ending → Mem → Prop} (h : ∀ m' r, Le m m' → m r = none → Pk B m' r ps → R (.returned (.pointer (some ⟨r, 0, none⟩))) m') :
    HC P eyotplay_Made.id #[.slice la ps.length cap] m R := by
  refine eyotplay_Made.ok _ _ _ _ _ ?_
  intro r hr
  refine h _ r (Le.set hr _) hr ⟨la, cap, ps, 0, set_same _ _ _, hc, le_wo (hB.trans (Le.set hr _)) (fun b e => by rw [show b = r from e]; exact hB.new hr), by omega, hl, by simp⟩
/-- An expression made of numbers. -/
theorem made_rx {B m : Mem} {la : Option Addr} {cap d : Nat} {ps : List UInt8} (hB : Le B m) (hc : CellsAt B la (u8s ps)) (hl : ps.length ≤ 1000000) (hd : d ≤ 1000) {R : Ending → Mem → Prop} {Pn : List PanicEntry → Mem → Prop}
    (h : ∀ m' a l c, Le m m' → ArgC m' (prx d ps).1 (.slice a l c) → R (.returned (rxA (prx d ps).1.k (prx d ps).1.S (.slice a l c))) m') :
    HC P eyotplay_Made.id #[.slice la ps.length cap] m (Cont (fun v m2 => UnP v fun x => HC P eyotplay_Picks_Rx.id #[.pointer x, .int .i64 (d : Int)] m2 R) Pn) := by
  refine Made_spec hB hc hl ?_
  intro m1 r hle1 hr hp
  dsimp only [Cont]
  refine UnP.mk ?_
  refine prx_spec d hd hp ?_
  intro m2 v hch hp2 hv
  obtain ⟨a, l, c, rfl⟩ := hv.sl
  exact h m2 a l c (hch.to_le hle1 (fun b e => by rw [show b = r from e]; exact hr)) (hv.le (on_le _ _))
/-- A result in a place of its own. -/
theorem own6 {m : Mem} {k : Int} {S : Nat → Bool} {a : Option Addr} {l c : Nat} {x0 x1 x2 x3 x4 x5 : Value} {K : Nat → Mem → Prop}
    (h : ∀ b m1, m b = none → Le m m1 → m1 b = some (.cells (rxO k S (.slice a l c)) T_api_Rx (0, 0)) → K b m1) :
    NewC m #[x0, x1, x2, x3, x4, x5] T_api_Rx fun b m1 => St1 m1 b 0 (.int .i64 k) fun m2 => St1 m2 b 1 (.int .u64 (L S 0)) fun m3 => St1 m3 b 2 (.int .u64 (L S 1)) fun m4 => St1 m4 b 3 (.int .u64 (L S 2)) fun m5 => St1 m5 b 4 (.int .u64 (L S 3)) fun m6 => St1 m6 b 5 (.slice a l c) fun m7 => K b m7 := copyRx h
end Go.E.Rg
set_option linter.unusedVariables false
set_option linter.unusedSimpArgs false
set_option maxRecDepth 20000
namespace Go.E.Pl
open Go.H Go.E Go.E.Rg
attribute [local irreducible] BiN MkS ConvN LookN MapUpN CallV HC limb dbTab
theorem plc_st (S : Nat → Bool) : plc (st S) = ⟨[S], [0], [0], [[]], false⟩ := by
  unfold plc st wk
  rw [if_pos rfl]
  rfl
theorem Of_rx0 {m : Mem} {R : Ending → Mem → Prop} (k : ∀ m' A, Le m m' → PlV m' (ofP rx0).1 A → R (.returned (.tuple #[.agg (lO A (ofP rx0).1), .int .i64 (ofP rx0).2])) m') :
    HC P place_Of.id #[.agg #[.int .i64 0, .int .u64 0, .int .u64 0, .int .u64 0, .int .u64 0, .slice none 0 0]] m R := by
  have := Of_spec (r := rx0) (m := m) (v := .slice none 0 0) ArgC.none (by decide +kernel) k
  have e : rxA rx0.k rx0.S (.slice none 0 0) = .agg #[.int .i64 0, .int .u64 0, .int .u64 0, .int .u64 0, .int .u64 0, .slice none 0 0] := by
    show rxA 0 noS (.slice none 0 0) = _
    unfold rxA
    rw [noS_L, noS_L, noS_L, noS_L]
  rw [e] at this
  exact this
theorem begun_spec {m : Mem} {R : Ending → Mem → Prop} (k : ∀ m', Le m m' → R (.returned (.bool true)) m') : HC P eyotlaw10_begun.id #[] m R := by
  refine eyotlaw10_begun.ok _ _ ?_
  intro b6 hb6
  have hle1 := Le.set hb6 (.cells #[.int .u8 0] T_uint8 (0, 0))
  have c6 : CellsAt (m.set b6 (.cells #[.int .u8 0] T_uint8 (0, 0))) (some ⟨b6, 0, none⟩) (u8s [0]) := cells_at (set_same _ _ _) rfl
  generalize m.set b6 (.cells #[.int .u8 0] T_uint8 (0, 0)) = m1 at hle1 c6 ⊢
  refine made_rx (ps := [0]) (d := 0) (Le.refl m1) c6 (by simp) (by decide) ?_
  intro m3 a l c hle3 hv
  have e : (prx 0 [0]).1 = st (psS []) := by unfold prx; rfl
  rw [e] at hv ⊢
  have hm : may (st (psS [])) = 0 := may_st (psS_some _)
  have hn : nodes (st (psS [])) = 1 := by unfold st; rw [nodes, nodesL]
  refine ContRx.mk ?_
  refine Of_spec hv (by rw [hn]; decide) ?_
  intro m4 A hle4 hp
  rw [ofP_ok hm, plc_st]
  refine ContPl.mk ?_
  refine own5 ?_
  intro b1 m10 hb1 hle10 h1
  have e2 : may rx0 = 2 := by decide +kernel
  refine Of_rx0 ?_
  intro m11 A2 hle11 _
  rw [ofP_no (by rw [e2]; decide), e2]
  refine ContPl.mk ?_
  refine own5 ?_
  intro b3 m17 hb3 hle17 h3
  have h17 := (hle11.trans hle17) _ _ h1
  refine BrEt rfl ?_
  refine LdV.s0 h17 (UnS.mk ?_)
  refine BrEt rfl ?_
  refine LdV.s1 h17 (UnS.mk ?_)
  refine BrEt rfl ?_
  refine LdV.s3 h17 (UnS.mk ?_)
  refine BrEt rfl ?_
  refine LdV.s4 h17 (UnB.mk ?_)
  refine Br.t rfl ?_
  exact k m17 ((((hle1.trans hle3).trans hle4).trans hle10).trans (hle11.trans hle17))
end Go.E.Pl
set_option linter.unusedVariables false
set_option linter.unusedSimpArgs false
set_option maxRecDepth 20000
namespace Go.E.Pl
open Go.H Go.E Go.E.Rg
attribute [local irreducible] BiN MkS ConvN LookN MapUpN CallV HC limb dbTab
def Fine (m : Mem) : Ending → Mem → Prop := fun e m' => e = .returned (.bool true) ∧ Le m m'
theorem four_len (S : Nat → Bool) : (four S).length = 4 := rfl
/-- A set is read from its row. -/
theorem IxS.set4 {m : Mem} {a : Option Addr} {l : List (Nat → Bool)} (hc : CellsAt m a (l.flatMap four)) {j : Nat} (hj : j < l.length) {i : Int} (hi : i = (j : Int)) {n : Nat} (hn : n = l.length) {K : Int → Int → Int → Int → Prop} (q : K (L l[j] 0) (L l[j] 1) (L l[j] 2) (L l[j] 3)) :
    IxS a n i 4 fun b o => LdV m b o fun v => UnI v .u64 fun x0 => LdV m b (o + 1) fun v => UnI v .u64 fun x1 => LdV m b (o + 2) fun v => UnI v .u64 fun x2 => LdV m b (o + 3) fun v => UnI v .u64 fun x3 => K x0 x1 x2 x3 := by
  subst hi hn
  have hg := List.getElem?_eq_getElem hj
  refine IxS.rows four_len (by decide) hc rfl (by omega) (by omega) ?_
  intro b o x hx hcell
  rw [Int.toNat_natCast, hg] at hx
  cases hx
  exact LdV.mk (hcell 0 _ rfl) (LdV.mk (hcell 1 _ rfl) (LdV.mk (hcell 2 _ rfl) (LdV.mk (hcell 3 _ rfl) q)))
theorem eq4_refl (a b c d : Int) : eqL [.int .u64 a, .int .u64 b, .int .u64 c, .int .u64 d] [.int .u64 a, .int .u64 b, .int .u64 c, .int .u64 d] = true := by simp [eqL, eqV]
/-- A list of numbers is read from its row. -/
theorem IxS.row {m : Mem} {a : Option Addr} {fv : List Value} {V : Mem} {fol : List (List Nat)} (hc : CellsAt m a fv) (hr : RowsOK V fol fv) {j : Nat} (hj : j < fol.length) {i : Int} (hi : i = (j : Int)) {n : Nat} (hn : n = fol.length) {K : Option Addr → Nat → Nat → Prop} (q : ∀ a' c', CellsAt V a' (ints (ns fol[j])) → K a' fol[j].length c') :
    IxS a n i 1 fun b o => LdV m b o fun v => UnS v fun xa xl xc => K xa xl xc := by
  subst hi hn
  obtain ⟨a', c', h1, h2⟩ := hr.2 j _ (List.getElem?_eq_getElem hj)
  refine IxS.ld hc (by rw [hr.1]) (by omega) (by omega) ?_
  intro v hv
  rw [Int.toNat_natCast, h1] at hv
  cases hv
  exact q a' c' h2
/-- A number is read. -/
theorem IxS.num {m : Mem} {a : Option Addr} {l : List Nat} (hc : CellsAt m a (ints (ns l))) {j : Nat} (hj : j < l.length) {i : Int} (hi : i = (j : Int)) {n : Nat} (hn : n = l.length) {K : Int → Prop} (q : K ((l[j] : Nat) : Int)) : IxS a n i 1 fun b o => LdV m b o fun v => UnI v .i64 K := by
  subst hi hn
  refine IxS.ints (xs := ns l) hc (ns_len _) (by omega) (by omega) ?_
  intro v hv
  have : (ns l)[j]? = some ((l[j] : Nat) : Int) := by unfold ns; rw [List.getElem?_map, List.getElem?_eq_getElem hj]; rfl
  rw [Int.toNat_natCast, this] at hv
  cases hv
  exact q
theorem PlOK.kfi {r : Rx} {p : Plc} (h : PlOK r p) : Ok (cnt r) p.fi := ⟨h.rfi, h.fi_lt⟩
theorem PlOK.kla {r : Rx} {p : Plc} (h : PlOK r p) : Ok (cnt r) p.la := ⟨h.rla, h.la_lt⟩
theorem PlOK.slen {r : Rx} {p : Plc} (h : PlOK r p) : p.sets.length = cnt r := by rw [h.sets]; rfl
end Go.E.Pl
set_option linter.unusedVariables false
set_option linter.unusedSimpArgs false
set_option maxRecDepth 20000
namespace Go.E.Pl
open Go.H Go.E Go.E.Rg
attribute [local irreducible] BiN MkS ConvN LookN MapUpN CallV HC limb dbTab
theorem ins_len {x : Nat} : ∀ {l : List Nat}, x ∉ l → (ins x l).length = l.length + 1 := by
  intro l
  induction l with
  | nil => intro _; rfl
  | cons y ys ih =>
    intro h
    rw [List.mem_cons, not_or] at h
    unfold ins
    split
    · rfl
    · rw [if_neg h.1, List.length_cons, ih h.2, List.length_cons]
theorem ns_snoc (l : List Nat) (x : Nat) : ints (ns (l ++ [x])) = ints (ns l) ++ [.int .i64 (x : Int)] := by rw [ns_append]; unfold ints; rw [List.map_append]; rfl
end Go.E.Pl
set_option linter.unusedVariables false
set_option linter.unusedSimpArgs false
set_option maxRecDepth 20000
namespace Go.E.Pl
open Go.H Go.E Go.E.Rg
attribute [local irreducible] BiN MkS ConvN LookN MapUpN CallV HC
theorem ins_at {x : Nat} : ∀ {out : List Nat} {k : Nat}, k ≤ out.length → (∀ y ∈ out.take k, y < x) → (∀ (h : k < out.length), x ≤ out[k]) → ins x out = (if h : k < out.length then (if out[k] = x then out else out.take k ++ [x] ++ out.drop k) else out ++ [x]) := by
  intro out
  induction out with
  | nil => intro k _ _ _; simp [ins]
  | cons y ys ih =>
    intro k hk h1 h2
    cases k with
    | zero =>
      have := h2 (by simp)
      simp only [List.getElem_cons_zero] at this
      unfold ins
      simp only [List.length_cons, Nat.zero_lt_succ, dite_true, List.getElem_cons_zero, List.take_zero, List.nil_append, List.drop_zero]
      by_cases e : y = x
      · subst e; rw [if_neg (by omega), if_pos rfl, if_pos rfl]
      · rw [if_pos (by omega), if_neg e]; rfl
    | succ k =>
      have hy : y < x := h1 y (by simp)
      unfold ins
      rw [if_neg (by omega), if_neg (by omega)]
      have hk' : k ≤ ys.length := by simpa using hk
      rw [ih (k := k) hk' (fun z hz => h1 z (by simp [hz])) (fun h => by have := h2 (by simp; omega); simpa using this)]
      by_cases e : k < ys.length
      · have e2 : k + 1 < (y :: ys).length := by simp; omega
        rw [dif_pos e, dif_pos e2]
        simp only [List.getElem_cons_succ, List.take_succ_cons, List.drop_succ_cons]
        split <;> rfl
      · have e2 : ¬ k + 1 < (y :: ys).length := by simp; omega
        rw [dif_neg e, dif_neg e2]; rfl
theorem SlS.at_ {a : Option Addr} {c lo hi : Nat} {K : Option Addr → Nat → Nat → Prop} (h1 : lo ≤ hi) (h2 : hi ≤ c) (q : K (shf a lo 1 c) (hi - lo) (c - lo)) : SlS a c (lo : Int) (hi : Int) 1 K := by
  refine ⟨by omega, by omega, by omega, ?_⟩
  rw [Int.toNat_natCast, Int.toNat_natCast]; exact q
theorem ins_tail {m M : Mem} (hle : Le m M) {a1 : Option Addr} {c1 k x : Nat} {out : List Nat} (hk : k ≤ out.length) (hol : out.length ≤ 1000000) (ho1 : Own M T_int 1 a1 (out.take k).length c1 (ints (ns (out.take k)))) (hf1 : Fresh m a1) {b53 : Nat} {t : TypeId} {fr : Nat × Nat} (hbx : M b53 = some (.cells #[.int .i64 (x : Int)] t fr)) {oa' : Option Addr} {oc' : Nat} (hd : CellsAt m oa' (ints (ns (out.drop k))))
    {ty ty' : TypeId} {cs cs' : Array Bool} {K : Value → Mem → Prop} {Pn : List PanicEntry → Mem → Prop} (h : ∀ a c m', Le m m' → Own m' T_int 1 a (out.take k ++ [x] ++ out.drop k).length c (ints (ns (out.take k ++ [x] ++ out.drop k))) → Fresh m a → K (.slice a (out.take k ++ [x] ++ out.drop k).length c) m') :
    BiN P .append #[T_sl_int, T_sl_int] ty cs #[.slice a1 (out.take k).length c1, .slice (some ⟨b53, 0, none⟩) 1 1] M (fun w m7 => UnS w fun xa xl xc => BiN P .append #[T_sl_int, T_sl_int] ty' cs' #[.slice xa xl xc, .slice oa' (out.drop k).length oc'] m7 K Pn) Pn := by
  have t1 : (out.take k).length ≤ out.length := by rw [List.length_take]; omega
  have t2 : (out.drop k).length ≤ out.length := by rw [List.length_drop]; omega
  refine append_own eInt ho1 (news := [.int .i64 (x : Int)]) (cells_at hbx rfl) rfl (by intro v hv; simp at hv; subst hv; rfl) (by decide) (by omega) (by omega) ?_
  intro a2 c2 m7 ho2 hg
  obtain ⟨hle7, hf7⟩ := grown_le hle hf1 hg
  refine UnS.mk ?_
  have e1 : (out.take k).length + 1 = (out.take k ++ [x]).length := by simp
  rw [e1, ← ns_snoc] at ho2
  rw [e1]
  refine append_own eInt ho2 (hd.le hle7) (by rw [nints_len]; omega) (nints_one _) (by decide) (by rw [← e1]; omega) (by rw [← e1]; omega) ?_
  intro a3 c3 m8 ho3 hg3
  obtain ⟨hle8, hf8⟩ := grown_le hle7 hf7 hg3
  have e2 : (out.take k ++ [x]).length + (out.drop k).length = (out.take k ++ [x] ++ out.drop k).length := List.length_append.symm
  rw [e2, ← nints_append] at ho3
  rw [e2]
  exact h a3 c3 m8 hle8 ho3 hf8
theorem set_swap {m : Mem} {b b' : Nat} {o o' : Obj} (h : b ≠ b') : (m.set b o).set b' o' = (m.set b' o').set b o := by
  funext k
  unfold Mem.set
  by_cases e : k = b
  · have e' : ¬ k = b' := fun e2 => h (e.symm.trans e2)
    simp [e, e', h]
  · by_cases e' : k = b'
    · simp [e', Ne.symm h]
    · simp [e, e']
/-- rise -/
theorem rise_spec {m : Mem} {a : Option Addr} {c : Nat} {l : List Nat} (hc : CellsAt m a (ints (ns l))) (hl : l.length ≤ 900000) {R : Ending → Mem → Prop} (k : ∀ m' a' c', Le m m' → CellsAt m' a' (ints (ns (rise l))) → Fresh m a' → R (.returned (.slice a' (rise l).length c')) m') : HC P eyotref8_rise.id #[.slice a l.length c] m R := by
  refine eyotref8_rise.ok _ _ _ _ _ ?_
  refine ⟨fun N xa xl xc oa ol oc i mm => xa = a ∧ xl = l.length ∧ ∃ (j : Nat) (out : List Nat), i = (j : Int) ∧ j ≤ l.length ∧ N = l.length - j ∧ Le m mm ∧ ol = out.length ∧ Own mm T_int 1 oa out.length oc (ints (ns out)) ∧ Fresh m oa ∧ Rz out ∧ (∀ x, x ∈ out ↔ x ∈ l.take j) ∧ out.length ≤ j, l.length,
    ⟨rfl, rfl, 0, [], rfl, by omega, by omega, Le.refl _, rfl, Own.nil _ _ _, Fresh.none _, rz_nil, by simp, by simp⟩, ?_⟩
  rintro N xa xl xc oa ol oc i mm ⟨rfl, rfl, j, out, rfl, hj, rfl, hlm, rfl, hown, hfr, hrz, hmem, hol⟩
  unfold eyotref8_rise.l1B
  refine BrD (fun hlt => ?_) (fun hge => ?_)
  rotate_left
  · have e : l.take j = l := List.take_of_length_le (by omega)
    rw [e] at hmem
    have : out = rise l := rz_eq hrz (rise_rz l) (fun x => by rw [hmem, rise_mem])
    subst this
    exact k mm oa oc hlm hown.cells hfr
  have hjl : j < l.length := by omega
  have htk : l.take (j + 1) = l.take j ++ [l[j]] := by rw [List.take_add_one, List.getElem?_eq_getElem hjl]; rfl
  -- the next round
  have next : ∀ {m' : Mem} {oa' : Option Addr} {oc' : Nat} {out' : List Nat}, Le m m' → Own m' T_int 1 oa' out'.length oc' (ints (ns out')) → Fresh m oa' → out' = ins l[j] out → ∃ N1, N1 < l.length - j ∧ (xa = xa ∧ l.length = l.length ∧ ∃ (j' : Nat) (out : List Nat), IntKind.i64.wrap ((j : Int) + 1) = (j' : Int) ∧ j' ≤ l.length ∧ N1 = l.length - j' ∧ Le m m' ∧ out'.length = out.length ∧ Own m' T_int 1 oa' out.length oc' (ints (ns out)) ∧ Fresh m oa' ∧ Rz out ∧ (∀ x, x ∈ out ↔ x ∈ l.take j') ∧ out.length ≤ j') := by
    rintro m' oa' oc' out' h1 h2 h3 rfl
    have hlen : (ins l[j] out).length ≤ j + 1 := by
      by_cases e : l[j] ∈ out
      · have : ins l[j] out = out := rz_eq (ins_rz hrz) hrz (fun x => by rw [ins_mem]; exact ⟨fun h => by rcases h with rfl | h; exact e; exact h, fun h => .inr h⟩)
        rw [this]; omega
      · rw [ins_len e]; omega
    refine ⟨l.length - (j + 1), by omega, rfl, rfl, j + 1, _, ?_, by omega, rfl, h1, rfl, h2, h3, ins_rz hrz, fun x => ?_, hlen⟩
    · rw [wi (by omega) (by omega)]; omega
    · rw [ins_mem, hmem, htk, List.mem_append, List.mem_singleton, or_comm]
  have ldl : ∀ {r : Mem} {K : Int → Prop}, Le mm r → K ((l[j] : Nat) : Int) → IxS xa l.length (j : Int) 1 fun b o => LdV r b o fun v => UnI v .i64 fun x => K x := fun h1 h2 => IxS.num ((hc.le hlm).le h1) hjl rfl rfl h2
  refine ⟨fun N xa' xl' xc' oa' ol' oc' i t mm' => xa' = xa ∧ xl' = l.length ∧ oa' = oa ∧ ol' = out.length ∧ oc' = oc ∧ i = (j : Int) ∧ mm' = mm ∧ ∃ y : Nat, t = (y : Int) ∧ y ≤ out.length ∧ N = out.length - y ∧ (∀ z ∈ out.take y, z < l[j]), out.length,
    ⟨rfl, rfl, rfl, rfl, rfl, rfl, rfl, 0, rfl, by omega, by omega, by simp⟩, ?_⟩
  rintro N xa' xl' xc' oa' ol' oc' i t mm' ⟨rfl, rfl, rfl, rfl, rfl, rfl, rfl, y, rfl, hy, rfl, hlow⟩
  unfold eyotref8_rise.l2B
  -- the insertion
  have k4 : ∀ (z : Bool), (∀ (h : y < out.length), l[j] ≤ out[y]) → (z = true ↔ (y = out.length ∨ ∃ h : y < out.length, out[y] ≠ l[j])) → ∀ {K1 : Option Addr → Nat → Nat → Option Addr → Nat → Nat → Int → Mem → Prop}, (∀ {m' : Mem} {oa2 : Option Addr} {oc2 : Nat} {out' : List Nat}, Le m m' → Own m' T_int 1 oa2 out'.length oc2 (ints (ns out')) → Fresh m oa2 → out' = ins l[j] out → K1 xa' l.length xc' oa2 out'.length oc2 (IntKind.i64.wrap ((j : Int) + 1)) m') → eyotref8_rise.k4 K1 xa' l.length xc' oa' out.length oc' (j : Int) (y : Int) z R mm' := by
    intro z hge hz K1 hK
    have hins := ins_at (x := l[j]) hy hlow hge
    unfold eyotref8_rise.k4
    refine Br.mk (fun e => ?_) (fun e => ?_)
    rotate_left
    · refine hK hlm hown hfr ?_
      have hn : ¬ (y = out.length ∨ ∃ h : y < out.length, out[y] ≠ l[j]) := fun h => by rw [hz.mpr h] at e; cases e
      have hyl : y < out.length := by
        rcases Nat.lt_or_ge y out.length with h | h
        · exact h
        · exact absurd (.inl (by omega)) hn
      rw [hins, dif_pos hyl, if_pos (Decidable.not_not.mp (fun h => hn (.inr ⟨hyl, h⟩)))]
    have hres : out.take y ++ [l[j]] ++ out.drop y = ins l[j] out := by
      rw [hins]
      rcases hz.mp e with h | ⟨h1, h2⟩
      · rw [dif_neg (by omega), List.take_of_length_le (by omega), List.drop_eq_nil_of_le (by omega), List.append_nil]
      · rw [dif_pos h1, if_neg h2]
    have hcap := hown.cap
    refine Sub.all ?_
    have hc0 : CellsAt mm' (shf oa' 0 1 oc') (ints (ns (out.take y))) := by
      have := CellsAt.sub (lo := 0) (hi := y) (sz := 1) hown.cells (by rw [nints_len]; omega) (c := oc') (by omega)
      rw [Nat.mul_one, Nat.mul_one, List.drop_zero] at this
      have e2 : (ints (ns out)).take y = ints (ns (out.take y)) := by unfold ints ns; rw [List.map_take, List.map_take]
      rw [e2] at this; exact this
    have hc1 : CellsAt mm' (shf oa' y 1 oc') (ints (ns (out.drop y))) := by
      have := CellsAt.sub (lo := y) (hi := out.length) (sz := 1) hown.cells (by rw [nints_len]; omega) (c := oc') (by omega)
      rw [Nat.mul_one, Nat.mul_one, List.take_of_length_le (by rw [nints_len]; omega)] at this
      have e2 : (ints (ns out)).drop y = ints (ns (out.drop y)) := by unfold ints ns; rw [List.map_drop, List.map_drop]
      rw [e2] at this; exact this
    refine SlS.at_ (lo := 0) (hi := y) (by omega) (by omega) ?_
    refine ldl (Le.refl _) ?_
    refine SlS.at_ (lo := y) (hi := out.length) (by omega) (by omega) ?_
    have et : y - 0 = (out.take y).length := by rw [List.length_take]; omega
    have ed : out.length - y = (out.drop y).length := by rw [List.length_drop]
    rw [et, ed]
    have tl : (out.take y).length ≤ 900000 := by rw [← et]; omega
    have fin : ∀ {a : Option Addr} {c : Nat} {m' : Mem}, Le mm' m' → Own m' T_int 1 a (out.take y ++ [l[j]] ++ out.drop y).length c (ints (ns (out.take y ++ [l[j]] ++ out.drop y))) → Fresh mm' a → UnS (.slice a (out.take y ++ [l[j]] ++ out.drop y).length c) fun xa xl xc => K1 xa' l.length xc' xa xl xc (IntKind.i64.wrap ((j : Int) + 1)) m' := fun h1 h2 h3 => UnS.mk (hK (hlm.trans h1) h2 (Fresh.le hlm h3) hres)
    refine ⟨?_, ?_⟩
    · intro b44 hb44
      refine lk_same (Le.set hb44 _) ?_
      refine ⟨?_, ?_⟩
      · refine clone_gen eInt (by decide) hc0 (by rw [nints_len]; omega) (nints_one _) (by omega) (by omega) ?_ b44 hb44
        intro a1 c1 m4 hle4 ho4 hf4
        refine UnS.mk ?_
        refine lk_same hle4 ?_
        intro b53 hb53
        refine ins_tail (hle4.trans (Le.set hb53 _)) hy (by omega) (Own.le (Le.set hb53 _) ho4) hf4 (set_same _ _ _) hc1 ?_
        intro a3 c3 m8 h1 h2 h3
        exact fin h1 h2 h3
      · intro b53 hb53
        have hne : b44 ≠ b53 := by rintro rfl; rw [set_same] at hb53; cases hb53
        have w53 : mm' b53 = none := by rw [set_other _ _ (Ne.symm hne)] at hb53; exact hb53
        rw [set_swap hne]
        have hlb := Le.set w53 (.cells #[.int .i64 ((l[j] : Nat) : Int)] T_int (0, 0))
        refine clone_gen eInt (by decide) (hc0.le hlb) (by rw [nints_len]; omega) (nints_one _) (by omega) (by omega) ?_ b44 (by rw [set_other _ _ hne]; exact hb44)
        intro a1 c1 m5 hle5 ho5 hf5
        refine UnS.mk ?_
        refine ins_tail (hlb.trans hle5) hy (by omega) ho5 (Fresh.le hlb hf5) (hle5 _ _ (set_same _ _ _)) hc1 ?_
        intro a3 c3 m8 h1 h2 h3
        exact fin h1 h2 h3
    · intro b53 hb53
      have hlb := Le.set hb53 (.cells #[.int .i64 ((l[j] : Nat) : Int)] T_int (0, 0))
      intro b44 hb44
      refine clone_gen eInt (by decide) (hc0.le hlb) (by rw [nints_len]; omega) (nints_one _) (by omega) (by omega) ?_ b44 hb44
      intro a1 c1 m5 hle5 ho5 hf5
      refine UnS.mk ?_
      refine ins_tail (hlb.trans hle5) hy (by omega) ho5 (Fresh.le hlb hf5) (hle5 _ _ (set_same _ _ _)) hc1 ?_
      intro a3 c3 m8 h1 h2 h3
      exact fin h1 h2 h3
  have k3 : (∀ (h : y < out.length), l[j] ≤ out[y]) → ∀ {K1 : Option Addr → Nat → Nat → Option Addr → Nat → Nat → Int → Mem → Prop}, (∀ {m' : Mem} {oa2 : Option Addr} {oc2 : Nat} {out' : List Nat}, Le m m' → Own m' T_int 1 oa2 out'.length oc2 (ints (ns out')) → Fresh m oa2 → out' = ins l[j] out → K1 xa' l.length xc' oa2 out'.length oc2 (IntKind.i64.wrap ((j : Int) + 1)) m') → eyotref8_rise.k3 K1 xa' l.length xc' oa' out.length oc' (j : Int) (y : Int) R mm' := by
    intro hge K1 hK
    unfold eyotref8_rise.k3
    refine Sub.all ?_
    refine BrE (fun e => ?_) (fun e => ?_)
    · exact k4 true hge ⟨fun _ => .inl (by omega), fun _ => rfl⟩ hK
    · have hyl : y < out.length := by omega
      refine IxS.num hown.cells hyl rfl rfl ?_
      refine ldl (Le.refl _) ?_
      refine k4 _ hge ?_ hK
      rw [bne_iff_ne]
      constructor
      · intro h; exact .inr ⟨hyl, fun h2 => h (by rw [h2])⟩
      · rintro (h | ⟨_, h⟩)
        · omega
        · omega
  refine Sub.all ?_
  refine BrD (fun h1 => ?_) (fun h1 => ?_)
  · have hyl : y < out.length := by omega
    refine IxS.num hown.cells hyl rfl rfl ?_
    refine ldl (Le.refl _) ?_
    refine BrD (fun h2 => ?_) (fun h2 => ?_)
    · refine ⟨out.length - (y + 1), by omega, rfl, rfl, rfl, rfl, rfl, rfl, rfl, y + 1, ?_, by omega, rfl, fun z hz => ?_⟩
      · rw [wi (by omega) (by omega)]; omega
      · rw [List.take_add_one, List.getElem?_eq_getElem hyl] at hz
        rcases List.mem_append.mp hz with h | h
        · exact hlow z h
        · have : z = out[y] := by simpa using h
          omega
    · exact k3 (fun _ => by omega) (fun g1 g2 g3 g4 => next g1 g2 g3 g4)
  · exact k3 (fun h => by omega) (fun g1 g2 g3 g4 => next g1 g2 g3 g4)
end Go.E.Pl
set_option linter.unusedVariables false
set_option linter.unusedSimpArgs false
set_option maxRecDepth 20000
namespace Go.E.Pl
open Go.H Go.E Go.E.Rg
attribute [local irreducible] BiN MkS ConvN LookN MapUpN CallV HC nodes nodesL cntL
/-- The reference's answer under way. -/
theorem rof_l2 {m V m1 V1 : Mem} {pb b2 b7 : Nat} {st : Sta} {sa : Option Addr} {sc : Nat} {fa : Option Addr} {fc : Nat} {fv : List Value} {fi la : List Nat} {nu : Bool} {ia : Option Addr} {ic : Nat} {ja : Option Addr} {jc : Nat} {F0 : Nat → Prop} {R : Ending → Mem → Prop}
    (p1 : PSt T_eyotref8_Places m1 V1 pb st sa sc fa fc fv) (hle : Le m V1) (n2 : m b2 = none) (n7 : m b7 = none) (ne : b7 ≠ b2) (l2 : Loc (Ft pb sa fa) m1 V1 b2 (.cells zR T_eyotref8_Places (0, 0)))
    (l7 : Loc (Ft pb sa fa) m1 V1 b7 (.cells #[.slice sa st.sets.length sc, .slice ia fi.length ic, .slice ja la.length jc, .slice none 0 0, .bool nu] T_eyotref8_Places (0, 0)))
    (ci : CellsAt V1 ia (ints (ns fi))) (cj : CellsAt V1 ja (ints (ns la))) (hlb : Lb 900000 st.fol) (hn : st.fol.length ≤ 100)
    (k : ∀ m' A, Le m m' → PlV m' ⟨st.sets, fi, la, st.fol.map rise, nu⟩ A → R (.returned (.tuple #[.agg (lO A ⟨st.sets, fi, la, st.fol.map rise, nu⟩), .int .i64 0])) m') :
    eyotref8_PlacesOf.l2 b2 0 pb 0 b7 0 0 R m1 := by
  refine ⟨fun N x o p o' y o'' i mm => x = b2 ∧ o = 0 ∧ p = pb ∧ o' = 0 ∧ y = b7 ∧ o'' = 0 ∧ ∃ (j : Nat) (Vm : Mem) (xa : Option Addr) (xc : Nat) (xv : List Value), i = (j : Int) ∧ j ≤ st.fol.length ∧ N = st.fol.length - j ∧
      PSt T_eyotref8_Places mm Vm pb st sa sc fa fc fv ∧ Le V1 Vm ∧ Loc (Ft pb sa fa) mm Vm b2 (.cells zR T_eyotref8_Places (0, 0)) ∧ Loc (Ft pb sa fa) mm Vm b7 (.cells #[.slice sa st.sets.length sc, .slice ia fi.length ic, .slice ja la.length jc, .slice xa j xc, .bool nu] T_eyotref8_Places (0, 0)) ∧
      Own mm T_sl_int 1 xa j xc xv ∧ (∀ b, blk xa = some b → Vm b = none ∧ ¬ Ft pb sa fa b ∧ b ≠ b2 ∧ b ≠ b7) ∧ RowsOK Vm ((st.fol.take j).map rise) xv, st.fol.length,
    ⟨rfl, rfl, rfl, rfl, rfl, rfl, 0, V1, none, 0, [], rfl, by omega, by omega, p1, Le.refl _, l2, l7, Own.nil _ _ _, fun b e => (by cases e), rfl, fun i l h => (by simp at h)⟩, ?_⟩
  rintro N x o p o' y o'' i mm ⟨rfl, rfl, rfl, rfl, rfl, rfl, j, Vm, xa, xc, xv, rfl, hj, rfl, hp, hV, q2, q7, hx, hxa, hrow⟩
  unfold eyotref8_PlacesOf.l2B
  refine LdV.s3 hp.obj (UnS.mk ?_)
  refine BrD (fun hlt => ?_) (fun hge => ?_)
  · have hjl : j < st.fol.length := by omega
    refine Sub.all ?_
    refine LdV.s3 q7.at_ (UnS.mk ?_)
    refine LdV.s3 hp.obj (UnS.mk ?_)
    refine IxS.row hp.of.cells hp.rows hjl rfl rfl ?_
    intro ra rc hrc
    have hrl := hlb _ (List.getElem_mem hjl)
    refine rise_spec (hrc.le hp.le) hrl ?_
    intro m2 a' c' hle2 hc2 hf2
    dsimp only [Cont]
    refine UnS.mk ?_
    refine lk_same hle2 ?_
    obtain ⟨hp2, g2⟩ := hp.see hle2
    have q22 := q2.go g2
    have q72 := q7.go g2
    have hs := CellsAt.see (V := Vm) hc2 hf2
    have hx2 := Own.le hle2 hx
    have hxa2 : ∀ b, blk xa = some b → see mm m2 Vm b = none ∧ ¬ Ft p sa fa b ∧ b ≠ x ∧ b ≠ y := fun b e => by
      obtain ⟨h1, h2, h3, h4⟩ := hxa b e
      exact ⟨g2.hid b (hx.live b e) h1, h2, h3, h4⟩
    intro b59 hb59
    have hle4 := Le.set hb59 (.cells #[.slice a' (rise st.fol[j]).length c'] T_sl_int (0, 0))
    refine lk_same (hle2.trans hle4) ?_
    obtain ⟨hp4, g4⟩ := hp2.new hle4
    have q24 := q22.go g4
    have q74 := q72.go g4
    refine append_own eSI (Own.le hle4 hx2) (news := [.slice a' (rise st.fol[j]).length c']) (cells_at (set_same _ _ _) rfl) rfl (by intro v hv; simp at hv; subst hv; rfl) (by decide) (by omega) (by omega) ?_
    intro xa' xc' m6 ho6 hg6
    refine UnS.mk ?_
    have hp6 := hp4.chg hg6.1 (fun b e => (hxa2 b e).1) (fun b e => (hxa2 b e).2.1)
    have q26 := q24.chg hg6.1 (fun e => (hxa2 _ e).2.2.1 rfl)
    have q76 := q74.chg hg6.1 (fun e => (hxa2 _ e).2.2.2 rfl)
    refine St1.to #[.slice sa st.sets.length sc, .slice ia fi.length ic, .slice ja la.length jc, .slice xa' (j + 1) xc', .bool nu] q76.at_ (by simp) rfl (by simp) ?_
    have hxa6 : ∀ b, blk xa' = some b → see mm m2 Vm b = none ∧ ¬ Ft p sa fa b ∧ b ≠ x ∧ b ≠ y := fun b e => by
      rcases hg6.2 with e2 | e2
      · rw [e2] at e; exact hxa2 b e
      · have hb := e2 b e
        refine ⟨?_, fun e3 => hp4.live e3 hb, ?_, ?_⟩
        · cases e3 : see mm m2 Vm b with
          | none => rfl
          | some o => have := hp4.le b o e3; rw [hb] at this; cases this
        · rintro rfl; rw [q24.at_] at hb; cases hb
        · rintro rfl; rw [q74.at_] at hb; cases hb
    have hcs := Chg.set m6 y (.cells #[.slice sa st.sets.length sc, .slice ia fi.length ic, .slice ja la.length jc, .slice xa' (j + 1) xc', .bool nu] T_eyotref8_Places (0, 0))
    refine ⟨st.fol.length - (j + 1), by omega, rfl, rfl, rfl, rfl, rfl, rfl, j + 1, _, xa', xc', _, ?_, by omega, rfl, hp6.put q76 _, hV.trans g2.le, q26.other ne, q76.put _, ho6.chg hcs (fun b e e2 => (hxa6 b e).2.2.2 e2), hxa6, ?_⟩
    · rw [wi (by omega) (by omega)]; omega
    · have hr2 := hrow.le g2.le
      refine ⟨by rw [List.length_append, hr2.1, List.length_map, List.length_map, List.length_take, List.length_take]; simp; omega, fun t l ht => ?_⟩
      rw [List.take_add_one, List.getElem?_eq_getElem hjl, List.map_append] at ht
      have hml : ((st.fol.take j).map rise).length = j := by rw [List.length_map, List.length_take]; omega
      by_cases e : t < j
      · rw [List.getElem?_append_left (by omega)] at ht
        obtain ⟨a1, c1, h1, h2⟩ := hr2.2 t l ht
        exact ⟨a1, c1, by rw [List.getElem?_append_left (by rw [hr2.1]; omega)]; exact h1, h2⟩
      · rw [List.getElem?_append_right (by omega), hml] at ht
        have e0 : t - j = 0 := by
          cases e3 : t - j with
          | zero => rfl
          | succ z => rw [e3] at ht; simp at ht
        rw [e0] at ht
        have : l = rise st.fol[j] := by simpa using ht.symm
        subst this
        refine ⟨a', c', ?_, hs⟩
        rw [List.getElem?_append_right (by rw [hr2.1]; omega), hr2.1, hml, e0]; rfl
  · have e : st.fol.take j = st.fol := List.take_of_length_le (by omega)
    have ej : j = st.fol.length := by omega
    rw [e] at hrow
    subst ej
    have em : (st.fol.map rise).length = st.fol.length := List.length_map _
    have h7 : mm y = some (.cells (lO ⟨sa, sc, ia, ic, ja, jc, xa, xc⟩ ⟨st.sets, fi, la, st.fol.map rise, nu⟩) T_eyotref8_Places (0, 0)) := by
      have := q7.at_
      rw [← em] at this
      exact this
    refine get5 (A := ⟨sa, sc, ia, ic, ja, jc, xa, xc⟩) (p := ⟨st.sets, fi, la, st.fol.map rise, nu⟩) h7 ?_
    refine put5 q2.at_ rfl rfl rfl rfl rfl ?_
    refine get5 (A := ⟨sa, sc, ia, ic, ja, jc, xa, xc⟩) (p := ⟨st.sets, fi, la, st.fol.map rise, nu⟩) (set_same _ _ _) ?_
    have hcs := Chg.set mm x (.cells (lO ⟨sa, sc, ia, ic, ja, jc, xa, xc⟩ ⟨st.sets, fi, la, st.fol.map rise, nu⟩) T_eyotref8_Places (0, 0))
    have hVf : Le Vm (mm.set x (.cells (lO ⟨sa, sc, ia, ic, ja, jc, xa, xc⟩ ⟨st.sets, fi, la, st.fol.map rise, nu⟩) T_eyotref8_Places (0, 0))) := fun b o hb => by
      rw [set_other _ _ (fun e => by rw [e, q2.hid] at hb; cases hb)]
      exact hp.le b o hb
    refine k _ ⟨sa, sc, ia, ic, ja, jc, xa, xc⟩ ((hle.trans hV).trans hVf) ⟨(hp.os.chg hcs (fun b e e2 => q2.out (by rw [← show b = x from e2]; exact .inr (.inl e)))).cells, (ci.le hV).le hVf, (cj.le hV).le hVf, xv, ?_, hrow.le hVf⟩
    exact (hx.chg hcs (fun b e e2 => (hxa b e).2.2.1 e2)).cells
end Go.E.Pl
set_option linter.unusedVariables false
set_option maxRecDepth 100000
namespace Go.E
open Go.H
noncomputable section
/-! ### eyot/eyotlaw10.PlaceAll -/
namespace eyotlaw10_PlaceAll
noncomputable def fn : Func := Go.Proofs.Try.f3
noncomputable def body : Code := fn.body.getD .skip
def od : Nat → Ord := fun | 13 => ordL [(0, 3), (1, 1), (2, 3), (3, 3), (4, 1), (5, 3), (6, 1), (7, 3), (8, 3), (9, 0), (10, 3), (11, 3), (12, 3), (13, 1), (14, 3), (15, 3), (16, 1), (17, 3), (18, 1), (19, 3), (20, 3), (21, 0), (22, 2), (23, 3), (24, 3)] .done | _ => .done
def tb : Nat → Tab := fun | 13 => (4194304, [0, 1, 0, 7, 15, 0, 32, 0, 224, 480, 1023, 2047, 4095, 8191, 4095, 32767, 65535, 4095, 135167, 4095, 921599, 1970175, 4194303, 8388607, 16777215], [(0, 64, 84), (1, 9671406556917033397649408, 85), (0, 1024, 86), (6, 58028439341502200385896448, 87), (8, 77371252455336267181195264, 88), (0, 256, 89), (32, 309485009821345068724781056, 90), (0, 1024, 91), (192, 1856910058928070412348686336, 92), (256, 2475880078570760549798248448, 93), (528, 5106502662052193633958887424, 94), (1024, 9903520314283042199192993792, 95), (2048, 19807040628566084398385987648, 96), (6144, 59421121885698253195157962752, 97), (2048, 19807040628566084398385988608, 98), (26624, 257491528171359097179017838592, 99), (34816, 336719690685623434772561788928, 100), (2048, 19807040628566084398385987840, 101), (133120, 1287457640856795485895089192960, 102), (2048, 19807040628566084398385988608, 103), (788480, 7625710641997942493378605219840, 104), (1050624, 10161011842454401296372011630592, 105), (2164736, 20936041944394351209093988876288, 106), (4196352, 40584626247931906932292888559616, 107), (8390656, 81149445455235247780187391131648, 108)]) | _ => (0, [], [])
def l1E (K : Nat → Nat → Nat → Nat → Int → Mem → Prop) : Env → Mem → Prop := fun ρ m => UnPA (ρ 6) fun p_6b p_6o => UnPA (ρ 8) fun q_8b q_8o => UnI (ρ 10) .i64 fun i_10 => K p_6b p_6o q_8b q_8o i_10 m
def l1B  (K1 : Nat → Nat → Nat → Nat → Int → Mem → Prop) (p_6b : Nat) (p_6o : Nat) (q_8b : Nat) (q_8o : Nat) (i_10 : Int) (R : Ending → Mem → Prop) (m : Mem) : Prop :=
 LdV m q_8b q_8o fun v =>
 UnS v fun x78a x78l x78c =>
 Br (decide (i_10 < ((x78l : Nat) : Int))) (
  Sub m fun r1 =>
  LdV r1 p_6b p_6o fun v =>
  UnS v fun x84a x84l x84c =>
  IxS x84a x84l i_10 4 fun x86b x86o =>
  LdV r1 x86b x86o fun v =>
  UnI v .u64 fun x87_0 =>
  LdV r1 x86b (x86o + 1) fun v =>
  UnI v .u64 fun x87_1 =>
  LdV r1 x86b (x86o + 2) fun v =>
  UnI v .u64 fun x87_2 =>
  LdV r1 x86b (x86o + 3) fun v =>
  UnI v .u64 fun x87_3 =>
  LdV r1 q_8b q_8o fun v =>
  UnS v fun x89a x89l x89c =>
  IxS x89a x89l i_10 4 fun x91b x91o =>
  LdV m x91b x91o fun v =>
  UnI v .u64 fun x92_0 =>
  LdV m x91b (x91o + 1) fun v =>
  UnI v .u64 fun x92_1 =>
  LdV m x91b (x91o + 2) fun v =>
  UnI v .u64 fun x92_2 =>
  LdV m x91b (x91o + 3) fun v =>
  UnI v .u64 fun x92_3 =>
  Br (!(eqL [.int .u64 x87_0, .int .u64 x87_1, .int .u64 x87_2, .int .u64 x87_3] [.int .u64 x92_0, .int .u64 x92_1, .int .u64 x92_2, .int .u64 x92_3])) (
   R (.returned (.bool false)) m) (
   LdV r1 p_6b (p_6o + 3) fun v =>
   UnS v fun x96a x96l x96c =>
   IxS x96a x96l i_10 1 fun x98b x98o =>
   LdV r1 x98b x98o fun v =>
   UnS v fun x99a x99l x99c =>
   LdV r1 q_8b (q_8o + 3) fun v =>
   UnS v fun x101a x101l x101c =>
   IxS x101a x101l i_10 1 fun x103b x103o =>
   LdV m x103b x103o fun v =>
   UnS v fun x104a x104l x104c =>
   HC P eyotref13_SameInts.id #[.slice x99a x99l x99c, .slice x104a x104l x104c] m (Cont (fun v m2 =>
     UnB v fun x105 =>
     Br (!x105) (
      R (.returned (.bool false)) m2) (
      K1 p_6b p_6o q_8b q_8o (IntKind.i64.wrap (i_10 + 1)) m2)) (panicR R)))) (
  R (.returned (.bool true)) m)
def l1  (p_6b : Nat) (p_6o : Nat) (q_8b : Nat) (q_8o : Nat) (i_10 : Int) (R : Ending → Mem → Prop) (m : Mem) : Prop :=
  ∃ (I : Nat → Nat → Nat → Nat → Nat → Int → Mem → Prop) (N : Nat), I N p_6b p_6o q_8b q_8o i_10 m ∧ ∀ N p_6b p_6o q_8b q_8o i_10 m, I N p_6b p_6o q_8b q_8o i_10 m → l1B  (fun p_6b p_6o q_8b q_8o i_10 m => ∃ N1, N1 < N ∧ I N1 p_6b p_6o q_8b q_8o i_10 m) p_6b p_6o q_8b q_8o i_10 R m
noncomputable def l1A  (K1 : Nat → Nat → Nat → Nat → Int → Mem → Prop) (R : Ending → Mem → Prop) : ACode := (.code (lP (bB (sR (sL (sR (sR (sR (sR (sR (sR (sR (body)))))))))))))
def e0 (picks_0a : Option Addr) (picks_0l : Nat) (picks_0c : Nat) (deep_1 : Int) (R : Ending → Mem → Prop) (m : Mem) : Prop :=
 HC P eyotlaw10_begun.id #[] m (Cont (fun v m1 =>
   UnB v fun x11 =>
   Br (!x11) (
    R (.returned (.bool false)) m1) (
    Br (decide (((picks_0l : Nat) : Int) > 60)) (
     R (.returned (.bool true)) m1) (
     HC P eyotplay_Made.id #[.slice picks_0a picks_0l picks_0c] m1 (Cont (fun v m2 =>
       UnP v fun x17 =>
       HC P eyotplay_Picks_Rx.id #[.pointer x17, .int .i64 (IntKind.i64.wrap (Int.tmod deep_1 6))] m2 (Cont (fun v m3 =>
        UnAgg v fun l =>
        UnCons l fun v l =>
        UnI v .i64 fun x21_0 =>
        UnCons l fun v l =>
        UnI v .u64 fun x21_1 =>
        UnCons l fun v l =>
        UnI v .u64 fun x21_2 =>
        UnCons l fun v l =>
        UnI v .u64 fun x21_3 =>
        UnCons l fun v l =>
        UnI v .u64 fun x21_4 =>
        UnCons l fun v l =>
        UnS v fun x21_5a x21_5l x21_5c =>
        UnNil l (
        NewC m3 #[.int .i64 0, .int .u64 0, .int .u64 0, .int .u64 0, .int .u64 0, .slice none 0 0] T_api_Rx fun b_r_5 m4 =>
        St1 m4 b_r_5 0 (.int .i64 x21_0) fun m5 =>
        St1 m5 b_r_5 1 (.int .u64 x21_1) fun m6 =>
        St1 m6 b_r_5 2 (.int .u64 x21_2) fun m7 =>
        St1 m7 b_r_5 3 (.int .u64 x21_3) fun m8 =>
        St1 m8 b_r_5 4 (.int .u64 x21_4) fun m9 =>
        St1 m9 b_r_5 5 (.slice x21_5a x21_5l x21_5c) fun m10 =>
        LdV m10 b_r_5 0 fun v =>
        UnI v .i64 fun x23_0 =>
        LdV m10 b_r_5 1 fun v =>
        UnI v .u64 fun x23_1 =>
        LdV m10 b_r_5 2 fun v =>
        UnI v .u64 fun x23_2 =>
        LdV m10 b_r_5 3 fun v =>
        UnI v .u64 fun x23_3 =>
        LdV m10 b_r_5 4 fun v =>
        UnI v .u64 fun x23_4 =>
        LdV m10 b_r_5 5 fun v =>
        UnS v fun x23_5a x23_5l x23_5c =>
        HC P place_Of.id #[.agg #[.int .i64 x23_0, .int .u64 x23_1, .int .u64 x23_2, .int .u64 x23_3, .int .u64 x23_4, .slice x23_5a x23_5l x23_5c]] m10 (Cont (fun v m11 =>
        UnTup v fun us0 =>
        UnCons us0 fun w us1 =>
        UnAgg w fun l =>
        UnCons l fun v l =>
        UnS v fun x24_0_0a x24_0_0l x24_0_0c =>
        UnCons l fun v l =>
        UnS v fun x24_0_1a x24_0_1l x24_0_1c =>
        UnCons l fun v l =>
        UnS v fun x24_0_2a x24_0_2l x24_0_2c =>
        UnCons l fun v l =>
        UnS v fun x24_0_3a x24_0_3l x24_0_3c =>
        UnCons l fun v l =>
        UnB v fun x24_0_4 =>
        UnNil l (
        UnCons us1 fun w us2 =>
        UnI w .i64 fun x24_1 =>
        UnNil us2 (
        NewC m11 #[.slice none 0 0, .slice none 0 0, .slice none 0 0, .slice none 0 0, .bool false] T_place_Places fun b_p_6 m12 =>
        St1 m12 b_p_6 0 (.slice x24_0_0a x24_0_0l x24_0_0c) fun m13 =>
        St1 m13 b_p_6 1 (.slice x24_0_1a x24_0_1l x24_0_1c) fun m14 =>
        St1 m14 b_p_6 2 (.slice x24_0_2a x24_0_2l x24_0_2c) fun m15 =>
        St1 m15 b_p_6 3 (.slice x24_0_3a x24_0_3l x24_0_3c) fun m16 =>
        St1 m16 b_p_6 4 (.bool x24_0_4) fun m17 =>
        LdV m17 b_r_5 0 fun v =>
        UnI v .i64 fun x28_0 =>
        LdV m17 b_r_5 1 fun v =>
        UnI v .u64 fun x28_1 =>
        LdV m17 b_r_5 2 fun v =>
        UnI v .u64 fun x28_2 =>
        LdV m17 b_r_5 3 fun v =>
        UnI v .u64 fun x28_3 =>
        LdV m17 b_r_5 4 fun v =>
        UnI v .u64 fun x28_4 =>
        LdV m17 b_r_5 5 fun v =>
        UnS v fun x28_5a x28_5l x28_5c =>
        HC P eyotref8_PlacesOf.id #[.agg #[.int .i64 x28_0, .int .u64 x28_1, .int .u64 x28_2, .int .u64 x28_3, .int .u64 x28_4, .slice x28_5a x28_5l x28_5c]] m17 (Cont (fun v m18 =>
        UnTup v fun us0 =>
        UnCons us0 fun w us1 =>
        UnAgg w fun l =>
        UnCons l fun v l =>
        UnS v fun x29_0_0a x29_0_0l x29_0_0c =>
        UnCons l fun v l =>
        UnS v fun x29_0_1a x29_0_1l x29_0_1c =>
        UnCons l fun v l =>
        UnS v fun x29_0_2a x29_0_2l x29_0_2c =>
        UnCons l fun v l =>
        UnS v fun x29_0_3a x29_0_3l x29_0_3c =>
        UnCons l fun v l =>
        UnB v fun x29_0_4 =>
        UnNil l (
        UnCons us1 fun w us2 =>
        UnI w .i64 fun x29_1 =>
        UnNil us2 (
        NewC m18 #[.slice none 0 0, .slice none 0 0, .slice none 0 0, .slice none 0 0, .bool false] T_eyotref8_Places fun b_q_8 m19 =>
        St1 m19 b_q_8 0 (.slice x29_0_0a x29_0_0l x29_0_0c) fun m20 =>
        St1 m20 b_q_8 1 (.slice x29_0_1a x29_0_1l x29_0_1c) fun m21 =>
        St1 m21 b_q_8 2 (.slice x29_0_2a x29_0_2l x29_0_2c) fun m22 =>
        St1 m22 b_q_8 3 (.slice x29_0_3a x29_0_3l x29_0_3c) fun m23 =>
        St1 m23 b_q_8 4 (.bool x29_0_4) fun m24 =>
        Br (x24_1 != x29_1) (
        R (.returned (.bool false)) m24) (
        LdV m24 b_p_6 0 fun v =>
        UnS v fun x37a x37l x37c =>
        LdV m24 b_q_8 0 fun v =>
        UnS v fun x40a x40l x40c =>
        Br (((x37l : Nat) : Int) != ((x40l : Nat) : Int)) (
        R (.returned (.bool false)) m24) (
        LdV m24 b_p_6 3 fun v =>
        UnS v fun x46a x46l x46c =>
        LdV m24 b_q_8 3 fun v =>
        UnS v fun x49a x49l x49c =>
        Br (((x46l : Nat) : Int) != ((x49l : Nat) : Int)) (
        R (.returned (.bool false)) m24) (
        LdV m24 b_p_6 1 fun v =>
        UnS v fun x55a x55l x55c =>
        LdV m24 b_q_8 1 fun v =>
        UnS v fun x57a x57l x57c =>
        HC P eyotref13_SameInts.id #[.slice x55a x55l x55c, .slice x57a x57l x57c] m24 (Cont (fun v m25 =>
        UnB v fun x58 =>
        Br (!x58) (
        R (.returned (.bool false)) m25) (
        LdV m25 b_p_6 2 fun v =>
        UnS v fun x63a x63l x63c =>
        LdV m25 b_q_8 2 fun v =>
        UnS v fun x65a x65l x65c =>
        HC P eyotref13_SameInts.id #[.slice x63a x63l x63c, .slice x65a x65l x65c] m25 (Cont (fun v m26 =>
        UnB v fun x66 =>
        Br (!x66) (
        R (.returned (.bool false)) m26) (
        LdV m26 b_p_6 4 fun v =>
        UnB v fun x71 =>
        LdV m26 b_q_8 4 fun v =>
        UnB v fun x73 =>
        Br (!(x71 == x73)) (
        R (.returned (.bool false)) m26) (
        l1  b_p_6 0 b_q_8 0 0 R m26))) (panicR R)))) (panicR R)))))))) (panicR R))))) (panicR R)))) (panicR R))) (panicR R))))) (panicR R))
noncomputable def e0A (R : Ending → Mem → Prop) : ACode := (.seq (.code (sL (body))) (.seq (.code (sL (sR (body)))) (.seq (.code (sL (sR (sR (body))))) (.seq (.code (sL (sR (sR (sR (body)))))) (.seq (.code (sL (sR (sR (sR (sR (body))))))) (.seq (.code (sL (sR (sR (sR (sR (sR (body)))))))) (.seq (.code (sL (sR (sR (sR (sR (sR (sR (body))))))))) (.seq (.seq (.code (sL (sL (sR (sR (sR (sR (sR (sR (sR (body))))))))))) (.block 0 (.cut (l1E fun p_6b p_6o q_8b q_8o i_10 m => l1  p_6b p_6o q_8b q_8o i_10 R m) (.loop (lP (bB (sR (sL (sR (sR (sR (sR (sR (sR (sR (body)))))))))))))))) (.code (sR (sR (sR (sR (sR (sR (sR (sR (body))))))))))))))))))
abbrev l1Q  (R : Ending → Mem → Prop) : Exit → Env → Mem → Prop := (blockQ 0 (thenQ (acpt P od (panicR R) (.code (sR (sR (sR (sR (sR (sR (sR (sR (body)))))))))) (bodyQ P fn R)) (bodyQ P fn R)))
theorem l1_eq  (K1 : Nat → Nat → Nat → Nat → Int → Mem → Prop) (R : Ending → Mem → Prop) (p_6b : Nat) (p_6o : Nat) (q_8b : Nat) (q_8o : Nat) (i_10 : Int) (ρ : Env) (m : Mem) : l1B  K1 p_6b p_6o q_8b q_8o i_10 R m = acpt P od (panicR R) (l1A  K1 R) (thenQ (l1E K1) (l1Q  R)) (upd (upd (upd ρ 10 (.int .i64 i_10)) 8 (.pointer (some ⟨q_8b, q_8o, none⟩))) 6 (.pointer (some ⟨p_6b, p_6o, none⟩))) m := by kernel_rfl
theorem l1_er  (K1 : Nat → Nat → Nat → Nat → Int → Mem → Prop) (R : Ending → Mem → Prop) : (l1A  K1 R).erase = lP (bB (sR (sL (sR (sR (sR (sR (sR (sR (sR (body))))))))))) := by kernel_rfl
theorem l1_ok  (R : Ending → Mem → Prop) (ρ : Env) (m : Mem) (h : (l1E fun p_6b p_6o q_8b q_8o i_10 m => l1  p_6b p_6o q_8b q_8o i_10 R m) ρ m) : cpt P od (panicR R) (.loop (lP (bB (sR (sL (sR (sR (sR (sR (sR (sR (sR (body))))))))))))) (l1Q  R) ρ m := by
  unfold l1E at h
  obtain ⟨p_6b, p_6o, e6, h⟩ := h.ex
  obtain ⟨q_8b, q_8o, e8, h⟩ := h.ex
  obtain ⟨i_10, e10, h⟩ := h.ex
  obtain ⟨I, N, h0, hs⟩ := h
  refine ⟨fun N => l1E (I N), N, (by show l1E (I N) ρ m; unfold l1E; rw [e6, e8, e10]; exact h0), ?_⟩
  clear h0 e6 e8 e10
  intro N ρ m h
  unfold l1E at h
  obtain ⟨p_6b, p_6o, e6, h⟩ := h.ex
  obtain ⟨q_8b, q_8o, e8, h⟩ := h.ex
  obtain ⟨i_10, e10, h⟩ := h.ex
  refine cpt_mono (P := P) (lP (bB (sR (sL (sR (sR (sR (sR (sR (sR (sR (body)))))))))))) (Q := thenQ (l1E fun p_6b p_6o q_8b q_8o i_10 m => ∃ N1, N1 < N ∧ I N1 p_6b p_6o q_8b q_8o i_10 m) (l1Q  R)) (fun e ρ m h => ?_) ρ m ?_
  · cases e with
    | normal =>
      have h : l1E (fun p_6b p_6o q_8b q_8o i_10 m => ∃ N1, N1 < N ∧ I N1 p_6b p_6o q_8b q_8o i_10 m) ρ m := h
      unfold l1E at h
      obtain ⟨p_6b, p_6o, e6, h⟩ := h.ex
      obtain ⟨q_8b, q_8o, e8, h⟩ := h.ex
      obtain ⟨i_10, e10, h⟩ := h.ex
      obtain ⟨N1, hlt, h⟩ := h
      exact ⟨N1, hlt, (by show l1E (I N1) ρ m; unfold l1E; rw [e6, e8, e10]; exact h)⟩
    | _ => exact h
  have hh := hs N p_6b p_6o q_8b q_8o i_10 m h
  generalize (fun p_6b p_6o q_8b q_8o i_10 m => ∃ N1, N1 < N ∧ I N1 p_6b p_6o q_8b q_8o i_10 m : Nat → Nat → Nat → Nat → Int → Mem → Prop) = K1 at hh ⊢
  rw [← upd_self e6, ← upd_self e8, ← upd_self e10]
  rw [← l1_er  K1 R]
  refine acpt_sound (P := P) (l1A  K1 R) _ _ _ True.intro ?_
  exact Eq.mp (l1_eq  K1 R p_6b p_6o q_8b q_8o i_10 ρ m) hh
theorem e0_eq (picks_0a : Option Addr) (picks_0l : Nat) (picks_0c : Nat) (deep_1 : Int) (R : Ending → Mem → Prop) (m : Mem) : e0 picks_0a picks_0l picks_0c deep_1 R m = acpt P od (panicR R) (e0A R) (bodyQ P fn R) (argE (#[.slice picks_0a picks_0l picks_0c, .int .u8 deep_1] : Array Value).toList) m := by kernel_rfl
theorem ok (picks_0a : Option Addr) (picks_0l : Nat) (picks_0c : Nat) (deep_1 : Int) (R : Ending → Mem → Prop) (m : Mem) (h : e0 picks_0a picks_0l picks_0c deep_1 R m) : HC P id #[.slice picks_0a picks_0l picks_0c, .int .u8 deep_1] m R := by
  refine HC_of (fn := fn) (c := body) (od := od) (tb := tb) Go.Proofs.Try.func3 (by kernel_rfl) (by kernel_rfl) follows (by kernel_rfl) (of_decide_eq_true (by kernel_rfl)) ?_
  have he : (e0A R).erase = body := by kernel_rfl
  rw [← he]
  refine acpt_sound (P := P) (e0A R) _ _ _ ⟨⟨⟨⟨⟨⟨⟨⟨True.intro, ⟨(fun ρ m h => l1_ok  R ρ m h), True.intro⟩⟩, True.intro⟩, True.intro⟩, True.intro⟩, True.intro⟩, True.intro⟩, True.intro⟩, True.intro⟩ ?_
  exact Eq.mp (e0_eq picks_0a picks_0l picks_0c deep_1 R m) h
end eyotlaw10_PlaceAll
end
end Go.E
set_option linter.unusedVariables false
set_option linter.unusedSimpArgs false
set_option maxRecDepth 20000
namespace Go.E.Pl
open Go.H Go.E Go.E.Rg
attribute [local irreducible] BiN MkS ConvN LookN MapUpN CallV HC limb dbTab
theorem SameN {m : Mem} {a : Option Addr} {c : Nat} {b : Option Addr} {c2 : Nat} {l : List Nat} (h1 : CellsAt m a (ints (ns l))) (h2 : CellsAt m b (ints (ns l))) (hb : l.length ≤ 1000000000) {R : Ending → Mem → Prop} (h : R (.returned (.bool true)) m) : HC P eyotref13_SameInts.id #[.slice a l.length c, .slice b l.length c2] m R := by
  refine eyotref13_SameInts.ok _ _ _ _ _ _ _ _ ?_
  refine BrNf rfl ?_
  refine ⟨fun N a' l' c' b' l2' c2' i mm => a' = a ∧ l' = l.length ∧ b' = b ∧ l2' = l.length ∧ mm = m ∧ ∃ k : Nat, i = k ∧ k ≤ l.length ∧ N = l.length - k, l.length, ⟨rfl, rfl, rfl, rfl, rfl, 0, rfl, by omega, by omega⟩, ?_⟩
  rintro N a' l' c' b' l2' c2' i mm ⟨rfl, rfl, rfl, rfl, rfl, k, rfl, hk, rfl⟩
  refine BrD (fun hlt => ?_) (fun _ => h)
  have hkl : k < l.length := by omega
  refine Sub.all ?_
  refine IxS.num h1 hkl rfl rfl ?_
  refine IxS.num h2 hkl rfl rfl ?_
  refine BrNf rfl ?_
  refine ⟨l.length - (k + 1), by omega, rfl, rfl, rfl, rfl, rfl, k + 1, ?_, by omega, rfl⟩
  rw [wi (by omega) (by omega)]; omega
def RefOf : Prop := ∀ {r : Rx} {m : Mem} {v : Value} {R : Ending → Mem → Prop}, ArgC m r v → nodes r ≤ 4000000000000000000 → (∀ m' A, Le m m' → PlV m' (ofP r).1 A → R (.returned (.tuple #[.agg (lO A (ofP r).1), .int .i64 (ofP r).2])) m') → HC P eyotref8_PlacesOf.id #[rxA r.k r.S v] m R
theorem all_l1 {p : Plc} {m0 m : Mem} {b6 b8 : Nat} {A B : Ads} {t6 t8 : TypeId} (hle : Le m0 m) (h6 : m b6 = some (.cells (lO A p) t6 (0, 0))) (h8 : m b8 = some (.cells (lO B p) t8 (0, 0))) (vp : PlV m p A) (vq : PlV m p B) (hlen : p.fol.length = p.sets.length) (hl : p.sets.length ≤ 100) (hr : ∀ l ∈ p.fol, l.length ≤ 1000) :
    eyotlaw10_PlaceAll.l1 b6 0 b8 0 0 (Fine m0) m := by
  obtain ⟨pv, hpv, hpr⟩ := vp.co
  obtain ⟨qv, hqv, hqr⟩ := vq.co
  refine ⟨fun N a1 o1 a2 o2 i mm => a1 = b6 ∧ o1 = 0 ∧ a2 = b8 ∧ o2 = 0 ∧ mm = m ∧ ∃ j : Nat, i = (j : Int) ∧ j ≤ p.sets.length ∧ N = p.sets.length - j, p.sets.length, ⟨rfl, rfl, rfl, rfl, rfl, 0, rfl, by omega, by omega⟩, ?_⟩
  rintro N a1 o1 a2 o2 i mm ⟨rfl, rfl, rfl, rfl, rfl, j, rfl, hj, rfl⟩
  unfold eyotlaw10_PlaceAll.l1B
  refine LdV.s0 h8 (UnS.mk ?_)
  refine BrD (fun hlt => ?_) (fun hge => ⟨rfl, hle⟩)
  have hjp : j < p.sets.length := by omega
  have hjf : j < p.fol.length := by omega
  refine Sub.all ?_
  refine LdV.s0 h6 (UnS.mk ?_)
  refine IxS.set4 vp.cs hjp rfl rfl ?_
  refine LdV.s0 h8 (UnS.mk ?_)
  refine IxS.set4 vq.cs hjp rfl rfl ?_
  rw [eq4_refl]
  refine Br.f rfl ?_
  refine LdV.s3 h6 (UnS.mk ?_)
  refine IxS.row hpv hpr hjf rfl rfl ?_
  intro a1' c1' hc1
  refine LdV.s3 h8 (UnS.mk ?_)
  refine IxS.row hqv hqr hjf rfl rfl ?_
  intro a2' c2' hc2
  refine SameN hc1 hc2 (by have := hr _ (List.getElem_mem hjf); omega) ?_
  dsimp only [Cont]
  refine UnB.mk ?_
  refine Br.f rfl ?_
  refine ⟨p.sets.length - (j + 1), by omega, rfl, rfl, rfl, rfl, rfl, j + 1, ?_, by omega, rfl⟩
  rw [wi (by omega) (by omega)]; omega
theorem PlaceAll_m (hPO : RefOf) {la : Option Addr} {c n : Nat} {ps : List UInt8} {m : Mem} (hc : CellsAt m la (u8s ps)) (hn : n < 256) : HC P eyotlaw10_PlaceAll.id #[.slice la ps.length c, .int .u8 (n : Int)] m (Fine m) := by
  refine eyotlaw10_PlaceAll.ok _ _ _ _ _ _ ?_
  refine begun_spec ?_
  intro m1 hle1
  dsimp only [Cont]
  refine UnB.mk ?_
  refine Br.f rfl ?_
  refine BrD (fun _ => ⟨rfl, hle1⟩) (fun hs => ?_)
  have ed : IntKind.i64.wrap (Int.tmod (n : Int) 6) = ((n % 6 : Nat) : Int) := by
    have : Int.tmod (n : Int) 6 = ((n % 6 : Nat) : Int) := by rw [show (6 : Int) = ((6 : Nat) : Int) from rfl, ← Int.ofNat_tmod]
    rw [this, wi (by omega) (by omega)]
  rw [ed]
  have hd : n % 6 ≤ 5 := by omega
  generalize n % 6 = d at hd ⊢
  refine made_rx (d := d) hle1 hc (by omega) (by omega) ?_
  intro m3 a l c hle3 hv
  have hnod := prx_nodes d ps
  have h4 : 4 ^ d ≤ 4 ^ 5 := Nat.pow_le_pow_right (by decide) hd
  have hnod : nodes (prx d ps).1 ≤ 1024 := Nat.le_trans hnod h4
  generalize (prx d ps).1 = r at hv hnod ⊢
  refine ContRx.mk ?_
  refine own6 ?_
  intro b5 m10 hb5 hle10 h10
  have hv10 := hv.le hle10
  have l10 := (hle1.trans hle3).trans hle10
  refine get6 h10 ?_
  refine Of_spec hv10 (by omega) ?_
  intro m11 A hle11 hp
  refine ContPl.mk ?_
  refine own5 ?_
  intro b6 m17 hb6 hle17 h17
  have u17 := hle11.trans hle17
  have l17 := l10.trans u17
  refine get6 (u17 _ _ h10) ?_
  refine hPO (hv10.le u17) (by omega) ?_
  intro m18 B hle18 hq
  refine ContPl.mk ?_
  refine own5 ?_
  intro b8 m24 hb8 hle24 h24
  have u24 := hle18.trans hle24
  have l24 := l17.trans u24
  have h6 := u24 _ _ h17
  have vp := (hp.le hle17).le u24
  have vq := hq.le hle24
  refine BrNf rfl ?_
  have facts : (ofP r).1.fol.length = (ofP r).1.sets.length ∧ (ofP r).1.sets.length ≤ 40 ∧ (ofP r).1.fi.length ≤ 40 ∧ (ofP r).1.la.length ≤ 40 ∧ ∀ l ∈ (ofP r).1.fol, l.length ≤ 1000 := by
    by_cases hm : may r = 0
    · rw [ofP_ok hm]
      have ok := plc_ok (may_form hm).1
      have hcn := may_cnt hm
      have k1 := ok.kfi.len
      have k2 := ok.kla.len
      refine ⟨by rw [ok.len, ok.slen], by rw [ok.slen]; exact hcn, (by show (plc r).fi.length ≤ 40; omega), (by show (plc r).la.length ≤ 40; omega), fun l hl => ?_⟩
      have : l.length ≤ cnt r := rz_short (ok.rfo l hl) (ok.fo_lt l hl)
      omega
    · rw [ofP_no hm]
      exact ⟨rfl, Nat.zero_le _, Nat.zero_le _, Nat.zero_le _, fun l hl => by cases hl⟩
  obtain ⟨f1, f2, f3, f4, f5⟩ := facts
  generalize (ofP r).1 = p at h6 h24 vp vq f1 f2 f3 f4 f5 ⊢
  refine LdV.s0 h6 (UnS.mk (LdV.s0 h24 (UnS.mk ?_)))
  refine BrNf rfl ?_
  refine LdV.s3 h6 (UnS.mk (LdV.s3 h24 (UnS.mk ?_)))
  refine BrNf rfl ?_
  refine LdV.s1 h6 (UnS.mk (LdV.s1 h24 (UnS.mk ?_)))
  refine SameN vp.cf vq.cf (by omega) ?_
  dsimp only [Cont]
  refine UnB.mk ?_
  refine Br.f rfl ?_
  refine LdV.s2 h6 (UnS.mk (LdV.s2 h24 (UnS.mk ?_)))
  refine SameN vp.cl vq.cl (by omega) ?_
  dsimp only [Cont]
  refine UnB.mk ?_
  refine Br.f rfl ?_
  refine LdV.s4 h6 (UnB.mk (LdV.s4 h24 (UnB.mk ?_)))
  refine Br.f (by simp) ?_
  exact all_l1 l24 h6 h24 vp vq f1 (by omega) f5
end Go.E.Pl
set_option linter.unusedVariables false
set_option linter.unusedSimpArgs false
set_option maxRecDepth 20000
namespace Go.E.Pl
open Go.H Go.E Go.E.Rg
attribute [local irreducible] BiN MkS ConvN LookN MapUpN CallV HC nodes nodesL cntL
theorem RefOf_ok : RefOf := by
  intro r m v R ha hn k
  obtain ⟨a, l, c, rfl⟩ := ha.sl
  refine eyotref8_PlacesOf.ok _ _ _ _ _ _ _ _ _ _ ?_
  refine newRx ?_
  intro b1 m1 hb1 hle1 h1
  intro b2 hb2
  have hle2 := Le.set hb2 (.cells zR T_eyotref8_Places (0, 0))
  have h12 := hle2 _ _ h1
  have h2 : (m1.set b2 (.cells zR T_eyotref8_Places (0, 0))) b2 = _ := set_same _ _ _
  generalize m1.set b2 (.cells zR T_eyotref8_Places (0, 0)) = m2 at hle2 h12 h2 ⊢
  have w2 : m b2 = none := hle1.new hb2
  have l2 := hle1.trans hle2
  refine get6 h12 ?_
  refine RMay_spec (ha.le l2) hn ?_
  intro m3 hle3
  dsimp only [Cont]
  refine UnI.mk ?_
  have l3 := l2.trans hle3
  have h23 := hle3 _ _ h2
  have h13 := hle3 _ _ h12
  refine BrN (fun h0 => ?_) (fun h0 => ?_)
  · rw [ofP_no h0] at k
    refine put5 (u0 := .slice none 0 0) h23 rfl rfl rfl rfl rfl ?_
    refine get5 (A := ads0) (p := pl0) (set_same _ _ _) ?_
    refine k _ ads0 ?_ (PlV.zero _)
    exact (Chg.set m3 b2 _).to_le l3 (fun b e => by rw [show b = b2 from e]; exact w2)
  · rw [ofP_ok h0] at k
    obtain ⟨hf, hnod, _⟩ := may_form h0
    have hcnt := may_cnt h0
    intro b5 hb5
    have hle4 := Le.set hb5 (.cells zR T_eyotref8_Places (0, 0))
    have h5 : (m3.set b5 (.cells zR T_eyotref8_Places (0, 0))) b5 = _ := set_same _ _ _
    have h14 := hle4 _ _ h13
    have h24 := hle4 _ _ h23
    generalize m3.set b5 (.cells zR T_eyotref8_Places (0, 0)) = m4 at hle4 h5 h14 h24 ⊢
    have w5 : m b5 = none := l3.new hb5
    have hne52 : b2 ≠ b5 := by rintro rfl; rw [h23] at hb5; cases hb5
    refine get6 h14 ?_
    have p4 : PSt T_eyotref8_Places m4 m b5 ⟨[], []⟩ none 0 none 0 [] := ⟨l3.trans hle4, h5, Own.nil _ _ _, Own.nil _ _ _, ⟨rfl, fun i l h => by cases h⟩, fun b hb => (by rcases hb with rfl | e | e; exact w5; cases e; cases e), fun e => (by cases e), fun e => (by cases e), fun b e => (by cases e)⟩
    have l24 : Loc (Ft b5 none none) m4 m b2 (.cells zR T_eyotref8_Places (0, 0)) := ⟨h24, w2, fun e => (by rcases e with e | e | e; exact hne52 e; cases e; cases e)⟩
    have hb0 : StN 0 ⟨[], []⟩ := ⟨rfl, rfl⟩
    have hL0 : Lb 0 ([] : List (List Nat)) := fun l h => by cases h
    have hB : (2 * nodes r - 1) * 10000 ≤ 79 * 10000 := Nat.mul_le_mul_right _ (by omega)
    have hB' : 0 + (2 * nodes r - 1) * 10000 ≤ 900000 := by rw [Nat.zero_add]; exact Nat.le_trans hB (by decide)
    refine rwalk_spec r hf p4 hb0 hL0 hB' (by omega) ha ?_
    intro m5 V5 sa sc fa fc fv qa qc qla qlc p5 g5 cq cql
    obtain ⟨b5', _⟩ := rwk_bnd hf hb0
    have hwb := walk_wb r hf (by omega) ⟨[], []⟩
    have q1 := hwb.fi
    have q2 := hwb.la
    have q3 : Lb 900000 (wk cat r ⟨[], []⟩).2.fol := fun l hl => Nat.le_trans (hwb.fo 0 hL0 l hl) hB'
    clear hwb
    have hplc := ref_plc hf
    have k' : ∀ m' A, Le m m' → PlV m' ⟨(wk cat r ⟨[], []⟩).2.sets, rise (wk cat r ⟨[], []⟩).1.fi, rise (wk cat r ⟨[], []⟩).1.la, (wk cat r ⟨[], []⟩).2.fol.map rise, (wk cat r ⟨[], []⟩).1.nu⟩ A → R (.returned (.tuple #[.agg (lO A ⟨(wk cat r ⟨[], []⟩).2.sets, rise (wk cat r ⟨[], []⟩).1.fi, rise (wk cat r ⟨[], []⟩).1.la, (wk cat r ⟨[], []⟩).2.fol.map rise, (wk cat r ⟨[], []⟩).1.nu⟩), .int .i64 0])) m' := by
      intro m' A h1 h2
      rw [hplc] at h2 ⊢
      exact k m' A h1 h2
    clear k hplc
    generalize (wk cat r ⟨[], []⟩).1 = q at q1 q2 cq cql k' ⊢
    generalize (wk cat r ⟨[], []⟩).2 = st8 at p5 b5' q3 k'
    have hnum := b5'.num
    have hlen := b5'.len
    refine ContR.mk ?_
    refine copyR ?_
    intro b6 m11 hb6 hle9 h6
    obtain ⟨p11, g11, l6⟩ := p5.mine hle9 hb6 h6
    have l211 := (l24.go g5).go g11
    refine LdV.s0 p11.obj (UnS.mk ?_)
    refine BrDf (by omega) ?_
    refine Sub.all ?_
    refine LdV.s0 p11.obj (UnS.mk ?_)
    refine LdV.s1 l6.at_ (UnS.mk (LdV.s2 l6.at_ (UnS.mk (LdV.s4 l6.at_ (UnB.mk ?_)))))
    have fin : ∀ {m17 : Mem} {b7 : Nat} {ia : Option Addr} {ic : Nat} {ja : Option Addr} {jc : Nat}, Le m11 m17 → m11 b7 = none → m17 b7 = some (.cells zR T_eyotref8_Places (0, 0)) → CellsAt m17 ia (ints (ns (rise q.fi))) → Fresh m11 ia → CellsAt m17 ja (ints (ns (rise q.la))) → Fresh m11 ja → (∀ b, blk ia = some b → ints (ns (rise q.fi)) ≠ [] → b ≠ b7) → (∀ b, blk ja = some b → ints (ns (rise q.la)) ≠ [] → b ≠ b7) →
        St1 m17 b7 0 (.slice sa st8.sets.length sc) fun m19 => St1 m19 b7 1 (.slice ia (rise q.fi).length ic) fun m20 => St1 m20 b7 2 (.slice ja (rise q.la).length jc) fun m21 => St1 m21 b7 3 (.slice none 0 0) fun m22 => St1 m22 b7 4 (.bool q.nu) fun m23 => eyotref8_PlacesOf.k1 b2 0 b5 0 b7 0 R m23 := by
      intro m17 b7 ia ic ja jc hle w7 h7 hci hfi hcj hfj ni nj
      have hle' : Le m11 (fun b => if b = b7 then none else m17 b) := fun b o hb => by
        show (if b = b7 then none else m17 b) = _
        rw [if_neg (fun e => by rw [e, w7] at hb; cases hb)]; exact hle b o hb
      have hle2 : Le (fun b => if b = b7 then none else m17 b) m17 := fun b o hb => by
        have hb : (if b = b7 then none else m17 b) = some o := hb
        split at hb
        · cases hb
        · exact hb
      have cc : ∀ {x : Option Addr} {vs : List Value}, CellsAt m17 x vs → (∀ b, blk x = some b → vs ≠ [] → b ≠ b7) → CellsAt (fun b => if b = b7 then none else m17 b) x vs := by
        intro x vs hx hn
        rcases hx.cases with ⟨b, o, rfl, hh⟩ | ⟨rfl, _⟩
        · intro t u hu
          have := hh t u hu
          have hb := hn b rfl (by rintro rfl; cases hu)
          unfold Mem.cell at this ⊢
          show (match (if b = b7 then none else m17 b) with | some (.cells c _ _) => c[o + t]? | _ => none) = _
          rw [if_neg hb]; exact this
        · exact CellsAt.empty _ _
      have hbn : (fun b => if b = b7 then none else m17 b : Mem) b7 = none := by show (if b7 = b7 then none else m17 b7) = none; rw [if_pos rfl]
      generalize (fun b => if b = b7 then none else m17 b : Mem) = mx at hle' hle2 cc hbn
      obtain ⟨p12, g12⟩ := p11.see hle'
      obtain ⟨p17, g17⟩ := p12.new hle2
      have l217 := (l211.go g12).go g17
      have l717 : Loc (Ft b5 sa fa) m17 (see m11 mx V5) b7 (.cells zR T_eyotref8_Places (0, 0)) := ⟨h7, by unfold see; rw [w7]; exact hbn, fun e => p11.live e w7⟩
      have ne72 : b7 ≠ b2 := by rintro rfl; rw [l211.at_] at w7; cases w7
      refine put5 h7 rfl rfl rfl rfl rfl ?_
      unfold eyotref8_PlacesOf.k1
      exact rof_l2 (F0 := fun _ => False) (V := m) (p17.put l717 _) ((g5.le.trans g11.le).trans g12.le) w2 ((l3.trans hle4).new ((g5.trans g11).chg.new w7)) ne72 (l217.other ne72) (l717.put _) (CellsAt.see (cc hci ni) hfi) (CellsAt.see (cc hcj nj) hfj) q3 (by omega) k'
    have cq11 := (cq.le g11.le).le p11.le
    have cql11 := (cql.le g11.le).le p11.le
    have nb : ∀ {mm : Mem} {x : Option Addr} {b7 : Nat} {o : Obj}, mm b7 = some o → Fresh mm x → ∀ b, blk x = some b → b ≠ b7 := fun h1 h2 b e e2 => by have := h2 b e; rw [e2, h1] at this; cases this
    have nl : ∀ {mm : Mem} {x : Option Addr} {b7 : Nat} {vs : List Value}, mm b7 = none → CellsAt mm x vs → ∀ b, blk x = some b → vs ≠ [] → b ≠ b7 := by
      intro mm x b7 vs h1 h2 b e hv e2
      subst e2
      rcases h2.cases with ⟨b', o, rfl, hh⟩ | ⟨rfl, _⟩
      · cases vs with
        | nil => exact hv rfl
        | cons u us =>
          have := hh 0 u rfl
          have e3 : b' = b := by cases e; rfl
          subst e3
          unfold Mem.cell at this
          rw [h1] at this; cases this
      · exact hv rfl
    have s1 : q.fi.length ≤ 900000 := by omega
    have s2 : q.la.length ≤ 900000 := by omega
    refine ⟨?_, ?_⟩
    · refine rise_spec cq11 s1 ?_
      intro m13 ia ic hle13 hci hfi
      dsimp only [Cont]
      refine UnS.mk ?_
      refine lk_same hle13 ?_
      refine ⟨?_, ?_⟩
      · refine rise_spec (cql11.le hle13) s2 ?_
        intro m15 ja jc hle15 hcj hfj
        dsimp only [Cont]
        refine UnS.mk ?_
        have l15 := hle13.trans hle15
        refine lk_same l15 ?_
        intro b7 hb7
        refine lk_same (l15.trans (Le.set hb7 _)) ?_
        exact fin (l15.trans (Le.set hb7 _)) (l15.new hb7) (set_same _ _ _) ((hci.le hle15).le (Le.set hb7 _)) hfi (hcj.le (Le.set hb7 _)) (Fresh.le hle13 hfj) (nl hb7 (hci.le hle15)) (nl hb7 hcj)
      · intro b7 hb7
        have hz := Le.set hb7 (.cells zR T_eyotref8_Places (0, 0))
        refine lk_same (hle13.trans hz) ?_
        refine rise_spec ((cql11.le hle13).le hz) s2 ?_
        intro m17 ja jc hle17 hcj hfj
        dsimp only [Cont]
        refine UnS.mk ?_
        have l17 := (hle13.trans hz).trans hle17
        refine lk_same l17 ?_
        exact fin l17 (hle13.new hb7) (hle17 _ _ (set_same _ _ _)) ((hci.le hz).le hle17) hfi hcj (Fresh.le (hle13.trans hz) hfj) (nl hb7 hci) (fun b e _ => nb (set_same _ _ _) hfj b e)
    · intro b7 hb7
      have hz := Le.set hb7 (.cells zR T_eyotref8_Places (0, 0))
      refine lk_same hz ?_
      refine rise_spec (cq11.le hz) s1 ?_
      intro m15 ia ic hle15 hci hfi
      dsimp only [Cont]
      refine UnS.mk ?_
      refine lk_same (hz.trans hle15) ?_
      refine rise_spec ((cql11.le hz).le hle15) s2 ?_
      intro m17 ja jc hle17 hcj hfj
      dsimp only [Cont]
      refine UnS.mk ?_
      have l17 := (hz.trans hle15).trans hle17
      refine lk_same l17 ?_
      have h715 := hle15 _ _ (set_same m11 b7 (.cells zR T_eyotref8_Places (0, 0)))
      exact fin l17 hb7 (hle17 _ _ h715) (hci.le hle17) (Fresh.le hz hfi) hcj (Fresh.le (hz.trans hle15) hfj) (fun b e _ => nb (set_same _ _ _) hfi b e) (fun b e _ => nb h715 hfj b e)
end Go.E.Pl
namespace Go.E
open Go.H Go.E.Rg Go.E.Pl
theorem PlaceAll_arg {W : World} {v w : Value} (h : Arg P W T_sl_uint8 v) (h2 : Arg P W T_uint8 w) : HC P eyotlaw10_PlaceAll.id #[v, w] (heapM W) (Pl.Fine (heapM W)) := by
  obtain ⟨a, l, c, bs2, rfl, hlc, hl2, hc, hc2⟩ := h.u8s (e := T_uint8) (by kernel_rfl) (by kernel_rfl)
  obtain ⟨n, rfl, hwf⟩ := h2.int (k := .u8) (by kernel_rfl)
  have hn := wf_u8 hwf
  have e : (bs2.take l).length = l := by rw [List.length_take]; omega
  have := PlaceAll_m RefOf_ok (c := c) (n := n.toNat) hc2 (by omega)
  rw [e, show ((n.toNat : Nat) : Int) = n by omega] at this
  exact this
end Go.E
