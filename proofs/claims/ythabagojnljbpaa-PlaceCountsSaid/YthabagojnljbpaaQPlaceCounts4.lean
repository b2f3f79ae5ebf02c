/- This project's own logic, printed forms and lemmas, as far as this claim needs them (part 4). -/
import Derived.Test.YthabagojnljbpaaQPlaceCounts3
set_option linter.unusedVariables false
set_option linter.unusedSimpArgs false
set_option maxRecDepth 20000
namespace Go.E.Pl
open Go.H Go.E Go.E.Rg
attribute [local irreducible] BiN MkS ConvN LookN MapUpN CallV HC limb dbTab
def Fine (m : Mem) : Ending → Mem → Prop := fun e m' => e = .returned (.bool true) ∧ Le m m'
theorem four_len (S : Nat → Bool) : (four S).length = 4 := rfl
/-- A set is read from its row. -/
theorem IxS.set4 {m : Mem} {a : Option Addr} {l : List (Nat → Bool)} (hc : CellsAt m a (l.flatMap four)) {j : Nat} (hj : j < l.length) {i : Int} (hi : i = (j : Int)) {n : Nat} (hn : n = l.length) {K : Int → Int → Int → Int → Prop} (q : K (L l[j] 0) (L l[j] 1) (L l[j] 2) (L l[j] 3)) :
    IxS a n i 4 fun b o => LdV m b o fun v => UnI v .u64 fun x0 => LdV m b (o + 1) fun v => UnI v .u64 fun x1 => LdV m b (o + 2) fun v => UnI v .u64 fun x2 => LdV m b (o + 3) fun v => UnI v .u64 fun x3 => K x0 x1 x2 x3 := by
  subst hi hn
  have hg := List.getElem?_eq_getElem hj
  refine IxS.rows four_len (by decide) hc rfl (by omega) (by omega) ?_
  intro b o x hx hcell
  rw [Int.toNat_natCast, hg] at hx
  cases hx
  exact LdV.mk (hcell 0 _ rfl) (LdV.mk (hcell 1 _ rfl) (LdV.mk (hcell 2 _ rfl) (LdV.mk (hcell 3 _ rfl) q)))
theorem eq4_refl (a b c d : Int) : eqL [.int .u64 a, .int .u64 b, .int .u64 c, .int .u64 d] [.int .u64 a, .int .u64 b, .int .u64 c, .int .u64 d] = true := by simp [eqL, eqV]
/-- A list of numbers is read from its row. -/
theorem IxS.row {m : Mem} {a : Option Addr} {fv : List Value} {V : Mem} {fol : List (List Nat)} (hc : CellsAt m a fv) (hr : RowsOK V fol fv) {j : Nat} (hj : j < fol.length) {i : Int} (hi : i = (j : Int)) {n : Nat} (hn : n = fol.length) {K : Option Addr → Nat → Nat → Prop} (q : ∀ a' c', CellsAt V a' (ints (ns fol[j])) → K a' fol[j].length c') :
    IxS a n i 1 fun b o => LdV m b o fun v => UnS v fun xa xl xc => K xa xl xc := by
  subst hi hn
  obtain ⟨a', c', h1, h2⟩ := hr.2 j _ (List.getElem?_eq_getElem hj)
  refine IxS.ld hc (by rw [hr.1]) (by omega) (by omega) ?_
  intro v hv
  rw [Int.toNat_natCast, h1] at hv
  cases hv
  exact q a' c' h2
theorem PlOK.kfi {r : Rx} {p : Plc} (h : PlOK r p) : Ok (cnt r) p.fi := ⟨h.rfi, h.fi_lt⟩
theorem PlOK.kla {r : Rx} {p : Plc} (h : PlOK r p) : Ok (cnt r) p.la := ⟨h.rla, h.la_lt⟩
theorem PlOK.kfo {r : Rx} {p : Plc} (h : PlOK r p) {j : Nat} (hj : j < p.fol.length) : Ok (cnt r) p.fol[j] := ⟨h.rfo _ (List.getElem_mem _), h.fo_lt _ (List.getElem_mem _)⟩
theorem PlOK.fi_some {r : Rx} {p : Plc} (h : PlOK r p) (hf : form r = true) : p.fi.length ≠ 0 := by
  obtain ⟨⟨x, hx⟩, _⟩ := some_ends r hf 0
  have := List.length_pos_of_mem ((h.fi x).mpr hx)
  omega
theorem PlOK.la_some {r : Rx} {p : Plc} (h : PlOK r p) (hf : form r = true) : p.la.length ≠ 0 := by
  obtain ⟨_, ⟨x, hx⟩⟩ := some_ends r hf 0
  have := List.length_pos_of_mem ((h.la x).mpr hx)
  omega
theorem beq_f {x y : Int} (h : x ≠ y) : (x == y) = false := by simpa using h
theorem bne_f {x y : Int} (h : x = y) : (x != y) = false := by simpa using h
theorem PlaceCounts_m {la : Option Addr} {c : Nat} {ps : List UInt8} {m : Mem} (hc : CellsAt m la (u8s ps)) : HC P eyotlaw10_PlaceCounts.id #[.slice la ps.length c] m (Fine m) := by
  refine eyotlaw10_PlaceCounts.ok _ _ _ _ _ ?_
  refine begun_spec ?_
  intro m1 hle1
  dsimp only [Cont]
  refine UnB.mk ?_
  refine Br.f rfl ?_
  refine BrD (fun _ => ⟨rfl, hle1⟩) (fun hs => ?_)
  refine made_rx (d := 4) hle1 hc (by omega) (by decide) ?_
  intro m3 a l c hle3 hv
  have hnod := prx_nodes 4 ps
  generalize (prx 4 ps).1 = r at hv hnod ⊢
  refine ContRx.mk ?_
  refine own6 ?_
  intro b3 m10 hb3 hle10 h10
  have hv10 := hv.le hle10
  have l10 := (hle1.trans hle3).trans hle10
  refine get6 h10 ?_
  refine Of_spec hv10 (by omega) ?_
  intro m11 A hle11 hp
  refine ContPl.mk ?_
  refine own5 ?_
  intro b4 m17 hb4 hle17 h17
  have l17 := (l10.trans hle11).trans hle17
  refine BrN (fun h0 => ?_) (fun h0 => ?_)
  · have h0 : may r ≠ 0 := fun e => h0 (by rw [ofP_ok e])
    rw [ofP_no h0] at h17 hp
    refine LdV.s0 h17 (UnS.mk (LdV.s1 h17 (UnS.mk (LdV.s2 h17 (UnS.mk (LdV.s3 h17 (UnS.mk ?_)))))))
    have e0 : IntKind.i64.wrap (IntKind.i64.wrap (IntKind.i64.wrap (((0 : Nat) : Int) + ((0 : Nat) : Int)) + ((0 : Nat) : Int)) + ((0 : Nat) : Int)) = 0 := by decide
    refine BrEt e0 ?_
    refine LdV.s4 h17 (UnB.mk ?_)
    exact ⟨rfl, l17⟩
  · have hm : may r = 0 := by
      by_cases e : may r = 0
      · exact e
      · rw [ofP_no e] at h0; exact h0
    rw [ofP_ok hm] at h17 hp
    change m17 b4 = some (Obj.cells (lO A (plc r)) T_place_Places (0, 0)) at h17
    change PlV m11 (plc r) A at hp
    have hf := (may_form hm).1
    have hcn := may_cnt hm
    have ok := plc_ok hf
    have hp17 := hp.le hle17
    generalize plc r = p at h17 hp hp17 ok
    refine get6 ((hle11.trans hle17) _ _ h10) ?_
    refine count_spec r hf (m := m17) (V := m17) (la := none) (lc := 0) (sets := []) (v := .slice a l c) (Own.nil _ _ _) (Le.refl _) (fun b e => by cases e) ((hv10.le hle11).le hle17) (by simp; omega) ?_
    intro m18 xa xc hch hown hfr
    have hle18 : Le m17 m18 := (hch.mono (S' := fun _ => False) (fun b e => by cases e)).le
    have l18 := l17.trans hle18
    have h18 := hle18 _ _ h17
    have hp18 := hp17.le hle18
    rw [List.nil_append] at hown ⊢
    have hlen : (setsOf r).length = cnt r := rfl
    rw [hlen] at hown ⊢
    dsimp only [Cont]
    refine UnS.mk ?_
    refine LdV.s0 h18 (UnS.mk ?_)
    have e1 : p.sets.length = cnt r := by rw [ok.sets]; rfl
    rw [bne_f (by rw [e1])]
    unfold eyotlaw10_PlaceCounts.k1
    refine Br.f rfl ?_
    refine LdV.s3 h18 (UnS.mk ?_)
    rw [bne_f (by rw [ok.len])]
    unfold eyotlaw10_PlaceCounts.k2
    refine Br.f rfl ?_
    refine LdV.s1 h18 (UnS.mk ?_)
    refine rises_spec (by omega) hp18.cf ok.kfi ?_
    dsimp only [Cont]
    refine UnB.mk ?_
    unfold eyotlaw10_PlaceCounts.k3
    refine Br.f rfl ?_
    refine LdV.s2 h18 (UnS.mk ?_)
    refine rises_spec (by omega) hp18.cl ok.kla ?_
    dsimp only [Cont]
    refine UnB.mk ?_
    unfold eyotlaw10_PlaceCounts.k4
    refine Br.f rfl ?_
    refine LdV.s1 h18 (UnS.mk ?_)
    have n1 := ok.fi_some hf
    have n2 := ok.la_some hf
    rw [beq_f (by omega)]
    unfold eyotlaw10_PlaceCounts.k5
    refine Br.f rfl ?_
    refine LdV.s2 h18 (UnS.mk ?_)
    refine BrEf (by omega) ?_
    obtain ⟨fv, hfv, hrows⟩ := hp18.co
    refine ⟨fun N b o ya yl yc i mm => b = b4 ∧ o = 0 ∧ ya = xa ∧ yl = cnt r ∧ mm = m18 ∧ ∃ j : Nat, i = (j : Int) ∧ j ≤ cnt r ∧ N = cnt r - j, cnt r, ⟨rfl, rfl, rfl, rfl, rfl, 0, rfl, by omega, by omega⟩, ?_⟩
    rintro N b o ya yl yc i mm ⟨rfl, rfl, rfl, rfl, rfl, j, rfl, hj, rfl⟩
    unfold eyotlaw10_PlaceCounts.l6B
    refine BrD (fun hlt => ?_) (fun hge => ⟨rfl, l18⟩)
    have hjc : j < cnt r := by omega
    refine Sub.all ?_
    refine LdV.s0 h18 (UnS.mk ?_)
    have hjs : j < p.sets.length := by omega
    have hjo : j < (setsOf r).length := by omega
    refine IxS.set4 hp18.cs hjs rfl rfl ?_
    refine IxS.set4 hown.cells hjo rfl rfl ?_
    have es : p.sets[j] = (setsOf r)[j] := List.getElem_of_eq ok.sets hjs
    rw [es, eq4_refl]
    refine Br.f rfl ?_
    refine LdV.s3 h18 (UnS.mk ?_)
    refine IxS.row hfv hrows (by rw [ok.len]; exact hjc) rfl rfl ?_
    intro ra rc hrc
    refine rises_spec (by omega) hrc (ok.kfo _) ?_
    dsimp only [Cont]
    refine UnB.mk ?_
    refine Br.f rfl ?_
    refine ⟨cnt r - (j + 1), by omega, rfl, rfl, rfl, rfl, rfl, j + 1, ?_, by omega, rfl⟩
    rw [wi (by omega) (by omega)]; omega
end Go.E.Pl
namespace Go.E
open Go.H Go.E.Rg Go.E.Pl
theorem PlaceCounts_arg {W : World} {v : Value} (h : Arg P W T_sl_uint8 v) : HC P eyotlaw10_PlaceCounts.id #[v] (heapM W) (Pl.Fine (heapM W)) := by
  obtain ⟨a, l, c, bs2, rfl, hlc, hl2, hc, hc2⟩ := h.u8s (e := T_uint8) (by kernel_rfl) (by kernel_rfl)
  have e : (bs2.take l).length = l := by rw [List.length_take]; omega
  have := PlaceCounts_m (c := c) hc2
  rw [e] at this
  exact this
end Go.E
