/- Layer 7: DocReads. -/
import Derived.Test.YtjdkdeekniephaaDL5
set_option linter.unusedVariables false
set_option linter.unusedSimpArgs false
set_option maxRecDepth 20000
namespace Go.E
open Go.H Go.E.Pz
attribute [local irreducible] BiN MkS ConvN LookN MapUpN CallV HC

theorem eBl : ElemOK P T_sl_bool T_bool (.bool false) 1 1 := .of (by kernel_rfl) (by kernel_rfl) rfl
/-- Does a page hold one of these bytes? -/
def hq (w : Nat) (S : List (Bool × Int)) (q : Nat) : Bool := S.any fun x => !x.1 && (x.2.toNat / w == q)
def hqL (w : Nat) (S : List (Bool × Int)) : List Value := (List.range 300).map fun q => Value.bool (hq w S q)
theorem hqL_get {w : Nat} {S : List (Bool × Int)} {q : Nat} (h : q < 300) : (hqL w S)[q]? = some (.bool (hq w S q)) := by
  unfold hqL
  rw [List.getElem?_map, List.getElem?_range h]; rfl
theorem hqL_len (w : Nat) (S : List (Bool × Int)) : (hqL w S).length = 300 := by simp [hqL]
theorem hq_app (w : Nat) (S : List (Bool × Int)) (x : Bool × Int) (q : Nat) : hq w (S ++ [x]) q = (hq w S q || (!x.1 && (x.2.toNat / w == q))) := by simp [hq]
theorem hqL_skip {w : Nat} {S : List (Bool × Int)} {x : Bool × Int} (h : x.1 = true) : hqL w (S ++ [x]) = hqL w S := by
  unfold hqL
  apply List.map_congr_left
  intro q _
  rw [hq_app, h]; simp
theorem hqL_step {w : Nat} {S : List (Bool × Int)} {x : Bool × Int} (h : x.1 = false) : (hqL w S).set (x.2.toNat / w) (.bool true) = hqL w (S ++ [x]) := by
  apply List.ext_getElem?
  intro q
  rw [List.getElem?_set, hqL_len]
  by_cases hq3 : q < 300
  · rw [hqL_get hq3, hqL_get hq3, hq_app, h]
    by_cases e : x.2.toNat / w = q
    · rw [if_pos e, if_pos (by omega)]; simp [e]
    · rw [if_neg e]
      have : (x.2.toNat / w == q) = false := by simpa using e
      simp [this]
  · rw [List.getElem?_eq_none (by rw [hqL_len]; omega), List.getElem?_eq_none (by rw [hqL_len]; omega)]
    split
    · rw [if_neg (by omega)]
    · rfl
section
variable {m ms mm m' : Mem} {F G F' G' T Fr : Nat → Prop} {bd bf bp bt br : Nat} {base : List UInt8} {w : Nat} {f f2 : Int → Bool} {log log2 : List Int} {most : Int} {ks ks2 : List Int} {ps : List Pc} {ad : List UInt8} {B : Nat} {R : Ending → Mem → Prop}
theorem hq_iff {n : Nat} (hw : 1 ≤ w) {qs : List Pc} (h : ∀ p ∈ qs, p.Ok) (hi : ∀ x ∈ byt qs, 0 ≤ x.2) {q : Nat} : hq w (byt qs) q = true ↔ (q : Int) ∈ fpg w qs := by
  rw [fpg_iff hw h]
  unfold hq
  rw [List.any_eq_true]
  constructor
  · rintro ⟨x, hx, he⟩
    simp only [Bool.and_eq_true, Bool.not_eq_true', beq_iff_eq] at he
    have h0 := hi x hx
    refine ⟨x.2.toNat, ?_, by rw [he.2]⟩
    have : x = (false, ((x.2.toNat : Nat) : Int)) := by rw [Prod.ext_iff]; exact ⟨he.1, by simp only; omega⟩
    rw [← this]; exact hx
  · rintro ⟨i, hi2, he⟩
    refine ⟨_, hi2, ?_⟩
    simp only [Bool.and_eq_true, Bool.not_eq_true', beq_iff_eq, Int.toNat_natCast]
    exact ⟨trivial, (Int.ofNat_inj.mp he).symm⟩

/-- Behind Bytes. -/
theorem DocReads_tail (hmm : Le m ms) (hw1 : 1 ≤ w) (hi : Ins base.length ad (byt ps)) (gd : Gd B ps ad) (hbase : base.length ≤ 200) (hbl : (byt ps).length ≤ 2000) (hr : Rt ms Fr br (byt ps) ad) {Fp : Nat → Prop} (p : Pg ms Fp bp base (w : Int) f log) (hlog : log.length ≤ 10000)
    {a z : Nat} (haz : a ≤ z) (hz : z ≤ (byt ps).length) {bad : Int} {ok : Bool} (hsub : ∀ x ∈ log, x ∈ fpg w (cutL (a : Int) (z : Int) 0 ps)) (hok : ok = true ↔ bad ∉ fpg w (cutL (a : Int) (z : Int) 0 ps))
    {ba : Option Addr} {bc : Nat} (hb : CellsAt ms ba (u8s base)) {sa : Option Addr} {sl sc : Nat} {e : Int} (hres : (ok = false ∧ sl = 0 ∧ e = 11) ∨ (ok = true ∧ e = 0 ∧ ∃ row, row = ((spl base ad (byt ps)).take z).drop a ∧ row.length = sl ∧ CellsAt ms sa (u8s row)))
    {hb0 : Nat} (hnew : ms hb0 = none) :
    eyotlaw7_DocReads.l3 ba base.length bc (a : Int) (z : Int) bad (w : Int) (some ⟨bp, 0, none⟩) (some ⟨br, 0, none⟩) sa sl sc e (some ⟨hb0, 0, none⟩) 300 300 (a : Int) (Fine m) (ms.set hb0 (.cells (hqL w []).toArray T_bool (0, 0))) := by
  have hpo : ∀ p ∈ ps, p.Ok := fun p hp => (gd.ok p hp).1
  obtain ⟨⟨la, ll, lc, aa, al, ac, g1, g2, g3, g4, g5, g6, g7, g8⟩, lv⟩ := hr
  subst g3
  refine ⟨fun N x0a x0l x0c x3 x4 x5 x13 x14 x17 x22a x22l x22c x23 x24a x24l x24c x25 mm => x0a = ba ∧ x0l = base.length ∧ x0c = bc ∧ x3 = (a : Int) ∧ x4 = (z : Int) ∧ x5 = bad ∧ x13 = (w : Int) ∧ x14 = some ⟨bp, 0, none⟩ ∧ x17 = some ⟨br, 0, none⟩ ∧ x22a = sa ∧ x22l = sl ∧ x22c = sc ∧ x23 = e ∧ x24a = some ⟨hb0, 0, none⟩ ∧ x24l = 300 ∧ x24c = 300 ∧
    ∃ j : Nat, x25 = (j : Int) ∧ a ≤ j ∧ j ≤ z ∧ N = z - j ∧ mm = ms.set hb0 (.cells (hqL w (((byt ps).take j).drop a)).toArray T_bool (0, 0)), z - a,
    ⟨rfl, rfl, rfl, rfl, rfl, rfl, rfl, rfl, rfl, rfl, rfl, rfl, rfl, rfl, rfl, rfl, a, rfl, Nat.le_refl _, haz, rfl, by rw [List.drop_eq_nil_of_le (by rw [List.length_take]; omega)]⟩, ?_⟩
  rintro N x0a x0l x0c x3 x4 x5 x13 x14 x17 x22a x22l x22c x23 x24a x24l x24c x25 mm ⟨rfl, rfl, rfl, rfl, rfl, rfl, rfl, rfl, rfl, rfl, rfl, rfl, rfl, rfl, rfl, rfl, j, rfl, haj, hjz, rfl, rfl⟩
  unfold eyotlaw7_DocReads.l3B
  have hle : ∀ o, Le ms (ms.set hb0 o) := fun o => Le.set hnew o
  refine BrD (fun hlt => ?_) (fun hge => ?_)
  · have hjl : j < (byt ps).length := by omega
    have hg := List.getElem?_eq_getElem hjl
    obtain ⟨x, hx⟩ : ∃ x, x = (byt ps)[j] := ⟨_, rfl⟩
    rw [← hx] at hg
    have hix := hi x (List.mem_of_getElem? hg)
    have hnext : ((byt ps).take (j + 1)).drop a = ((byt ps).take j).drop a ++ [x] := by
      rw [List.take_add_one, hg, Option.toList_some, List.drop_append, List.length_take, show a - min j (byt ps).length = 0 by omega]; rfl
    have ew : IntKind.i64.wrap ((j : Int) + 1) = ((j + 1 : Nat) : Int) := by rw [wi (by omega) (by omega)]; omega
    have rd : ∀ {o} {K : Nat → Nat → Prop}, (∀ b o', (ms.set hb0 o).cell b o' = some (.bool x.1) → (ms.set hb0 o).cell b (o' + 1) = some (.int .i64 x.2) → K b o') → IxS la (byt ps).length (j : Int) 2 K := by
      intro o K k
      refine IxS.rbs (g2.cells.le (hle o)) rfl (by omega) (by omega) ?_
      intro b o' y hy d1 d2
      rw [Int.toNat_natCast, hg] at hy
      cases hy
      exact k b o' d1 d2
    refine LdV.s0 (hle _ _ _ g1) (UnS.mk ?_)
    refine rd fun b o d1 d2 => LdV.mk d1 (UnB.mk ?_)
    refine Br.mk (fun hxa => ?_) (fun hxa => ?_)
    · have hxf : x.1 = false := by simpa using hxa
      rw [hxf] at hix
      simp only [Bool.false_eq_true, if_false] at hix
      refine LdV.s0 (hle _ _ _ g1) (UnS.mk ?_)
      refine rd fun b o d1 d2 => LdV.mk d2 (UnI.mk ?_)
      refine NzI.mk (by omega) ?_
      have hdl := Nat.div_le_self x.2.toNat w
      have hdiv : IntKind.i64.wrap (Int.tdiv x.2 (w : Int)) = ((x.2.toNat / w : Nat) : Int) := by
        have h1 : x.2 = ((x.2.toNat : Nat) : Int) := by omega
        rw [h1, Int.tdiv_eq_ediv_of_nonneg (by omega), Int.toNat_natCast]
        have h2 : ((x.2.toNat : Nat) : Int) / (w : Int) = ((x.2.toNat / w : Nat) : Int) := (Int.natCast_ediv _ _).symm
        rw [h2]
        generalize x.2.toNat / w = y at hdl
        rw [wi (by omega) (by omega)]
      rw [hdiv]
      refine IxS.st (set_same _ _ _) (Int.natCast_nonneg _) (by generalize x.2.toNat / w = y at hdl ⊢; omega) (by rw [List.size_toArray, hqL_len]; exact Nat.le_refl _) rfl ?_
      rw [set_set, Int.toNat_natCast, List.setIfInBounds_toArray, hqL_step hxf, ← hnext, ew]
      exact ⟨z - (j + 1), by omega, rfl, rfl, rfl, rfl, rfl, rfl, rfl, rfl, rfl, rfl, rfl, rfl, rfl, rfl, rfl, rfl, j + 1, rfl, by omega, by omega, rfl, rfl⟩
    · have hxt : x.1 = true := by simpa using hxa
      rw [ew]
      exact ⟨z - (j + 1), by omega, rfl, rfl, rfl, rfl, rfl, rfl, rfl, rfl, rfl, rfl, rfl, rfl, rfl, rfl, rfl, rfl, j + 1, rfl, by omega, by omega, rfl, by rw [hnext, hqL_skip hxt]⟩
  have hje : j = z := by omega
  subst hje
  have hS : ((byt ps).take j).drop a = byt (cutL (a : Int) (j : Int) 0 ps) := by
    rw [cut_bytes hpo]; simp
  rw [hS]
  have hco : ∀ q ∈ cutL (a : Int) (j : Int) 0 ps, q.Ok := cut_ok hpo
  have hci : ∀ x ∈ byt (cutL (a : Int) (j : Int) 0 ps), 0 ≤ x.2 := by
    intro x hx
    rw [cut_bytes hpo] at hx
    exact (hi x (List.mem_of_mem_take (List.mem_of_mem_drop hx))).1
  have hqi : ∀ {q : Nat}, hq w (byt (cutL (a : Int) (j : Int) 0 ps)) q = true ↔ (q : Int) ∈ fpg w (cutL (a : Int) (j : Int) 0 ps) := hq_iff (n := 0) hw1 hco hci
  have hlow : ∀ x ∈ fpg w (cutL (a : Int) (j : Int) 0 ps), 0 ≤ x ∧ x < 300 := by
    intro x hx
    obtain ⟨i, h1, rfl⟩ := (fpg_iff hw1 hco).mp hx
    rw [cut_bytes hpo] at h1
    have h2 := (hi _ (List.mem_of_mem_take (List.mem_of_mem_drop h1))).2
    simp only [Bool.false_eq_true, if_false] at h2
    have h3 := Nat.div_le_self i w
    generalize i / w = y at h3 ⊢
    omega
  generalize hobj : Obj.cells (hqL w (byt (cutL (a : Int) (j : Int) 0 ps))).toArray T_bool (0, 0) = obj
  have hle0 := hle obj
  have hcell : CellsAt (ms.set hb0 obj) (some ⟨hb0, 0, none⟩) (hqL w (byt (cutL (a : Int) (j : Int) 0 ps))) := cells_at (c := (hqL w (byt (cutL (a : Int) (j : Int) 0 ps))).toArray) (e := T_bool) (x := (0, 0)) (by rw [set_same, ← hobj]) rfl
  have hp1 : Pg (ms.set hb0 obj) Fp bp base (w : Int) f log := p.le hle0
  unfold eyotlaw7_DocReads.k4
  refine Reads_spec hp1 (by omega) ?_
  intro ra rc m2 hle2 hro hrf
  dsimp only [Cont]
  refine UnS.mk ?_
  have hle3 := hle0.trans hle2
  have hcell2 := hcell.le hle2
  have rdq : ∀ {q : Nat} {K : Value → Prop}, q < 300 → K (.bool (hq w (byt (cutL (a : Int) (j : Int) 0 ps)) q)) → IxS (some ⟨hb0, 0, none⟩) 300 (q : Int) 1 (fun b o => LdV m2 b o K) := by
    intro q K h k
    refine IxS.ld hcell2 (hqL_len _ _) (by omega) (by omega) ?_
    intro v hv
    rw [Int.toNat_natCast, hqL_get h] at hv
    cases hv; exact k
  refine ⟨fun N y0a y0l y0c y3 y4 y5 y17 y22a y22l y22c y23 y24a y24l y24c y26a y26l y26c y27 mm => y0a = x0a ∧ y0l = base.length ∧ y0c = x0c ∧ y3 = (a : Int) ∧ y4 = (j : Int) ∧ y5 = x5 ∧ y17 = some ⟨br, 0, none⟩ ∧ y22a = x22a ∧ y22l = x22l ∧ y22c = x22c ∧ y23 = x23 ∧ y24a = some ⟨hb0, 0, none⟩ ∧ y24l = 300 ∧ y24c = 300 ∧ y26a = ra ∧ y26l = log.length ∧ y26c = rc ∧ mm = m2 ∧ ∃ i : Nat, y27 = (i : Int) ∧ i ≤ log.length ∧ N = log.length - i, log.length,
    ⟨rfl, rfl, rfl, rfl, rfl, rfl, rfl, rfl, rfl, rfl, rfl, rfl, rfl, rfl, rfl, rfl, rfl, rfl, 0, rfl, by omega, by omega⟩, ?_⟩
  rintro N y0a y0l y0c y3 y4 y5 y17 y22a y22l y22c y23 y24a y24l y24c y26a y26l y26c y27 mm ⟨rfl, rfl, rfl, rfl, rfl, rfl, rfl, rfl, rfl, rfl, rfl, rfl, rfl, rfl, rfl, rfl, rfl, rfl, i, rfl, hil, rfl⟩
  unfold eyotlaw7_DocReads.l5B
  refine BrD (fun hlt => ?_) (fun hge => ?_)
  · have hg := List.getElem?_eq_getElem (l := log) (i := i) (by omega)
    obtain ⟨x, hx⟩ : ∃ x, x = log[i]'(by omega) := ⟨_, rfl⟩
    rw [← hx] at hg
    have hm := hsub x (List.mem_of_getElem? hg)
    obtain ⟨q, rfl⟩ : ∃ q : Nat, x = (q : Int) := ⟨x.toNat, by have := (hlow x hm).1; omega⟩
    have hq3 := (hlow _ hm).2
    have rx : ∀ {K : Value → Prop}, K (.int .i64 (q : Int)) → IxS y26a log.length (i : Int) 1 (fun b o => LdV mm b o K) := by
      intro K k
      refine IxS.ints hro.cells rfl (by omega) (by omega) ?_
      intro y hy
      rw [Int.toNat_natCast, hg] at hy
      cases hy; exact k
    refine rx (UnI.mk ?_)
    refine BrDf (by omega) ?_
    refine rx (UnI.mk ?_)
    refine BrDf (by omega) ?_
    refine rx (UnI.mk ?_)
    refine rdq (by omega) (UnB.mk ?_)
    rw [hqi.mpr hm]
    refine Br.f rfl ?_
    refine ⟨log.length - (i + 1), by omega, rfl, rfl, rfl, rfl, rfl, rfl, rfl, rfl, rfl, rfl, rfl, rfl, rfl, rfl, rfl, rfl, rfl, rfl, i + 1, ?_, by omega, rfl⟩
    rw [wi (by omega) (by omega)]; omega
  have k7 : ∀ fails : Bool, (fails = true ↔ y5 ∈ fpg w (cutL (a : Int) (j : Int) 0 ps)) → eyotlaw7_DocReads.k7 y0a base.length y0c (a : Int) (j : Int) (some ⟨br, 0, none⟩) y22a y22l y22c y23 fails (Fine m) mm := by
    intro fails hf
    unfold eyotlaw7_DocReads.k7
    rcases hres with ⟨h1, rfl, rfl⟩ | ⟨h1, rfl, row, hrow, rfl, ho⟩
    · have : fails = true := by
        rw [hf]
        by_cases hh : y5 ∈ fpg w (cutL (a : Int) (j : Int) 0 ps)
        · exact hh
        · have := hok.mpr hh
          rw [h1] at this; cases this
      rw [this]
      refine Br.t rfl ?_
      refine BrEt rfl ?_
      exact ⟨rfl, hmm.trans hle3⟩
    · have : fails = false := by
        cases fails with
        | false => rfl
        | true => exact absurd (hf.mp rfl) (hok.mp h1)
      rw [this]
      refine Br.f rfl ?_
      have hr2 : Rt mm Fr br (byt ps) ad := Rt.le hle3 ⟨⟨la, _, lc, aa, al, ac, g1, g2, rfl, g4, g5, g6, g7, g8⟩, lv⟩
      refine Spell_spec hr2 (hb.le hle3) hi (by omega) ?_
      intro na nc m3 hle4 hna hfna
      dsimp only [Cont]
      refine UnS.mk ?_
      refine ⟨m3, Le.refl _, ?_⟩
      refine BrEt rfl ?_
      refine ⟨row, rfl, ho.le (hle3.trans hle4), ?_⟩
      have hcap := hna.cap
      refine ⟨by omega, by omega, by omega, ?_⟩
      have hsub2 := CellsAt.sub (sz := 1) (lo := a) (hi := j) (c := nc) hna.cells (by rw [u8s_len, spl_len]; omega) (by omega)
      have hnew2 : ((u8s (spl base ad (byt ps))).take (j * 1)).drop (a * 1) = u8s row := by
        rw [hrow, Nat.mul_one, Nat.mul_one]; simp [u8s]
      rw [hnew2] at hsub2
      refine ⟨row, ?_, hsub2, ?_⟩
      · rw [hrow, List.length_drop, List.length_take, spl_len]; omega
      exact ⟨by rw [beq_self_eq_true], hmm.trans (hle3.trans hle4)⟩
  unfold eyotlaw7_DocReads.k6
  refine BrD (fun h1 => ?_) (fun h1 => k7 false ⟨(fun h => by cases h), (fun h => by have := (hlow _ h).1; omega)⟩)
  refine BrD (fun h2 => ?_) (fun h2 => k7 false ⟨(fun h => by cases h), (fun h => by have := (hlow _ h).2; omega)⟩)
  obtain ⟨q, rfl⟩ : ∃ q : Nat, y5 = (q : Int) := ⟨y5.toNat, by omega⟩
  refine rdq (by omega) (UnB.mk ?_)
  exact k7 _ hqi
end

theorem DocReads_m {m : Mem} {a : Option Addr} {l c : Nat} {bs : List UInt8} {n1 : Nat} {oa : Option Addr} {oc : Nat} {os : List OpC} {v3 v4 v5 : Int} (hc : CellsAt m a (u8s bs)) (hl : bs.length = l) (h1 : n1 < 256) (hops : OpsAt m oa os) :
    HC P eyotlaw7_DocReads.id #[.slice a l c, .int .u8 (n1 : Int), .slice oa os.length oc, .int .i64 v3, .int .i64 v4, .int .i64 v5] m (Fine m) := by
  refine eyotlaw7_DocReads.ok _ _ _ _ _ _ _ _ _ _ _ _ ?_
  refine begun_spec ?_
  intro m1 hle1
  dsimp only [Cont]
  refine UnB.mk ?_
  refine Br.f rfl ?_
  refine BrD (fun _ => ⟨rfl, hle1⟩) (fun hb1 => ?_)
  refine BrD (fun _ => ⟨rfl, hle1⟩) (fun hb2 => ?_)
  have w1 : ∀ n : Nat, n < 256 → IntKind.i64.wrap ((n : Nat) : Int) = (n : Int) := fun n h => wi (by omega) (by omega)
  rw [w1 n1 h1]
  have e1 : IntKind.i64.wrap (1 + Int.tmod (n1 : Int) 20) = ((1 + n1 % 20 : Nat) : Int) := by
    rw [show (20 : Int) = ((20 : Nat) : Int) from rfl, tmod_nat, wi (by omega) (by omega)]; omega
  rw [e1]
  have hw1 : 1 ≤ 1 + n1 % 20 := by omega
  generalize hw' : 1 + n1 % 20 = w at hw1
  subst hl
  refine New_spec (hc.le hle1) rfl (fun h => by omega) ?_
  intro _ _ _ bp Fp m2 hle2 hfp p
  refine TS.new (ms := m2) (n := ((bs.length : Nat) : Int)) (B := 200) (by omega) (by decide) ?_
  intro bt T m3 hS
  dsimp only [Cont]
  refine UnP.mk ?_
  have hm2 := hle1.trans hle2
  refine NewText_spec (by omega) ?_
  intro br Fr m4 hle4 hFr hr
  dsimp only [Cont]
  refine UnP.mk ?_
  have hbyt : byt (newL ((bs.length : Nat) : Int)) = newR ((bs.length : Nat) : Int) := by
    unfold newL newR
    split
    · rw [byt_cons, show byt [] = [] from rfl, List.append_nil]
      unfold Pc.bytes
      simp
    · rw [show ((bs.length : Nat) : Int).toNat = 0 by omega]; rfl
  rw [← hbyt] at hr
  have hB0 : Bo m2 m4 T Fr bt br (newL ((bs.length : Nat) : Int)) [] 200 := ⟨hS.up hle4, hr, fun b e => hS.le.new (hFr b e), fun b e1 e2 => hS.tx.lv b e1 (hFr b e2)⟩
  have hi0 : Ins bs.length [] (byt (newL ((bs.length : Nat) : Int))) := ins_new _ []
  have hops2 : OpsAt m2 oa os := hops.le hm2
  refine ⟨fun N x0a x0l x0c x2a x2l x2c x3 x4 x5 x13 x14 x15 x16 x17 x18 mm => x0a = a ∧ x0l = bs.length ∧ x0c = c ∧ x2a = oa ∧ x2l = os.length ∧ x2c = oc ∧ x3 = v3 ∧ x4 = v4 ∧ x5 = v5 ∧ x13 = (w : Int) ∧ x14 = some ⟨bp, 0, none⟩ ∧ x15 = 0 ∧ x16 = some ⟨bt, 0, none⟩ ∧ x17 = some ⟨br, 0, none⟩ ∧
    ∃ (j : Nat) (T Fr : Nat → Prop) (ps : List Pc) (ad : List UInt8), x18 = (j : Int) ∧ j ≤ os.length ∧ N = os.length - j ∧ Bo m2 mm T Fr bt br ps ad (200 + 100 * j) ∧ Ins bs.length ad (byt ps), os.length,
    ⟨rfl, rfl, rfl, rfl, rfl, rfl, rfl, rfl, rfl, rfl, rfl, rfl, rfl, rfl, 0, T, Fr, _, _, rfl, by omega, by omega, hB0, hi0⟩, ?_⟩
  clear hB0 hi0 hr hFr hle4 hS hbyt
  rintro N x0a x0l x0c x2a x2l x2c x3 x4 x5 x13 x14 x15 x16 x17 x18 mm ⟨rfl, rfl, rfl, rfl, rfl, rfl, rfl, rfl, rfl, rfl, rfl, rfl, rfl, rfl, j, T, Fr, ps, ad, rfl, hj, rfl, hbo, hi⟩
  unfold eyotlaw7_DocReads.l1B
  refine BrD (fun hlt => ?_) (fun hge => ?_)
  · refine edits_body hbo hi hops2 (by omega) (by omega) ⟨rfl, hm2.trans hbo.t.le⟩ ?_
    intro T' Fr' m' ps' ad' hbo' hi'
    refine ⟨os.length - (j + 1), by omega, rfl, rfl, rfl, rfl, rfl, rfl, rfl, rfl, rfl, rfl, rfl, rfl, rfl, rfl, j + 1, T', Fr', ps', ad', ?_, by omega, rfl, hbo', hi'⟩
    rw [wi (by omega) (by omega)]; omega
  unfold eyotlaw7_DocReads.k2
  refine BrNf rfl ?_
  refine Br.f rfl ?_
  have p5 := p.le hbo.t.le
  have hSm := TS.base' hbo.t hm2
  refine DT.new (B0 := 0) (w := w) p5 hSm (fun b e => hle1.new (hfp b e)) (fun b e x => p.lv b x (hbo.t.fr b e)) hi ?_
  intro bd bf F G m6 hle6 hFn hD
  dsimp only [Cont]
  refine UnP.mk ?_
  have gl := hbo.t.gd.len
  have hr6 := hbo.r.le hle6
  have hFrF : ∀ b, Fr b → ¬ F b := fun b e x => (hFn b x).elim (fun y => p.lv b y (hbo.fr b e)) (fun y => hbo.r.lv b e y)
  have hr6' := hr6
  obtain ⟨⟨la, ll, lc, aa, al, ac, g1, g2, g3, g4, g5, g6, g7, g8⟩, lv⟩ := hr6'
  subst g3
  refine LdV.s0 g1 (UnS.mk ?_)
  rw [wi (n := (((byt ps).length : Nat) : Int) + 1) (by omega) (by omega)]
  refine Place_spec (by omega) (by omega) ?_
  intro x hx0 hx1
  dsimp only [Cont]
  refine UnI.mk ?_
  refine LdV.s0 g1 (UnS.mk ?_)
  rw [wi (n := (((byt ps).length : Nat) : Int) - x) (by omega) (by omega), wi (n := (((byt ps).length : Nat) : Int) - x + 1) (by omega) (by omega)]
  refine Place_spec (by omega) (by omega) ?_
  intro y hy0 hy1
  dsimp only [Cont]
  refine UnI.mk ?_
  intro b147 hb147
  have hle7 := Le.set hb147 (.cells #[.int .i64 x5] T_int (0, 0))
  have hD7 := hD.up hle7
  have hr7 := hr6.le hle7
  refine hD7.ft.fault (ls := [x5]) (cells_at (set_same _ _ _) rfl) rfl (by decide) (fun b e => by cases e; exact ⟨fun z => hD.dx.fl.lv b147 (.inl z) hb147, by rw [set_same]; simp⟩) ?_
  intro F8 m8 ch8 gF8 hf8
  have hD8 := hD7.fnext ch8 gF8 hf8
  have hr8 := hr7.chg ch8 hFrF
  have hFrF8 := sep_step (F := F) (F' := F8) (G := Fr) (fun b e z => hFrF b z e) gF8 hr7.lv
  dsimp only [Cont]
  refine hD8.ft.clear ?_
  intro F9 m9 ch9 gF9 hf9
  have hD9 := hD8.fnext ch9 gF9 hf9
  have hr9 := hr8.chg ch9 (fun b e z => hFrF8 b z e)
  have hFrF9 := sep_step (F := F8) (F' := F9) (G := Fr) hFrF8 gF9 hr8.lv
  dsimp only [Cont]
  rw [wi (n := x + y) (by omega) (by omega)]
  obtain ⟨a', rfl⟩ : ∃ a' : Nat, x = (a' : Int) := ⟨x.toNat, by omega⟩
  obtain ⟨z', hz'⟩ : ∃ z' : Nat, (a' : Int) + y = (z' : Int) := ⟨((a' : Int) + y).toNat, by omega⟩
  rw [hz']
  obtain ⟨ks', log', ok, hgo⟩ : ∃ ks' log' ok, goP (fun x => ([x5] : List Int).contains x) 50 (fpg w (cutL (a' : Int) (z' : Int) 0 ps)) [] [] = (ks', log', ok) := ⟨_, _, _, rfl⟩
  have hfail := goP_fails (f := fun x => ([x5] : List Int).contains x) (most := 50) (fpg w (cutL (a' : Int) (z' : Int) 0 ps)) [] [] (fun k hk => by cases hk)
  have hsub := goP_sub (f := fun x => ([x5] : List Int).contains x) (most := 50) (fpg w (cutL (a' : Int) (z' : Int) 0 ps)) [] []
  have hlen := goP_len (f := fun x => ([x5] : List Int).contains x) (most := 50) (fpg w (cutL (a' : Int) (z' : Int) 0 ps)) [] []
  rw [hgo] at hfail hsub hlen
  simp only at hfail hsub hlen
  have hpo : ∀ p ∈ ps, p.Ok := fun p hp => (hbo.t.gd.ok p hp).1
  have hfl := fpg_len hw1 (cut_ok (lo := (a' : Int)) (hi := (z' : Int)) (k := 0) hpo)
  rw [cut_bytes hpo, List.length_drop, List.length_take] at hfl
  have hok : ok = true ↔ x5 ∉ fpg w (cutL (a' : Int) (z' : Int) 0 ps) := by
    rw [hfail]
    constructor
    · intro h hm
      have := h x5 hm
      simp at this
    · intro h i hm
      have : i ≠ x5 := fun e => h (e ▸ hm)
      simpa using this
  have hsub2 : ∀ x ∈ log', x ∈ fpg w (cutL (a' : Int) (z' : Int) 0 ps) := fun x hx => (hsub x hx).elim (fun h => by cases h) id
  refine DBytes_spec hD9.dx (a := a') (b := z') (by omega) (by omega) (by simp) hgo ?_ ?_
  · intro ho F10 G10 m10 sa sc ch10 gF10 gG10 _ hd10 own10 fr10
    have hD10 := hD9.next ch10 gF10 gG10 hd10
    have hr10 := hr9.chg ch10 (fun b e z => hFrF9 b z e)
    refine make_one eBl rfl (by decide) (by decide) (by decide) (by decide) ?_
    intro hb0 hnew
    refine UnS.mk ?_
    obtain ⟨Fq, hp10, _⟩ := hD10.dx.fl.pages
    have hcells : (List.replicate (300 : Int).toNat (Value.bool false)) = hqL w [] := by
      unfold hqL hq; simp; rfl
    rw [hcells]
    refine DocReads_tail hD10.le hw1 hi hbo.t.gd (by omega) (by omega) hr10 hp10 (by simp at hlen; omega) (by omega) (by omega) hsub2 hok (hc.le hD10.le) (.inr ⟨ho, rfl, _, rfl, ?_, own10.cells⟩) hnew
    rw [List.length_drop, List.length_take, spl_len]; omega
  · intro ho F10 G10 m10 ch10 gF10 gG10 _ hd10
    have hD10 := hD9.next ch10 gF10 gG10 hd10
    have hr10 := hr9.chg ch10 (fun b e z => hFrF9 b z e)
    refine make_one eBl rfl (by decide) (by decide) (by decide) (by decide) ?_
    intro hb0 hnew
    refine UnS.mk ?_
    obtain ⟨Fq, hp10, _⟩ := hD10.dx.fl.pages
    have hcells : (List.replicate (300 : Int).toNat (Value.bool false)) = hqL w [] := by
      unfold hqL hq; simp; rfl
    rw [hcells]
    exact DocReads_tail hD10.le hw1 hi hbo.t.gd (by omega) (by omega) hr10 hp10 (by simp at hlen; omega) (by omega) (by omega) hsub2 hok (hc.le hD10.le) (.inl ⟨ho, rfl, rfl⟩) hnew
theorem DocReads_arg {W : World} {v0 v1 v2 v3 v4 v5 : Value} (a0 : Arg P W T_sl_uint8 v0) (a1 : Arg P W T_uint8 v1) (a2 : Arg P W T_sl_eyotlaw6_Op v2) (a3 : Arg P W T_int v3) (a4 : Arg P W T_int v4) (a5 : Arg P W T_int v5) :
    HC P eyotlaw7_DocReads.id #[v0, v1, v2, v3, v4, v5] (heapM W) (Fine (heapM W)) := by
  obtain ⟨a, l, c, bs, rfl, hlc, hl, _, hx⟩ := a0.u8s (e := T_uint8) (by kernel_rfl) (by kernel_rfl)
  obtain ⟨n1, rfl, h1⟩ := num8 a1
  obtain ⟨oa, oc, os, rfl, hops⟩ := arg_ops a2
  obtain ⟨n3, rfl, _⟩ := a3.int (k := .i64) (by kernel_rfl)
  obtain ⟨n4, rfl, _⟩ := a4.int (k := .i64) (by kernel_rfl)
  obtain ⟨n5, rfl, _⟩ := a5.int (k := .i64) (by kernel_rfl)
  exact DocReads_m hx (by rw [List.length_take]; omega) h1 hops
end Go.E
