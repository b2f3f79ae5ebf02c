/- This project's own logic, printed forms and lemmas, as far as this claim needs them (part 4). -/
import Derived.Test.YthabagojnljbpaaQPlaceSpells3
set_option linter.unusedVariables false
set_option linter.unusedSimpArgs false
set_option maxRecDepth 20000
namespace Go.E.Pl
open Go.H Go.E Go.E.Rg
attribute [local irreducible] BiN MkS ConvN LookN MapUpN CallV HC
/-- What a walk hands on. -/
def KW (T : TypeId) (F0 : Nat → Prop) (m0 V0 : Mem) (pb : Nat) (q : Part) (st' : Sta) (R : Ending → Mem → Prop) : Prop :=
  ∀ (m' V' : Mem) (sa : Option Addr) (sc : Nat) (fa : Option Addr) (fc : Nat) (fv : List Value) (a : Option Addr) (c : Nat) (a' : Option Addr) (c' : Nat), PSt T m' V' pb st' sa sc fa fc fv → Gone F0 m0 V0 (Ft pb sa fa) m' V' →
    CellsAt V' a (ints (ns q.fi)) → CellsAt V' a' (ints (ns q.la)) → R (.returned (.agg #[.slice a q.fi.length c, .slice a' q.la.length c', .bool q.nu])) m'
def WalkS (r : Rx) : Prop := ∀ {m V : Mem} {pb : Nat} {st : Sta} {sa : Option Addr} {sc : Nat} {fa : Option Addr} {fc : Nat} {fv : List Value} {n : Nat} {v : Value} {R : Ending → Mem → Prop},
  PSt T_place_Places m V pb st sa sc fa fc fv → StB n st → n + cnt r ≤ 10000 → ArgC V r v → KW T_place_Places (Ft pb sa fa) m V pb (wk also r st).1 (wk also r st).2 R →
    HC P place_Places_walk.id #[.pointer (some ⟨pb, 0, none⟩), rxA r.k r.S v] m R
section
variable {T : TypeId} {m0 V0 m V : Mem} {F0 : Nat → Prop} {pb : Nat} {st : Sta} {sa : Option Addr} {sc : Nat} {fa : Option Addr} {fc : Nat} {fv : List Value} {n : Nat}
/-- Both rows have grown by one. -/
theorem PSt.grow (h : PSt T m V pb st sa sc fa fc fv) (hB : StB n st) {S : Nat → Bool} {m10 : Mem} (hch : Chg (fun b => blk sa = some b ∨ blk fa = some b) m m10) {sa' : Option Addr} {sc' : Nat} {fa' : Option Addr} {fc' : Nat}
    (hos : Own m10 T_api_Set 4 sa' (n + 1) sc' (st.sets.flatMap four ++ four S)) (hof : Own m10 T_sl_int 1 fa' (n + 1) fc' (fv ++ [.slice none 0 0])) (hsa : blk sa' = blk sa ∨ Fresh m sa') (hfa : blk fa' = blk fa ∨ Fresh m fa') (hsf : ∀ b, blk sa' = some b → blk fa' ≠ some b) {K : Mem → Prop}
    (k : ∀ m', PSt T m' V pb ⟨st.sets ++ [S], st.fol ++ [[]]⟩ sa' sc' fa' fc' (fv ++ [.slice none 0 0]) → Gone (Ft pb sa fa) m V (Ft pb sa' fa') m' V → K m') :
    St1 m10 pb 0 (.slice sa' (n + 1) sc') fun m11 => St1 m11 pb (0 + 3) (.slice fa' (n + 1) fc') K := by
  have hobj := hch.eq _ _ h.obj (fun e => by rcases e with e | e; exact h.s1 e; exact h.f1 e)
  have hmp : m pb ≠ none := by rw [h.obj]; simp
  have s1 : blk sa' ≠ some pb := fun e => by
    rcases hsa with e2 | e2
    · rw [e2] at e; exact h.s1 e
    · exact hmp (e2 pb e)
  have f1 : blk fa' ≠ some pb := fun e => by
    rcases hfa with e2 | e2
    · rw [e2] at e; exact h.f1 e
    · exact hmp (e2 pb e)
  have hft : ∀ b, Ft pb sa' fa' b → Ft pb sa fa b ∨ m b = none := by
    rintro b (rfl | e | e)
    · exact .inl (.inl rfl)
    · rcases hsa with e2 | e2
      · exact .inl (.inr (.inl (by rw [← e2]; exact e)))
      · exact .inr (e2 b e)
    · rcases hfa with e2 | e2
      · exact .inl (.inr (.inr (by rw [← e2]; exact e)))
      · exact .inr (e2 b e)
  refine St1.to #[.slice sa' (n + 1) sc', .slice none 0 0, .slice none 0 0, .slice fa st.fol.length fc, .bool false] hobj (by simp) rfl (by simp) ?_
  refine St1.to #[.slice sa' (n + 1) sc', .slice none 0 0, .slice none 0 0, .slice fa' (n + 1) fc', .bool false] (set_same _ _ _) (by simp) rfl (by simp) ?_
  rw [set_set]
  have hc2 := Chg.set m10 pb (.cells #[.slice sa' (n + 1) sc', .slice none 0 0, .slice none 0 0, .slice fa' (n + 1) fc', .bool false] T (0, 0))
  have hkeep : ∀ b o, m b = some o → ¬ Ft pb sa fa b → (m10.set pb (.cells #[.slice sa' (n + 1) sc', .slice none 0 0, .slice none 0 0, .slice fa' (n + 1) fc', .bool false] T (0, 0))) b = some o := by
    intro b o hb hn
    rw [set_other _ _ (fun e => hn (.inl e))]
    exact hch.eq b o hb (fun e => by rcases e with e | e; exact hn (.inr (.inl e)); exact hn (.inr (.inr e)))
  have hVn : ∀ b, m b = none → V b = none := fun b hb => by
    cases e : V b with
    | none => rfl
    | some x => have := h.le b x e; rw [hb] at this; cases this
  have l1 : (st.sets ++ [S]).length = n + 1 := by rw [List.length_append, hB.num]; rfl
  have l2 : (st.fol ++ [[]]).length = n + 1 := by rw [List.length_append, hB.len]; rfl
  refine k _ ⟨fun b o hb => hkeep b o (h.le b o hb) (fun e => by rw [h.nV b e] at hb; cases hb), ?_, ?_, ?_, ?_, fun b hb => ?_, s1, f1, hsf⟩ ⟨⟨hkeep, fun b hb => hc2.live b (hch.live b hb)⟩, hft, Le.refl _, fun _ _ e => e⟩
  · show _ = some (Obj.cells #[.slice sa' (st.sets ++ [S]).length sc', .slice none 0 0, .slice none 0 0, .slice fa' (st.fol ++ [[]]).length fc', .bool false] T (0, 0))
    rw [l1, l2, set_same]
  · show Own _ T_api_Set 4 sa' (st.sets ++ [S]).length sc' ((st.sets ++ [S]).flatMap four)
    rw [l1, List.flatMap_append, show [S].flatMap four = four S by simp]
    exact hos.chg hc2 (fun b hb e => s1 (by rw [hb, show b = pb from e]))
  · show Own _ T_sl_int 1 fa' (st.fol ++ [[]]).length fc' _
    rw [l2]
    exact hof.chg hc2 (fun b hb e => f1 (by rw [hb, show b = pb from e]))
  · refine ⟨by show (fv ++ _).length = (st.fol ++ [[]]).length; rw [List.length_append, List.length_append, h.rows.1]; rfl, fun i l hi => ?_⟩
    have hi : (st.fol ++ [[]])[i]? = some l := hi
    by_cases e : i < st.fol.length
    · rw [List.getElem?_append_left e] at hi
      obtain ⟨a, c, g1, g2⟩ := h.rows.2 i l hi
      exact ⟨a, c, by rw [List.getElem?_append_left (by rw [h.rows.1]; exact e)]; exact g1, g2⟩
    · rw [List.getElem?_append_right (by omega)] at hi
      have e2 : i - st.fol.length = 0 := by
        cases e3 : i - st.fol.length with
        | zero => rfl
        | succ x => rw [e3] at hi; cases hi
      rw [e2] at hi
      cases hi
      refine ⟨none, 0, ?_, CellsAt.empty _ _⟩
      rw [List.getElem?_append_right (by rw [h.rows.1]; omega), h.rows.1, e2]; rfl
  · rcases hft b hb with e | e
    · exact h.nV b e
    · exact hVn b e
/-- The end of one set. -/
theorem leaf_k1 (h : PSt T_place_Places m V pb st sa sc fa fc fv) (g0 : Gone F0 m0 V0 (Ft pb sa fa) m V) {b4 : Nat} {x0 x1 x2 : Value} (n4 : m0 b4 = none) (h4 : Loc (Ft pb sa fa) m V b4 (.cells #[x0, x1, x2] T_place_part (0, 0))) {R : Ending → Mem → Prop}
    (k : KW T_place_Places F0 m0 V0 pb ⟨[n], [n], false⟩ st R) : place_Places_walk.k1 b4 0 ((n : Nat) : Int) R m := by
  unfold place_Places_walk.k1
  intro b45 hb45 b47 hb47
  have hne : b47 ≠ b45 := by rintro rfl; rw [set_same] at hb47; cases hb47
  have hb47' : m b47 = none := by rw [set_other _ _ hne] at hb47; exact hb47
  have hle : Le m ((m.set b45 (.cells #[.int .i64 (n : Int)] T_int (0, 0))).set b47 (.cells #[.int .i64 (n : Int)] T_int (0, 0))) := (Le.set hb45 _).trans (Le.set hb47 _)
  have c45 : CellsAt ((m.set b45 (.cells #[.int .i64 (n : Int)] T_int (0, 0))).set b47 (.cells #[.int .i64 (n : Int)] T_int (0, 0))) (some ⟨b45, 0, none⟩) (ints (ns [n])) := cells_at ((set_other _ _ hne.symm).trans (set_same _ _ _)) rfl
  have c47 : CellsAt ((m.set b45 (.cells #[.int .i64 (n : Int)] T_int (0, 0))).set b47 (.cells #[.int .i64 (n : Int)] T_int (0, 0))) (some ⟨b47, 0, none⟩) (ints (ns [n])) := cells_at (set_same _ _ _) rfl
  generalize (m.set b45 (.cells #[.int .i64 (n : Int)] T_int (0, 0))).set b47 (.cells #[.int .i64 (n : Int)] T_int (0, 0)) = m2 at hle c45 c47 ⊢
  obtain ⟨h2, g2⟩ := h.see hle
  have h42 := h4.go g2
  refine ret3 h42.at_ ?_
  exact k _ _ sa sc fa fc fv (some ⟨b45, 0, none⟩) 1 (some ⟨b47, 0, none⟩) 1 (h2.put h42 _) ((g0.trans g2).locw n4 _) (CellsAt.see c45 (fun b e => by cases e; exact hb45)) (CellsAt.see c47 (fun b e => by cases e; exact hb47'))
end
end Go.E.Pl
set_option linter.unusedVariables false
set_option linter.unusedSimpArgs false
set_option maxRecDepth 20000
namespace Go.E.Pl
open Go.H Go.E Go.E.Rg
attribute [local irreducible] BiN MkS ConvN LookN MapUpN CallV HC
theorem lk_same {r m' : Mem} {K : Mem → Prop} (h : Le r m') (k : K r) : Lk r m' K := ⟨r, Le.refl _, h, k⟩
section
variable {T : TypeId} {m V : Mem} {pb : Nat} {st : Sta} {sa : Option Addr} {sc : Nat} {fa : Option Addr} {fc : Nat} {fv : List Value} {n : Nat} {S : Nat → Bool}
theorem app1 (h : PSt T m V pb st sa sc fa fc fv) (hB : StB n st) (hn : n ≤ 10000) {M1 : Mem} (hle : Le m M1) {b32 : Nat} {t : TypeId} {fr : Nat × Nat} (c32 : M1 b32 = some (.cells (four S).toArray t fr)) {ty : TypeId} {cs : Array Bool} {K : Value → Mem → Prop} {Pn : List PanicEntry → Mem → Prop}
    (k : ∀ sa' sc' m', Chg (fun b => blk sa = some b) M1 m' → Own m' T_api_Set 4 sa' (n + 1) sc' (st.sets.flatMap four ++ four S) → (blk sa' = blk sa ∨ Fresh M1 sa') → K (.slice sa' (n + 1) sc') m') :
    BiN P .append #[T_sl_api_Set, T_sl_api_Set] ty cs #[.slice sa st.sets.length sc, .slice (some ⟨b32, 0, none⟩) 1 1] M1 K Pn := by
  have ho := h.os
  rw [hB.num] at ho ⊢
  refine append_own eSet (Own.le hle ho) (news := four S) (cells_at c32 rfl) rfl (by intro v hv; unfold four at hv; simp only [List.mem_cons, List.not_mem_nil, or_false] at hv; rcases hv with rfl | rfl | rfl | rfl <;> rfl) (by decide) (by omega) (by omega) ?_
  intro a' c' m' ho' hg
  exact k a' c' m' hg.1 ho' hg.2
theorem app2 (h : PSt T m V pb st sa sc fa fc fv) (hB : StB n st) (hn : n ≤ 10000) {M1 m' M2 : Mem} (hle : Le m M1) {sa' : Option Addr} {sc' : Nat} (hch : Chg (fun b => blk sa = some b) M1 m') (hos : Own m' T_api_Set 4 sa' (n + 1) sc' (st.sets.flatMap four ++ four S)) (hsa : blk sa' = blk sa ∨ Fresh M1 sa')
    (hle2 : Le m' M2) {b38 : Nat} {t : TypeId} {fr : Nat × Nat} (c38 : M2 b38 = some (.cells #[.slice none 0 0] t fr)) {ty : TypeId} {cs : Array Bool} {K : Value → Mem → Prop} {Pn : List PanicEntry → Mem → Prop}
    (k : ∀ fa' fc' m10, Chg (fun b => blk sa = some b ∨ blk fa = some b) m m10 → Own m10 T_api_Set 4 sa' (n + 1) sc' (st.sets.flatMap four ++ four S) → Own m10 T_sl_int 1 fa' (n + 1) fc' (fv ++ [.slice none 0 0]) → (blk sa' = blk sa ∨ Fresh m sa') → (blk fa' = blk fa ∨ Fresh m fa') → (∀ b, blk sa' = some b → blk fa' ≠ some b) → K (.slice fa' (n + 1) fc') m10) :
    BiN P .append #[T_sl_sl_int, T_sl_sl_int] ty cs #[.slice fa st.fol.length fc, .slice (some ⟨b38, 0, none⟩) 1 1] M2 K Pn := by
  have ho := h.of
  rw [hB.len] at ho ⊢
  have hof : Own M2 T_sl_int 1 fa n fc fv := Own.le hle2 ((Own.le hle ho).chg hch (fun b hb e => h.sf b e hb))
  refine append_own eSI hof (news := [.slice none 0 0]) (cells_at c38 rfl) rfl (by intro v hv; simp at hv; subst hv; rfl) (by decide) (by omega) (by omega) ?_
  intro fa' fc' m10 ho' hg
  have hcm : Chg (fun b => blk sa = some b) m m' := (hle.chg _).trans hch (fun _ _ e => e)
  have hap : ∀ b, blk sa' = some b → blk fa ≠ some b := by
    intro b hb e
    rcases hsa with e2 | e2
    · rw [e2] at hb; exact h.sf b hb e
    · exact hle.live (h.of.live b e) (e2 b hb)
  refine k fa' fc' m10 ?_ ((Own.le hle2 hos).chg hg.1 (fun b hb e => hap b hb e)) ho' (hsa.imp id (Fresh.le hle)) ?_ (fun b hb e => ?_)
  · refine ⟨fun b o hb hn => ?_, fun b hb => hg.1.live b (hle2.live (hcm.live b hb))⟩
    exact hg.1.eq b o (hle2 b o (hcm.eq b o hb (fun e => hn (.inl e)))) (fun e => hn (.inr e))
  · rcases hg.2 with e | e
    · exact .inl e
    · refine .inr (fun b hb => ?_)
      have := e b hb
      cases e2 : m b with
      | none => rfl
      | some o => exact absurd this (hle2.live (hcm.live b (by rw [e2]; simp)))
  · rcases hg.2 with e2 | e2
    · rw [e2] at e; exact hap b hb e
    · exact (Own.le hle2 hos).live b hb (e2 b e)
end
theorem walk_leaf {S : Nat → Bool} : WalkS (.mk 1 S []) := by
  intro m V pb st sa sc fa fc fv n v R h hB hn ha k
  have hn : n ≤ 10000 := by omega
  obtain ⟨prs, a, c, hps, rfl, hl, hb, hc, hp⟩ := ha.inv
  have e : wk also (.mk 1 S []) st = (⟨[n], [n], false⟩, ⟨st.sets ++ [S], st.fol ++ [[]]⟩) := by unfold wk; rw [if_pos rfl, hB.num]
  rw [e] at k
  show HC P place_Places_walk.id #[.pointer (some ⟨pb, 0, none⟩), rxA 1 S (.slice a prs.length c)] m R
  refine place_Places_walk.ok _ _ _ _ _ _ _ _ _ _ _ ?_
  refine newRx ?_
  intro b3 m1 hb3 hle1 h3
  obtain ⟨p1, g1, l3⟩ := h.mine hle1 hb3 h3
  intro b4 hb4
  obtain ⟨p2, g2, l4⟩ := p1.mine (Le.set hb4 (.cells #[.slice none 0 0, .slice none 0 0, .bool false] T_place_part (0, 0))) hb4 (set_same _ _ _)
  have l32 := l3.go g2
  generalize m1.set b4 (.cells #[.slice none 0 0, .slice none 0 0, .bool false] T_place_part (0, 0)) = m2 at p2 g2 l4 l32 ⊢
  have g02 := g1.trans g2
  have n4 : m b4 = none := hle1.new hb4
  refine LdV.s0 l32.at_ (UnI.mk ?_)
  refine BrEt rfl ?_
  show LdV m2 pb 0 _
  refine LdV.s0 p2.obj (UnS.mk ?_)
  have hr : Le (on m2 fun b => ¬ (blk sa = some b ∨ blk fa = some b)) m2 := on_le _ _
  have hrp : (on m2 fun b => ¬ (blk sa = some b ∨ blk fa = some b)) pb = _ := (on_in (fun e => by rcases e with e | e; exact p2.s1 e; exact p2.f1 e)).trans p2.obj
  have hr3 : (on m2 fun b => ¬ (blk sa = some b ∨ blk fa = some b)) b3 = _ := (on_in (fun e => l32.out (.inr e))).trans l32.at_
  have hrc : ∀ {m' : Mem}, Chg (fun b => blk sa = some b ∨ blk fa = some b) m2 m' → Le (on m2 fun b => ¬ (blk sa = some b ∨ blk fa = some b)) m' := by
    intro m' hch b o hbo
    obtain ⟨h1, h2⟩ := on_live hbo
    exact hch.eq b o h2 h1
  refine ⟨_, hr, ?_⟩
  generalize (on m2 fun b => ¬ (blk sa = some b ∨ blk fa = some b)) = r at hr hrp hr3 hrc ⊢
  show LdV r pb 0 _
  refine LdV.s0 hrp (UnS.mk ?_)
  refine LdV.s1 hr3 (UnI.mk (LdV.s2 hr3 (UnI.mk (LdV.s3 hr3 (UnI.mk (LdV.s4 hr3 (UnI.mk ?_)))))))
  show LdV r pb (0 + 3) _
  refine LdV.s3 hrp (UnS.mk ?_)
  -- the end
  have fin : ∀ {m10 : Mem} {sa' : Option Addr} {sc' : Nat} {fa' : Option Addr} {fc' : Nat}, Chg (fun b => blk sa = some b ∨ blk fa = some b) m2 m10 → Own m10 T_api_Set 4 sa' (n + 1) sc' (st.sets.flatMap four ++ four S) → Own m10 T_sl_int 1 fa' (n + 1) fc' (fv ++ [.slice none 0 0]) → (blk sa' = blk sa ∨ Fresh m2 sa') → (blk fa' = blk fa ∨ Fresh m2 fa') → (∀ b, blk sa' = some b → blk fa' ≠ some b) →
      St1 m10 pb 0 (.slice sa' (n + 1) sc') fun m11 => St1 m11 pb (0 + 3) (.slice fa' (n + 1) fc') fun m12 => place_Places_walk.k1 b4 0 ((st.sets.length : Nat) : Int) R m12 := by
    intro m10 sa' sc' fa' fc' h1 h2 h3 h4 h5 h6
    refine p2.grow hB h1 h2 h3 h4 h5 h6 ?_
    intro m' hp' hg'
    rw [hB.num]
    exact leaf_k1 hp' (g02.trans hg') n4 (l4.go hg') k
  have chS : ∀ {M1 m' : Mem}, Le m2 M1 → Chg (fun b => blk sa = some b) M1 m' → Chg (fun b => blk sa = some b ∨ blk fa = some b) m2 m' := fun h1 h2 => ((h1.chg _).trans h2 (fun _ _ e => e)).mono (fun _ e => .inl e)
  refine ⟨?_, ?_⟩
  · intro b32 hb32
    refine lk_same (hr.trans (Le.set hb32 _)) ?_
    refine ⟨?_, ?_⟩
    · refine app1 p2 hB hn (Le.set hb32 _) (set_same _ _ _) ?_
      intro sa' sc' m6 hch hos hsa
      refine UnS.mk ?_
      have hm6 := hrc (chS (Le.set hb32 _) hch)
      refine lk_same hm6 ?_
      intro b38 hb38
      refine lk_same (hm6.trans (Le.set hb38 _)) ?_
      refine app2 p2 hB hn (Le.set hb32 _) hch hos hsa (Le.set hb38 _) (set_same _ _ _) ?_
      intro fa' fc' m10 q1 q2 q3 q4 q5 q6
      refine UnS.mk ?_
      exact fin q1 q2 q3 q4 q5 q6
    · intro b38 hb38
      have hle := (Le.set hb32 (.cells #[.int .u64 (L S 0), .int .u64 (L S 1), .int .u64 (L S 2), .int .u64 (L S 3)] T_api_Set (0, 0))).trans (Le.set hb38 (.cells #[.slice none 0 0] T_sl_int (0, 0)))
      refine lk_same (hr.trans hle) ?_
      have hne : b32 ≠ b38 := by rintro rfl; rw [set_same] at hb38; cases hb38
      have w38 : m2 b38 = none := by rw [set_other _ _ (Ne.symm hne)] at hb38; exact hb38
      refine app1 p2 hB hn hle ((set_other _ _ hne).trans (set_same _ _ _)) ?_
      intro sa' sc' m6 hch hos hsa
      refine UnS.mk ?_
      refine lk_same (hrc (chS hle hch)) ?_
      refine app2 p2 hB hn hle hch hos hsa (Le.refl _) (hch.eq _ _ (set_same _ _ _) (fun e => p2.os.live b38 e w38)) ?_
      intro fa' fc' m10 q1 q2 q3 q4 q5 q6
      refine UnS.mk ?_
      exact fin q1 q2 q3 q4 q5 q6
  · intro b38 hb38
    refine lk_same (hr.trans (Le.set hb38 _)) ?_
    intro b32 hb32
    have hle := (Le.set hb38 (.cells #[.slice none 0 0] T_sl_int (0, 0))).trans (Le.set hb32 (.cells #[.int .u64 (L S 0), .int .u64 (L S 1), .int .u64 (L S 2), .int .u64 (L S 3)] T_api_Set (0, 0)))
    refine lk_same (hr.trans hle) ?_
    have hne : b38 ≠ b32 := by rintro rfl; rw [set_same] at hb32; cases hb32
    refine app1 p2 hB hn hle (set_same _ _ _) ?_
    intro sa' sc' m6 hch hos hsa
    refine UnS.mk ?_
    refine lk_same (hrc (chS hle hch)) ?_
    refine app2 p2 hB hn hle hch hos hsa (Le.refl _) (hch.eq _ _ ((set_other _ _ hne).trans (set_same _ _ _)) (fun e => p2.os.live b38 e hb38)) ?_
    intro fa' fc' m10 q1 q2 q3 q4 q5 q6
    refine UnS.mk ?_
    exact fin q1 q2 q3 q4 q5 q6
end Go.E.Pl
set_option linter.unusedVariables false
set_option linter.unusedSimpArgs false
set_option maxRecDepth 20000
namespace Go.E.Pl
open Go.H Go.E Go.E.Rg
attribute [local irreducible] BiN MkS ConvN LookN MapUpN CallV HC
theorem copyPt {m : Mem} {x0 x1 x2 : Value} {a : Option Addr} {l c : Nat} {a' : Option Addr} {l' c' : Nat} {z : Bool} {T : TypeId} {K : Nat → Mem → Prop} (h : ∀ b m1, m b = none → Le m m1 → m1 b = some (.cells (pO a l c a' l' c' z) T (0, 0)) → K b m1) :
    NewC m #[x0, x1, x2] T fun b m1 => St1 m1 b 0 (.slice a l c) fun m2 => St1 m2 b 1 (.slice a' l' c') fun m3 => St1 m3 b 2 (.bool z) fun m4 => K b m4 := by
  intro b hb
  refine put3 (set_same _ _ _) ?_
  rw [set_set]
  exact h b _ hb (Le.set hb _) (set_same _ _ _)
abbrev zP : Array Value := #[.slice none 0 0, .slice none 0 0, .bool false]
/-- A walk under way: what is told of the parts so far lies in block b6. -/
structure Rnd (F0 : Nat → Prop) (m0 V0 : Mem) (pb b4 b6 : Nat) (m V : Mem) (st : Sta) (n : Nat) (fi la : List Nat) (nu : Bool) (sa : Option Addr) (sc : Nat) (fa : Option Addr) (fc : Nat) (fv : List Value) (oa : Option Addr) (oc : Nat) (ol : Option Addr) (olc : Nat) : Prop where
  p : PSt T_place_Places m V pb st sa sc fa fc fv
  g : Gone F0 m0 V0 (Ft pb sa fa) m V
  b : StB n st
  n4 : m0 b4 = none
  n6 : m0 b6 = none
  l4 : Loc (Ft pb sa fa) m V b4 (.cells zP T_place_part (0, 0))
  l6 : Loc (Ft pb sa fa) m V b6 (.cells (pO oa fi.length oc ol la.length olc nu) T_place_part (0, 0))
  ne : b6 ≠ b4
  cf : CellsAt V oa (ints (ns fi))
  cl : CellsAt V ol (ints (ns la))
  kf : Ok n fi
  kl : Ok n la
section
variable {F0 : Nat → Prop} {m0 V0 : Mem} {pb b4 b6 : Nat} {m V m' V' : Mem} {st st' : Sta} {n n' : Nat} {fi la : List Nat} {nu : Bool} {sa sa' : Option Addr} {sc sc' : Nat} {fa fa' : Option Addr} {fc fc' : Nat} {fv fv' : List Value} {oa : Option Addr} {oc : Nat} {ol : Option Addr} {olc : Nat}
theorem Rnd.go (h : Rnd F0 m0 V0 pb b4 b6 m V st n fi la nu sa sc fa fc fv oa oc ol olc) (p : PSt T_place_Places m' V' pb st' sa' sc' fa' fc' fv') (g : Gone (Ft pb sa fa) m V (Ft pb sa' fa') m' V') (hb : StB n' st') (hn : n ≤ n') :
    Rnd F0 m0 V0 pb b4 b6 m' V' st' n' fi la nu sa' sc' fa' fc' fv' oa oc ol olc :=
  ⟨p, h.g.trans g, hb, h.n4, h.n6, h.l4.go g, h.l6.go g, h.ne, h.cf.le g.le, h.cl.le g.le, h.kf.mono hn, h.kl.mono hn⟩
theorem Rnd.put (h : Rnd F0 m0 V0 pb b4 b6 m V st n fi la nu sa sc fa fc fv oa oc ol olc) {fi' la' : List Nat} {nu' : Bool} {oa' : Option Addr} {oc' : Nat} {ol' : Option Addr} {olc' : Nat} (cf : CellsAt V oa' (ints (ns fi'))) (cl : CellsAt V ol' (ints (ns la'))) (kf : Ok n fi') (kl : Ok n la') :
    Rnd F0 m0 V0 pb b4 b6 (m.set b6 (.cells (pO oa' fi'.length oc' ol' la'.length olc' nu') T_place_part (0, 0))) V st n fi' la' nu' sa sc fa fc fv oa' oc' ol' olc' :=
  ⟨h.p.put h.l6 _, h.g.locw h.n6 _, h.b, h.n4, h.n6, h.l4.other h.ne, h.l6.put _, h.ne, cf, cl, kf, kl⟩
/-- The end of the loop. -/
theorem Rnd.end_ (h : Rnd F0 m0 V0 pb b4 b6 m V st n fi la nu sa sc fa fc fv oa oc ol olc) {R : Ending → Mem → Prop} (k : KW T_place_Places F0 m0 V0 pb ⟨fi, la, nu⟩ st R) :
    LdV m b6 0 fun v => UnS v fun x0a x0l x0c => LdV m b6 (0 + 1) fun v => UnS v fun x1a x1l x1c => LdV m b6 (0 + 2) fun v => UnB v fun x2 =>
    St1 m b4 0 (.slice x0a x0l x0c) fun m1 => St1 m1 b4 (0 + 1) (.slice x1a x1l x1c) fun m2 => St1 m2 b4 (0 + 2) (.bool x2) fun m3 =>
    LdV m3 b4 0 fun v => UnS v fun res0_0a res0_0l res0_0c => LdV m3 b4 (0 + 1) fun v => UnS v fun res0_1a res0_1l res0_1c => LdV m3 b4 (0 + 2) fun v => UnB v fun res0_2 =>
    R (.returned (.agg #[.slice res0_0a res0_0l res0_0c, .slice res0_1a res0_1l res0_1c, .bool res0_2])) m3 := by
  refine get3 h.l6.at_ ?_
  refine ret3 h.l4.at_ ?_
  exact k _ _ sa sc fa fc fv oa oc ol olc (h.p.put h.l4 _) (h.g.locw h.n4 _) h.cf h.cl
end
section
variable {F0 : Nat → Prop} {m0 V0 : Mem} {pb b4 b6 b9 : Nat} {m V : Mem} {st : Sta} {n : Nat} {fi la : List Nat} {nu : Bool} {sa : Option Addr} {sc : Nat} {fa : Option Addr} {fc : Nat} {fv : List Value} {oa : Option Addr} {oc : Nat} {ol : Option Addr} {olc : Nat}
theorem Rnd.side (h : Rnd F0 m0 V0 pb b4 b6 m V st n fi la nu sa sc fa fc fv oa oc ol olc) {o : Obj} (l9 : Loc (Ft pb sa fa) m V b9 o) (n9 : m0 b9 = none) (h6 : b9 ≠ b6) (h4 : b9 ≠ b4) (o' : Obj) : Rnd F0 m0 V0 pb b4 b6 (m.set b9 o') V st n fi la nu sa sc fa fc fv oa oc ol olc :=
  ⟨h.p.put l9 _, h.g.locw n9 _, h.b, h.n4, h.n6, h.l4.other h4, h.l6.other h6, h.ne, h.cf, h.cl, h.kf, h.kl⟩
variable {q : Part} {qa : Option Addr} {qc : Nat} {qla : Option Addr} {qlc : Nat} {xa : Option Addr} {xl xc : Nat} {n1 i : Int} {R : Ending → Mem → Prop}
variable {K : Option Addr → Nat → Nat → Nat → Nat → Option Addr → Nat → Nat → Int → Int → Mem → Prop}
theorem cat_k4 {fi' la' : List Nat} (h : Rnd F0 m0 V0 pb b4 b6 m V st n fi' la nu sa sc fa fc fv oa oc ol olc) (h9 : m b9 = some (.cells (pO qa q.fi.length qc qla la'.length qlc q.nu) T_place_part (0, 0))) (hcl : CellsAt V qla (ints (ns la'))) (hkl : Ok n la')
    (hK : ∀ {m' V' : Mem} {sa : Option Addr} {sc : Nat} {fa : Option Addr} {fc : Nat} {fv : List Value} {oa : Option Addr} {oc : Nat} {ol : Option Addr} {olc : Nat}, Rnd F0 m0 V0 pb b4 b6 m' V' st n fi' la' (nu && q.nu) sa sc fa fc fv oa oc ol olc → K (some ⟨pb, 0, none⟩) b4 0 b6 0 xa xl xc n1 (IntKind.i64.wrap (i + 1)) m') :
    place_Places_walk.k4 K (some ⟨pb, 0, none⟩) b4 0 b6 0 b9 0 xa xl xc n1 i R m := by
  unfold place_Places_walk.k4
  refine LdV.s0 h.l6.at_ (UnS.mk ?_)
  refine LdV.s1 h9 (UnS.mk ?_)
  refine LdV.s2 h.l6.at_ (UnB.mk ?_)
  refine Br.mk (fun hz => ?_) (fun hz => ?_)
  · refine LdV.s2 h9 (UnB.mk ?_)
    refine put3 h.l6.at_ ?_
    have e : (nu && q.nu) = q.nu := by rw [hz]; rfl
    rw [e] at hK
    exact hK (h.put h.cf hcl h.kf hkl)
  · refine put3 h.l6.at_ ?_
    have e : (nu && q.nu) = false := by rw [hz]; rfl
    rw [e] at hK
    exact hK (h.put h.cf hcl h.kf hkl)
theorem cat_k3 (hn : n ≤ 10000) {fi' : List Nat} (h : Rnd F0 m0 V0 pb b4 b6 m V st n fi' la nu sa sc fa fc fv oa oc ol olc) (l9 : Loc (Ft pb sa fa) m V b9 (.cells (pO qa q.fi.length qc qla q.la.length qlc q.nu) T_place_part (0, 0))) (n9 : m0 b9 = none) (h6 : b9 ≠ b6) (h4 : b9 ≠ b4) (cql : CellsAt V qla (ints (ns q.la))) (kql : Ok n q.la)
    (hK : ∀ {m' V' : Mem} {sa : Option Addr} {sc : Nat} {fa : Option Addr} {fc : Nat} {fv : List Value} {oa : Option Addr} {oc : Nat} {ol : Option Addr} {olc : Nat}, Rnd F0 m0 V0 pb b4 b6 m' V' st n fi' (if q.nu = true then also la q.la else q.la) (nu && q.nu) sa sc fa fc fv oa oc ol olc → K (some ⟨pb, 0, none⟩) b4 0 b6 0 xa xl xc n1 (IntKind.i64.wrap (i + 1)) m') :
    place_Places_walk.k3 K (some ⟨pb, 0, none⟩) b4 0 b6 0 b9 0 xa xl xc n1 i R m := by
  unfold place_Places_walk.k3
  refine LdV.s2 l9.at_ (UnB.mk ?_)
  refine Br.mk (fun hz => ?_) (fun hz => ?_)
  · rw [if_pos hz] at hK
    refine LdV.s1 h.l6.at_ (UnS.mk ?_)
    refine LdV.s1 l9.at_ (UnS.mk ?_)
    have b1 := h.kl.len
    have b2 := kql.len
    refine also_spec (h.cl.le h.p.le) rfl (cql.le h.p.le) rfl (by omega) ?_
    intro m1 a' c' hle1 hc1 hf1
    dsimp only [Cont]
    refine UnS.mk ?_
    obtain ⟨p1, g1⟩ := h.p.see hle1
    have h1 := h.go p1 g1 h.b (Nat.le_refl _)
    have l91 := l9.go g1
    refine St1.to (pO qa q.fi.length qc a' (also la q.la).length c' q.nu) l91.at_ (by simp) rfl (by simp) ?_
    exact cat_k4 (la' := also la q.la) (h1.side l91 n9 h6 h4 _) (set_same _ _ _) (CellsAt.see hc1 hf1) (h.kl.also kql) hK
  · rw [if_neg (by rw [hz]; decide)] at hK
    exact cat_k4 h l9.at_ cql kql hK
theorem cat_mid (hn : n ≤ 10000) (h : Rnd F0 m0 V0 pb b4 b6 m V st n fi la nu sa sc fa fc fv oa oc ol olc) (l9 : Loc (Ft pb sa fa) m V b9 (.cells (pO qa q.fi.length qc qla q.la.length qlc q.nu) T_place_part (0, 0))) (n9 : m0 b9 = none) (h6 : b9 ≠ b6) (h4 : b9 ≠ b4) (cq : CellsAt V qa (ints (ns q.fi))) (kq : Ok n q.fi) (cql : CellsAt V qla (ints (ns q.la))) (kql : Ok n q.la)
    (hK : ∀ {m' V' : Mem} {sa : Option Addr} {sc : Nat} {fa : Option Addr} {fc : Nat} {fv : List Value} {oa : Option Addr} {oc : Nat} {ol : Option Addr} {olc : Nat}, Rnd F0 m0 V0 pb b4 b6 m' V' st n (if nu = true then also fi q.fi else fi) (if q.nu = true then also la q.la else q.la) (nu && q.nu) sa sc fa fc fv oa oc ol olc → K (some ⟨pb, 0, none⟩) b4 0 b6 0 xa xl xc n1 (IntKind.i64.wrap (i + 1)) m') :
    LdV m b6 (0 + 2) fun v => UnB v fun x69 => Br x69 (
        LdV m b6 0 fun v =>
        UnS v fun x71a x71l x71c =>
        LdV m b9 0 fun v =>
        UnS v fun x73a x73l x73c =>
        HC P place_also.id #[.slice x71a x71l x71c, .slice x73a x73l x73c] m (Cont (fun v m14 =>
        UnS v fun x74a x74l x74c =>
        St1 m14 b6 0 (.slice x74a x74l x74c) fun m15 =>
        place_Places_walk.k3 K (some ⟨pb, 0, none⟩) b4 0 b6 0 b9 0 xa xl xc n1 i R m15) (panicR R))) (
        place_Places_walk.k3 K (some ⟨pb, 0, none⟩) b4 0 b6 0 b9 0 xa xl xc n1 i R m) := by
  refine LdV.s2 h.l6.at_ (UnB.mk ?_)
  refine Br.mk (fun hz => ?_) (fun hz => ?_)
  · rw [if_pos hz] at hK
    refine LdV.s0 h.l6.at_ (UnS.mk ?_)
    refine LdV.s0 l9.at_ (UnS.mk ?_)
    have b1 := h.kf.len
    have b2 := kq.len
    refine also_spec (h.cf.le h.p.le) rfl (cq.le h.p.le) rfl (by omega) ?_
    intro m1 a' c' hle1 hc1 hf1
    dsimp only [Cont]
    refine UnS.mk ?_
    obtain ⟨p1, g1⟩ := h.p.see hle1
    have h1 := h.go p1 g1 h.b (Nat.le_refl _)
    have l91 := l9.go g1
    refine St1.to (pO a' (also fi q.fi).length c' ol la.length olc nu) h1.l6.at_ (by simp) rfl (by simp) ?_
    exact cat_k3 hn (fi' := also fi q.fi) (h1.put (CellsAt.see hc1 hf1) h1.cl (h.kf.also kq) h1.kl) (l91.other (Ne.symm h6)) n9 h6 h4 (cql.le g1.le) kql hK
  · rw [if_neg (by rw [hz]; decide)] at hK
    exact cat_k3 hn h l9 n9 h6 h4 cql kql hK
end
theorem walk_cat {S : Nat → Bool} {ps : List Rx} (ih : ∀ a ∈ ps, form a = true ∧ WalkS a) : WalkS (.mk 2 S ps) := by
  intro m V pb st sa sc fa fc fv n v R h hB hn ha k
  have hcnt : cnt (.mk 2 S ps) = cntL ps := by unfold cnt cntL; rw [setsOf, if_neg (by decide), if_pos (.inl rfl)]
  rw [hcnt] at hn
  obtain ⟨prs, a, c, rfl, rfl, hl, hb, hc, hp⟩ := ha.inv
  have ewk : wk also (.mk 2 S (prs.map (·.1))) st = wkC also (prs.map (·.1)) ⟨[], [], true⟩ st := by unfold wk; rw [if_neg (by decide), if_pos rfl]
  rw [ewk] at k
  show HC P place_Places_walk.id #[.pointer (some ⟨pb, 0, none⟩), rxA 2 S (.slice a prs.length c)] m R
  refine place_Places_walk.ok _ _ _ _ _ _ _ _ _ _ _ ?_
  refine newRx ?_
  intro b3 m1 hb3 hle1 h3
  obtain ⟨p1, g1, l3⟩ := h.mine hle1 hb3 h3
  intro b4 hb4
  obtain ⟨p2, g2, l4⟩ := p1.mine (Le.set hb4 (.cells zP T_place_part (0, 0))) hb4 (set_same _ _ _)
  have l32 := l3.go g2
  generalize m1.set b4 (.cells zP T_place_part (0, 0)) = m2 at p2 g2 l4 l32 ⊢
  have g02 := g1.trans g2
  have n4 : m b4 = none := hle1.new hb4
  refine LdV.s0 l32.at_ (UnI.mk ?_)
  refine BrEf (by decide) ?_
  refine BrEt rfl ?_
  refine copyPt ?_
  intro b6 m6 hb6 hle6 h6
  obtain ⟨p6, g6, l6⟩ := p2.mine hle6 hb6 h6
  have n6 : m b6 = none := g02.chg.new hb6
  refine LdV.s5 (l32.go g6).at_ (UnS.mk ?_)
  have hne64 : b6 ≠ b4 := by rintro rfl; rw [l4.at_] at hb6; cases hb6
  refine ⟨fun N p x4b x4o o6b o6o xa xl xc n1 i mm => p = some ⟨pb, 0, none⟩ ∧ x4b = b4 ∧ x4o = 0 ∧ o6b = b6 ∧ o6o = 0 ∧ xa = a ∧ xl = prs.length ∧ n1 = ((prs.length : Nat) : Int) ∧
      ∃ (j : Nat) (Vm : Mem) (stj : Sta) (nj : Nat) (fi la : List Nat) (nu : Bool) (sa' : Option Addr) (sc' : Nat) (fa' : Option Addr) (fc' : Nat) (fv' : List Value) (oa : Option Addr) (oc : Nat) (ol : Option Addr) (olc : Nat), i = (j : Int) ∧ j ≤ prs.length ∧ N = prs.length - j ∧
        Rnd (Ft pb sa fa) m V pb b4 b6 mm Vm stj nj fi la nu sa' sc' fa' fc' fv' oa oc ol olc ∧ nj + cntL ((prs.map (·.1)).drop j) ≤ 10000 ∧ wkC also ((prs.map (·.1)).drop j) ⟨fi, la, nu⟩ stj = wkC also (prs.map (·.1)) ⟨[], [], true⟩ st, prs.length,
    ⟨rfl, rfl, rfl, rfl, rfl, rfl, rfl, rfl, 0, V, st, n, [], [], true, sa, sc, fa, fc, fv, none, 0, none, 0, rfl, by omega, by omega, ⟨p6, g02.trans g6, hB, n4, n6, l4.go g6, l6, hne64, CellsAt.empty _ _, CellsAt.empty _ _, Ok.nil _, Ok.nil _⟩, by simpa using hn, by simp⟩, ?_⟩
  rintro N p x4b x4o o6b o6o xa xl xc n1 i mm ⟨rfl, rfl, rfl, rfl, rfl, rfl, rfl, rfl, j, Vm, stj, nj, fi, la, nu, sa', sc', fa', fc', fv', oa, oc, ol, olc, rfl, hj, rfl, hr, hnj, hwk⟩
  have hlen : (prs.map (·.1)).length = prs.length := List.length_map _
  unfold place_Places_walk.l2B
  refine BrD (fun hlt => ?_) (fun hge => ?_)
  · have hjl : j < prs.length := by omega
    have hpm := List.getElem_mem hjl
    obtain ⟨a', l', c', hv⟩ := (hp _ hpm).sl
    obtain ⟨hfj, hwj⟩ := ih prs[j].1 (List.mem_map.mpr ⟨_, hpm, rfl⟩)
    have hdrop : (prs.map (·.1)).drop j = prs[j].1 :: (prs.map (·.1)).drop (j + 1) := by
      rw [List.drop_eq_getElem_cons (by rw [hlen]; exact hjl), List.getElem_map]
    rw [hdrop, cntL_cons] at hnj
    rw [hdrop] at hwk
    have haj := hp _ hpm
    rw [hv] at haj
    refine IxS.rx6 ((hc.le hr.g.le).le hr.p.le) hjl hv ?_
    refine copyRx ?_
    intro b8 m7 hb8 hle7 h7
    obtain ⟨p7, g7, l8⟩ := hr.p.mine hle7 hb8 h7
    have hr7 := hr.go p7 g7 hr.b (Nat.le_refl _)
    refine get6 h7 ?_
    refine hwj p7 hr.b (by omega) (haj.le hr.g.le) ?_
    intro m8 V8 sa8 sc8 fa8 fc8 fv8 qa qc qla qlc p8 g8 cq cql
    obtain ⟨b8', ⟨hq1, hq2⟩, hq3, hq4⟩ := wk_bnd hfj hr.b
    have hr8 := hr7.go p8 g8 b8' (by omega)
    have kq : Ok (nj + cnt prs[j].1) (wk also prs[j].1 stj).1.fi := ⟨hq1, hq2⟩
    have kql : Ok (nj + cnt prs[j].1) (wk also prs[j].1 stj).1.la := ⟨hq3, hq4⟩
    have hwk2 : wkC also ((prs.map (·.1)).drop (j + 1)) (stepC also ⟨fi, la, nu⟩ (wk also prs[j].1 stj).1) ⟨(wk also prs[j].1 stj).2.sets, lk also (wk also prs[j].1 stj).2.fol la (wk also prs[j].1 stj).1.fi⟩ = wkC also (prs.map (·.1)) ⟨[], [], true⟩ st := hwk
    generalize (wk also prs[j].1 stj).1 = q at kq kql cq cql hwk2 ⊢
    generalize (wk also prs[j].1 stj).2 = st8 at p8 b8' hr8 hwk2
    have hn8 : nj + cnt prs[j].1 ≤ 10000 := by omega
    have hn9 : nj + cnt prs[j].1 + cntL ((prs.map (·.1)).drop (j + 1)) ≤ 10000 := by omega
    generalize nj + cnt prs[j].1 = n8 at kq kql b8' hr8 hn8 hn9
    refine ContPt.mk ?_
    refine copyPt ?_
    intro b9 m12 hb9 hle12 h12
    obtain ⟨p12, g12, l9⟩ := p8.mine hle12 hb9 h12
    have hr12 := hr8.go p12 g12 b8' (Nat.le_refl _)
    have n9 : m b9 = none := hr8.g.chg.new hb9
    have hne96 : b9 ≠ o6b := by rintro rfl; rw [hr8.l6.at_] at hb9; cases hb9
    have hne94 : b9 ≠ x4b := by rintro rfl; rw [hr8.l4.at_] at hb9; cases hb9
    refine LdV.s1 hr12.l6.at_ (UnS.mk ?_)
    refine LdV.s0 l9.at_ (UnS.mk ?_)
    refine links_spec p12 b8'.bnd hn8 hr12.cl (cq.le g12.le) (fun x hx => by rw [b8'.len]; exact hr12.kl.2 x hx) (by have := hr12.kl.len; omega) kq ?_
    intro m13 V13 fv13 p13 g13
    dsimp only [Cont]
    refine UnTup.mk (UnNil.mk ?_)
    have b13 : StB n8 ⟨st8.sets, lk also st8.fol la q.fi⟩ := b8'.lk kq.2
    have hr13 := hr12.go p13 g13 b13 (Nat.le_refl _)
    have l913 := l9.go g13
    have cq13 := (cq.le g12.le).le g13.le
    have cql13 := (cql.le g12.le).le g13.le
    refine cat_mid hn8 hr13 l913 n9 hne96 hne94 cq13 kq cql13 kql ?_
    intro m' V' sa5 sc5 fa5 fc5 fv5 oa5 oc5 ol5 olc5 h5
    refine ⟨prs.length - (j + 1), by omega, rfl, rfl, rfl, rfl, rfl, rfl, rfl, rfl, j + 1, V', _, n8, _, _, _, sa5, sc5, fa5, fc5, fv5, oa5, oc5, ol5, olc5, ?_, by omega, rfl, h5, hn9, hwk2⟩
    rw [wi (by omega) (by omega)]; omega
  · have e : (prs.map (·.1)).drop j = [] := List.drop_eq_nil_of_le (by omega)
    rw [e] at hwk
    rw [← hwk] at k
    exact hr.end_ k
end Go.E.Pl
set_option linter.unusedVariables false
set_option linter.unusedSimpArgs false
set_option maxRecDepth 20000
namespace Go.E.Pl
open Go.H Go.E Go.E.Rg
attribute [local irreducible] BiN MkS ConvN LookN MapUpN CallV HC
theorem walk_alt {S : Nat → Bool} {ps : List Rx} (ih : ∀ a ∈ ps, form a = true ∧ WalkS a) : WalkS (.mk 3 S ps) := by
  intro m V pb st sa sc fa fc fv n v R h hB hn ha k
  have hcnt : cnt (.mk 3 S ps) = cntL ps := by unfold cnt cntL; rw [setsOf, if_neg (by decide), if_pos (.inr rfl)]
  rw [hcnt] at hn
  obtain ⟨prs, a, c, rfl, rfl, hl, hb, hc, hp⟩ := ha.inv
  have ewk : wk also (.mk 3 S (prs.map (·.1))) st = wkA also (prs.map (·.1)) ⟨[], [], false⟩ st := by unfold wk; rw [if_neg (by decide), if_neg (by decide), if_pos rfl]
  rw [ewk] at k
  show HC P place_Places_walk.id #[.pointer (some ⟨pb, 0, none⟩), rxA 3 S (.slice a prs.length c)] m R
  refine place_Places_walk.ok _ _ _ _ _ _ _ _ _ _ _ ?_
  refine newRx ?_
  intro b3 m1 hb3 hle1 h3
  obtain ⟨p1, g1, l3⟩ := h.mine hle1 hb3 h3
  intro b4 hb4
  obtain ⟨p2, g2, l4⟩ := p1.mine (Le.set hb4 (.cells zP T_place_part (0, 0))) hb4 (set_same _ _ _)
  have l32 := l3.go g2
  generalize m1.set b4 (.cells zP T_place_part (0, 0)) = m2 at p2 g2 l4 l32 ⊢
  have g02 := g1.trans g2
  have n4 : m b4 = none := hle1.new hb4
  refine LdV.s0 l32.at_ (UnI.mk ?_)
  refine BrEf (by decide) ?_
  refine BrEf (by decide) ?_
  refine BrEt rfl ?_
  intro b6 hb6
  obtain ⟨p6, g6, l6⟩ := p2.mine (Le.set hb6 (.cells zP T_place_part (0, 0))) hb6 (set_same _ _ _)
  have n6 : m b6 = none := g02.chg.new hb6
  have hne64 : b6 ≠ b4 := by rintro rfl; rw [l4.at_] at hb6; cases hb6
  have l36 := l32.go g6
  have l46 := l4.go g6
  generalize m2.set b6 (.cells zP T_place_part (0, 0)) = m6 at p6 g6 l6 l36 l46 ⊢
  refine LdV.s5 l36.at_ (UnS.mk ?_)
  refine ⟨fun N p x4b x4o o6b o6o xa xl xc n1 i mm => p = some ⟨pb, 0, none⟩ ∧ x4b = b4 ∧ x4o = 0 ∧ o6b = b6 ∧ o6o = 0 ∧ xa = a ∧ xl = prs.length ∧ n1 = ((prs.length : Nat) : Int) ∧
      ∃ (j : Nat) (Vm : Mem) (stj : Sta) (nj : Nat) (fi la : List Nat) (nu : Bool) (sa' : Option Addr) (sc' : Nat) (fa' : Option Addr) (fc' : Nat) (fv' : List Value) (oa : Option Addr) (oc : Nat) (ol : Option Addr) (olc : Nat), i = (j : Int) ∧ j ≤ prs.length ∧ N = prs.length - j ∧
        Rnd (Ft pb sa fa) m V pb b4 b6 mm Vm stj nj fi la nu sa' sc' fa' fc' fv' oa oc ol olc ∧ nj + cntL ((prs.map (·.1)).drop j) ≤ 10000 ∧ wkA also ((prs.map (·.1)).drop j) ⟨fi, la, nu⟩ stj = wkA also (prs.map (·.1)) ⟨[], [], false⟩ st, prs.length,
    ⟨rfl, rfl, rfl, rfl, rfl, rfl, rfl, rfl, 0, V, st, n, [], [], false, sa, sc, fa, fc, fv, none, 0, none, 0, rfl, by omega, by omega, ⟨p6, g02.trans g6, hB, n4, n6, l46, l6, hne64, CellsAt.empty _ _, CellsAt.empty _ _, Ok.nil _, Ok.nil _⟩, by simpa using hn, by simp⟩, ?_⟩
  rintro N p x4b x4o o6b o6o xa xl xc n1 i mm ⟨rfl, rfl, rfl, rfl, rfl, rfl, rfl, rfl, j, Vm, stj, nj, fi, la, nu, sa', sc', fa', fc', fv', oa, oc, ol, olc, rfl, hj, rfl, hr, hnj, hwk⟩
  have hlen : (prs.map (·.1)).length = prs.length := List.length_map _
  unfold place_Places_walk.l5B
  refine BrD (fun hlt => ?_) (fun hge => ?_)
  · have hjl : j < prs.length := by omega
    have hpm := List.getElem_mem hjl
    obtain ⟨a', l', c', hv⟩ := (hp _ hpm).sl
    obtain ⟨hfj, hwj⟩ := ih prs[j].1 (List.mem_map.mpr ⟨_, hpm, rfl⟩)
    have hdrop : (prs.map (·.1)).drop j = prs[j].1 :: (prs.map (·.1)).drop (j + 1) := by
      rw [List.drop_eq_getElem_cons (by rw [hlen]; exact hjl), List.getElem_map]
    rw [hdrop, cntL_cons] at hnj
    rw [hdrop] at hwk
    have haj := hp _ hpm
    rw [hv] at haj
    refine IxS.rx6 ((hc.le hr.g.le).le hr.p.le) hjl hv ?_
    refine copyRx ?_
    intro b8 m7 hb8 hle7 h7
    obtain ⟨p7, g7, l8⟩ := hr.p.mine hle7 hb8 h7
    have hr7 := hr.go p7 g7 hr.b (Nat.le_refl _)
    refine get6 h7 ?_
    refine hwj p7 hr.b (by omega) (haj.le hr.g.le) ?_
    intro m8 V8 sa8 sc8 fa8 fc8 fv8 qa qc qla qlc p8 g8 cq cql
    obtain ⟨b8', ⟨hq1, hq2⟩, hq3, hq4⟩ := wk_bnd hfj hr.b
    have hr8 := hr7.go p8 g8 b8' (by omega)
    have kq : Ok (nj + cnt prs[j].1) (wk also prs[j].1 stj).1.fi := ⟨hq1, hq2⟩
    have kql : Ok (nj + cnt prs[j].1) (wk also prs[j].1 stj).1.la := ⟨hq3, hq4⟩
    have hwk2 : wkA also ((prs.map (·.1)).drop (j + 1)) ⟨also fi (wk also prs[j].1 stj).1.fi, also la (wk also prs[j].1 stj).1.la, nu || (wk also prs[j].1 stj).1.nu⟩ (wk also prs[j].1 stj).2 = wkA also (prs.map (·.1)) ⟨[], [], false⟩ st := hwk
    generalize (wk also prs[j].1 stj).1 = q at kq kql cq cql hwk2 ⊢
    generalize (wk also prs[j].1 stj).2 = st8 at p8 b8' hr8 hwk2
    have hn8 : nj + cnt prs[j].1 ≤ 10000 := by omega
    have hn9 : nj + cnt prs[j].1 + cntL ((prs.map (·.1)).drop (j + 1)) ≤ 10000 := by omega
    generalize nj + cnt prs[j].1 = n8 at kq kql b8' hr8 hn8 hn9
    refine ContPt.mk ?_
    refine copyPt ?_
    intro b9 m12 hb9 hle12 h12
    obtain ⟨p12, g12, l9⟩ := p8.mine hle12 hb9 h12
    have hr12 := hr8.go p12 g12 b8' (Nat.le_refl _)
    refine Sub.all ?_
    refine LdV.s0 hr12.l6.at_ (UnS.mk ?_)
    refine LdV.s0 l9.at_ (UnS.mk ?_)
    refine LdV.s1 hr12.l6.at_ (UnS.mk ?_)
    refine LdV.s1 l9.at_ (UnS.mk ?_)
    refine LdV.s2 hr12.l6.at_ (UnB.mk ?_)
    have k1 := hr12.kf.len
    have k2 := kq.len
    have k3 := hr12.kl.len
    have k4 := kql.len
    have cq12 := cq.le g12.le
    have cql12 := cql.le g12.le
    refine also_spec (hr12.cf.le p12.le) rfl (cq12.le p12.le) rfl (by omega) ?_
    intro m14 a1 c1 hle14 hc14 hf14
    dsimp only [Cont]
    refine UnS.mk ?_
    refine Lk.all hle14 ?_
    obtain ⟨p14, g14⟩ := p12.see hle14
    have hr14 := hr12.go p14 g14 b8' (Nat.le_refl _)
    have l914 := l9.go g14
    have hs14 := CellsAt.see (V := V8) hc14 hf14
    refine also_spec (hr14.cl.le p14.le) rfl ((cql12.le g14.le).le p14.le) rfl (by omega) ?_
    intro m16 a2 c2 hle16 hc16 hf16
    dsimp only [Cont]
    refine UnS.mk ?_
    refine Lk.all hle16 ?_
    obtain ⟨p16, g16⟩ := p14.see hle16
    have hr16 := hr14.go p16 g16 b8' (Nat.le_refl _)
    have l916 := l914.go g16
    have hs16 := CellsAt.see (V := see m12 m14 V8) hc16 hf16
    have fin := fun (z : Bool) => hr16.put (nu' := z) (oc' := c1) (olc' := c2) (hs14.le g16.le) hs16 (hr16.kf.also kq) (hr16.kl.also kql)
    refine Br.mk (fun hz => ?_) (fun hz => ?_)
    · refine put3 hr16.l6.at_ ?_
      refine ⟨prs.length - (j + 1), by omega, rfl, rfl, rfl, rfl, rfl, rfl, rfl, rfl, j + 1, _, _, n8, _, _, true, _, _, _, _, _, _, _, _, _, ?_, by omega, rfl, fin true, hn9, ?_⟩
      · rw [wi (by omega) (by omega)]; omega
      · rw [hz] at hwk2; exact hwk2
    · refine LdV.s2 l916.at_ (UnB.mk ?_)
      refine put3 hr16.l6.at_ ?_
      refine ⟨prs.length - (j + 1), by omega, rfl, rfl, rfl, rfl, rfl, rfl, rfl, rfl, j + 1, _, _, n8, _, _, q.nu, _, _, _, _, _, _, _, _, _, ?_, by omega, rfl, fin q.nu, hn9, ?_⟩
      · rw [wi (by omega) (by omega)]; omega
      · rw [hz] at hwk2; exact hwk2
  · have e : (prs.map (·.1)).drop j = [] := List.drop_eq_nil_of_le (by omega)
    rw [e] at hwk
    rw [← hwk] at k
    exact hr.end_ k
theorem walk_sign {x : Int} {S : Nat → Bool} {y : Rx} (h4 : 4 ≤ x) (h6 : x ≤ 6) (hf : form y = true) (ih : WalkS y) : WalkS (.mk x S [y]) := by
  intro m V pb st sa sc fa fc fv n v R h hB hn ha k
  have k1 : x ≠ 1 := by omega
  have k2 : x ≠ 2 := by omega
  have k3 : x ≠ 3 := by omega
  have hcnt : cnt (.mk x S [y]) = cnt y := by unfold cnt; rw [setsOf, if_neg k1, if_neg (by omega), sets1]
  rw [hcnt] at hn
  obtain ⟨prs, a, c, hps, rfl, hl, hb, hc, hp⟩ := ha.inv
  obtain ⟨pr, rfl⟩ : ∃ p, prs = [p] := by
    have := congrArg List.length hps
    rw [List.length_map] at this
    exact List.length_eq_one_iff.mp this.symm
  have hyp : y = pr.1 := by simpa using hps
  subst hyp
  have ewk : wk also (.mk x S [pr.1]) st = wk1 also x [pr.1] st := by unfold wk; rw [if_neg k1, if_neg k2, if_neg k3]
  rw [ewk] at k
  show HC P place_Places_walk.id #[.pointer (some ⟨pb, 0, none⟩), rxA x S (.slice a 1 c)] m R
  refine place_Places_walk.ok _ _ _ _ _ _ _ _ _ _ _ ?_
  refine newRx ?_
  intro b3 m1 hb3 hle1 h3
  obtain ⟨p1, g1, l3⟩ := h.mine hle1 hb3 h3
  intro b4 hb4
  obtain ⟨p2, g2, l4⟩ := p1.mine (Le.set hb4 (.cells zP T_place_part (0, 0))) hb4 (set_same _ _ _)
  have l32 := l3.go g2
  generalize m1.set b4 (.cells zP T_place_part (0, 0)) = m2 at p2 g2 l4 l32 ⊢
  have g02 := g1.trans g2
  have n4 : m b4 = none := hle1.new hb4
  refine LdV.s0 l32.at_ (UnI.mk ?_)
  refine BrEf k1 ?_
  refine BrEf k2 ?_
  refine BrEf k3 ?_
  refine LdV.s5 l32.at_ (UnS.mk ?_)
  obtain ⟨a', l', c', hv⟩ := (hp pr (by simp)).sl
  have haj := hp pr (by simp)
  rw [hv] at haj
  refine IxS.rx6 (prs := [pr]) (hc.le p2.le) (j := 0) (by simp) hv ?_
  refine ih p2 hB (by omega) haj ?_
  intro m8 V8 sa8 sc8 fa8 fc8 fv8 qa qc qla qlc p8 g8 cq cql
  obtain ⟨b8', ⟨hq1, hq2⟩, hq3, hq4⟩ := wk_bnd hf hB
  have kq : Ok (n + cnt pr.1) (wk also pr.1 st).1.fi := ⟨hq1, hq2⟩
  have kql : Ok (n + cnt pr.1) (wk also pr.1 st).1.la := ⟨hq3, hq4⟩
  have k' : KW T_place_Places (Ft pb sa fa) m V pb ⟨(wk also pr.1 st).1.fi, (wk also pr.1 st).1.la, (wk also pr.1 st).1.nu || decide (x ≠ 5)⟩ ⟨(wk also pr.1 st).2.sets, if x ≠ 6 then lk also (wk also pr.1 st).2.fol (wk also pr.1 st).1.la (wk also pr.1 st).1.fi else (wk also pr.1 st).2.fol⟩ R := k
  clear k
  generalize (wk also pr.1 st).1 = q at kq kql cq cql k' ⊢
  generalize (wk also pr.1 st).2 = st8 at p8 b8' k'
  refine ContPt.mk ?_
  refine copyPt ?_
  intro b9 m12 hb9 hle12 h12
  obtain ⟨p12, g12, l9⟩ := p8.mine hle12 hb9 h12
  have l312 := (l32.go g8).go g12
  have l412 := (l4.go g8).go g12
  have g012 := (g02.trans g8).trans g12
  have n9 : m b9 = none := (g02.trans g8).chg.new hb9
  have hne : b9 ≠ b4 := by rintro rfl; rw [(l4.go g8).at_] at hb9; cases hb9
  have hne3 : b9 ≠ b3 := by rintro rfl; rw [(l32.go g8).at_] at hb9; cases hb9
  -- the end
  have fin : ∀ {m5 V5 : Mem} {fv5 : List Value} {st5 : Sta}, PSt T_place_Places m5 V5 pb st5 sa8 sc8 fa8 fc8 fv5 → Gone (Ft pb sa fa) m V (Ft pb sa8 fa8) m5 V5 → Loc (Ft pb sa8 fa8) m5 V5 b3 (.cells (rxO x S (.slice a 1 c)) T_api_Rx (0, 0)) → Loc (Ft pb sa8 fa8) m5 V5 b4 (.cells zP T_place_part (0, 0)) →
      Loc (Ft pb sa8 fa8) m5 V5 b9 (.cells (pO qa q.fi.length qc qla q.la.length qlc q.nu) T_place_part (0, 0)) → CellsAt V5 qa (ints (ns q.fi)) → CellsAt V5 qla (ints (ns q.la)) → KW T_place_Places (Ft pb sa fa) m V pb ⟨q.fi, q.la, q.nu || decide (x ≠ 5)⟩ st5 R → place_Places_walk.k6 b3 0 b4 0 b9 0 R m5 := by
    intro m5 V5 fv5 st5 p5 g5 l35 l45 l95 c5 cl5 kk
    unfold place_Places_walk.k6
    have tail : ∀ z, z = (q.nu || decide (x ≠ 5)) → St1 m5 b9 (0 + 2) (.bool z) fun m1 =>
        LdV m1 b9 0 fun v => UnS v fun x151_0a x151_0l x151_0c => LdV m1 b9 (0 + 1) fun v => UnS v fun x151_1a x151_1l x151_1c => LdV m1 b9 (0 + 2) fun v => UnB v fun x151_2 =>
        St1 m1 b4 0 (.slice x151_0a x151_0l x151_0c) fun m2 => St1 m2 b4 (0 + 1) (.slice x151_1a x151_1l x151_1c) fun m3 => St1 m3 b4 (0 + 2) (.bool x151_2) fun m4 =>
        LdV m4 b4 0 fun v => UnS v fun res0_0a res0_0l res0_0c => LdV m4 b4 (0 + 1) fun v => UnS v fun res0_1a res0_1l res0_1c => LdV m4 b4 (0 + 2) fun v => UnB v fun res0_2 =>
        R (.returned (.agg #[.slice res0_0a res0_0l res0_0c, .slice res0_1a res0_1l res0_1c, .bool res0_2])) m4 := by
      rintro z rfl
      refine St1.to (pO qa q.fi.length qc qla q.la.length qlc (q.nu || decide (x ≠ 5))) l95.at_ (by simp) rfl (by simp) ?_
      have p6 := p5.put l95 (.cells (pO qa q.fi.length qc qla q.la.length qlc (q.nu || decide (x ≠ 5))) T_place_part (0, 0))
      have g6 := g5.locw n9 (.cells (pO qa q.fi.length qc qla q.la.length qlc (q.nu || decide (x ≠ 5))) T_place_part (0, 0))
      have l46 := l45.other hne (ox := .cells (pO qa q.fi.length qc qla q.la.length qlc (q.nu || decide (x ≠ 5))) T_place_part (0, 0))
      refine get3 (set_same _ _ _) ?_
      refine ret3 l46.at_ ?_
      exact kk _ _ sa8 sc8 fa8 fc8 fv5 qa qc qla qlc (p6.put l46 _) (g6.locw n4 _) c5 cl5
    refine LdV.s2 l95.at_ (UnB.mk ?_)
    refine Br.mk (fun hz => ?_) (fun hz => ?_)
    · exact tail true (by rw [hz]; rfl)
    · refine LdV.s0 l35.at_ (UnI.mk ?_)
      refine tail (x != 5) ?_
      rw [hz, Bool.false_or]
      by_cases e : x = 5
      · subst e; rfl
      · rw [decide_eq_true e]; simpa using e
  refine LdV.s0 l312.at_ (UnI.mk ?_)
  refine BrN (fun h6n => ?_) (fun h6e => ?_)
  · rw [if_pos h6n] at k'
    refine LdV.s1 l9.at_ (UnS.mk ?_)
    refine LdV.s0 l9.at_ (UnS.mk ?_)
    refine links_spec p12 b8'.bnd (by omega) (cql.le g12.le) (cq.le g12.le) (fun z hz => by rw [b8'.len]; exact kql.2 z hz) (by have := kql.len; omega) kq ?_
    intro m13 V13 fv13 p13 g13
    dsimp only [Cont]
    refine UnTup.mk (UnNil.mk ?_)
    exact fin p13 (g012.trans g13) (l312.go g13) (l412.go g13) (l9.go g13) ((cq.le g12.le).le g13.le) ((cql.le g12.le).le g13.le) k'
  · rw [if_neg (by simpa using h6e)] at k'
    exact fin p12 g012 l312 l412 l9 (cq.le g12.le) (cql.le g12.le) k'
theorem walk_spec (r : Rx) : form r = true → WalkS r := by
  refine Rx.ind (C := fun r => form r = true → WalkS r) ?_ r
  intro k S ps ih hf
  rcases form_cases hf with ⟨rfl, rfl, hS⟩ | ⟨_, hall, ⟨hk | hk, hlen⟩ | ⟨h4, h6, x, rfl, hx⟩⟩
  · exact walk_leaf
  · subst hk; exact walk_cat (fun a ha => ⟨(hall a ha).2, ih a ha (hall a ha).2⟩)
  · subst hk; exact walk_alt (fun a ha => ⟨(hall a ha).2, ih a ha (hall a ha).2⟩)
  · exact walk_sign h4 h6 (hall x (by simp)).2 (ih x (by simp) (hall x (by simp)).2)
end Go.E.Pl
set_option linter.unusedVariables false
set_option linter.unusedSimpArgs false
set_option maxRecDepth 20000
namespace Go.E.Pl
open Go.H Go.E Go.E.Rg
/-- A way: from a place that reads at i to one that has read ahead of j. -/
inductive Way (w : List UInt8) (A : Nat → UInt8 → Prop) (F : Nat → Nat → Prop) : Nat → Nat → Nat → Nat → Prop where
  | one {p i : Nat} {c : UInt8} : w[i]? = some c → A p c → Way w A F p i p (i + 1)
  | step {p i p' q j : Nat} {c : UInt8} : w[i]? = some c → A p c → F p p' → Way w A F p' (i + 1) q j → Way w A F p i q j
section
variable {w : List UInt8} {A : Nat → UInt8 → Prop} {F G : Nat → Nat → Prop}
theorem Way.mono (h : ∀ a b, F a b → G a b) {p i q j : Nat} (k : Way w A F p i q j) : Way w A G p i q j := by
  induction k with
  | one a b => exact .one a b
  | step a b c _ ih => exact .step a b (h _ _ c) ih
theorem Way.app {p i q x p' q' j : Nat} (k : Way w A F p i q x) (e : F q p') (l : Way w A F p' x q' j) : Way w A F p i q' j := by
  induction k with
  | one a b => exact .step a b e l
  | step a b c _ ih => exact .step a b c (ih e l)
theorem Way.stay {n m : Nat} (h : ∀ a b, In n m a → F a b → G a b ∧ In n m b) {p i q j : Nat} (k : Way w A F p i q j) (hp : In n m p) : Way w A G p i q j ∧ In n m q := by
  induction k with
  | one a b => exact ⟨.one a b, hp⟩
  | step a b c _ ih =>
    obtain ⟨h1, h2⟩ := h _ _ hp c
    obtain ⟨g1, g2⟩ := ih h2
    exact ⟨.step a b h1 g1, g2⟩
/-- One more letter. -/
theorem Way.snoc {p i q j p' : Nat} {c : UInt8} (k : Way w A F p i q j) (e : F q p') (hc : w[j]? = some c) (ha : A p' c) : Way w A F p i p' (j + 1) := k.app e (.one hc ha)
/-- The last letter of a way. -/
theorem Way.last {p i q j : Nat} (k : Way w A F p i q j) : ∃ j', j = j' + 1 ∧ ∃ c, w[j']? = some c ∧ A q c ∧ ((p = q ∧ i = j') ∨ ∃ q', Way w A F p i q' j' ∧ F q' q) := by
  induction k with
  | one a b => exact ⟨_, rfl, _, a, b, .inl ⟨rfl, rfl⟩⟩
  | step a b c _ ih =>
    obtain ⟨j', e, c', h1, h2, h3⟩ := ih
    refine ⟨j', e, c', h1, h2, .inr ?_⟩
    rcases h3 with ⟨rfl, rfl⟩ | ⟨q', h4, h5⟩
    · exact ⟨_, .one a b, c⟩
    · exact ⟨q', .step a b c h4, h5⟩
end
section
variable (w : List UInt8) (A : Nat → UInt8 → Prop)
def Sts (n : Nat) (l : List (Nat → Bool)) : Prop := ∀ k S, l[k]? = some S → ∀ c : UInt8, A (n + k) c ↔ S c.toNat = true
def GL (n : Nat) (r : Rx) : Prop := ∀ i j, M w r i j ↔ (i = j ∧ null r = true) ∨ ∃ p q, Fi n r p ∧ La n r q ∧ Way w A (Fo n r) p i q j
variable {w : List UInt8} {A : Nat → UInt8 → Prop}
theorem Sts.left {n : Nat} {l m : List (Nat → Bool)} (h : Sts A n (l ++ m)) : Sts A n l := fun k S hk => h k S (by
  have : k < l.length := by
    rcases Nat.lt_or_ge k l.length with h | h
    · exact h
    · rw [List.getElem?_eq_none h] at hk; cases hk
  rw [List.getElem?_append_left this]; exact hk)
theorem Sts.right {n : Nat} {l m : List (Nat → Bool)} (h : Sts A n (l ++ m)) : Sts A (n + l.length) m := fun k S hk c => by
  have := h (l.length + k) S (by rw [List.getElem?_append_right (by omega)]; rw [show l.length + k - l.length = k by omega]; exact hk) c
  rw [Nat.add_assoc]; exact this
theorem not_both {n a b x : Nat} (h : In n a x) (k : In (n + a) b x) : False := by unfold In at *; omega
theorem boundsL : ∀ (ps : List Rx) (n : Nat), (∀ x, FiC n ps x → In n (cntL ps) x) ∧ (∀ x, LaC n ps x → In n (cntL ps) x) ∧ (∀ i j, FoC n ps i j → In n (cntL ps) i ∧ In n (cntL ps) j) := by
  intro ps n
  have := bounds (.mk 2 noS ps) n
  have e : cnt (.mk 2 noS ps) = cntL ps := by unfold cnt cntL; rw [setsOf, if_neg (by decide), if_pos (.inl rfl)]
  rw [e] at this
  obtain ⟨h1, h2, h3⟩ := this
  refine ⟨fun x h => h1 x ?_, fun x h => h2 x ?_, fun i j h => h3 i j ?_⟩
  · rw [Fi, if_neg (by decide), if_pos rfl]; exact h
  · rw [La, if_neg (by decide), if_pos rfl]; exact h
  · rw [Fo, if_neg (by decide), if_pos rfl]; exact h
theorem boundsA : ∀ (ps : List Rx) (n : Nat), (∀ x, FiA n ps x → In n (cntL ps) x) ∧ (∀ x, LaA n ps x → In n (cntL ps) x) ∧ (∀ i j, FoA n ps i j → In n (cntL ps) i ∧ In n (cntL ps) j) := by
  intro ps n
  have := bounds (.mk 3 noS ps) n
  have e : cnt (.mk 3 noS ps) = cntL ps := by unfold cnt cntL; rw [setsOf, if_neg (by decide), if_pos (.inr rfl)]
  rw [e] at this
  obtain ⟨h1, h2, h3⟩ := this
  refine ⟨fun x h => h1 x ?_, fun x h => h2 x ?_, fun i j h => h3 i j ?_⟩
  · rw [Fi, if_neg (by decide), if_neg (by decide), if_pos rfl]; exact h
  · rw [La, if_neg (by decide), if_neg (by decide), if_pos rfl]; exact h
  · rw [Fo, if_neg (by decide), if_neg (by decide), if_pos rfl]; exact h
/-- A way over a row begins in its first one, and crosses at most once. -/
theorem cross {n : Nat} {r : Rx} {rs : List Rx} {p i q j : Nat} (k : Way w A (FoC n (r :: rs)) p i q j) (hp : In n (cnt r) p) :
    (Way w A (Fo n r) p i q j ∧ In n (cnt r) q) ∨ ∃ q1 x p2, Way w A (Fo n r) p i q1 x ∧ La n r q1 ∧ FiC (n + cnt r) rs p2 ∧ Way w A (FoC (n + cnt r) rs) p2 x q j ∧ In (n + cnt r) (cntL rs) q := by
  obtain ⟨A1, A2, A3⟩ := bounds r n
  obtain ⟨B1, B2, B3⟩ := boundsL rs (n + cnt r)
  induction k with
  | one a b => exact .inl ⟨.one a b, hp⟩
  | step a b c l ih =>
    rw [FoC] at c
    rcases c with c | c | ⟨c, d⟩
    · rcases ih (A3 _ _ c).2 with ⟨h1, h2⟩ | ⟨q1, x, p2, h1, h2⟩
      · exact .inl ⟨.step a b c h1, h2⟩
      · exact .inr ⟨q1, x, p2, .step a b c h1, h2⟩
    · exact (not_both hp (B3 _ _ c).1).elim
    · obtain ⟨g1, g2⟩ := l.stay (G := FoC (n + cnt r) rs) (n := n + cnt r) (m := cntL rs) (fun u v hu huv => by
        rw [FoC] at huv
        rcases huv with h | h | ⟨h, _⟩
        · exact (not_both (A3 _ _ h).1 hu).elim
        · exact ⟨h, (B3 _ _ h).2⟩
        · exact (not_both (A2 _ h) hu).elim) (B1 _ d)
      exact .inr ⟨_, _, _, .one a b, c, d, g1, g2⟩
theorem gluC : ∀ (ps : List Rx), (∀ a ∈ ps, ∀ n, Sts A n (setsOf a) → GL w A n a) → ∀ n, Sts A n (setsL ps) → ∀ i j, MC w ps i j ↔ (i = j ∧ nullA ps = true) ∨ ∃ p q, FiC n ps p ∧ LaC n ps q ∧ Way w A (FoC n ps) p i q j := by
  intro ps
  induction ps with
  | nil => intro _ n _ i j; simp [MC, nullA, FiC]
  | cons r rs ih =>
    intro hg n hs i j
    rw [setsL] at hs
    have g := hg r (by simp) n hs.left
    have gs := ih (fun a ha => hg a (by simp [ha])) (n + cnt r) hs.right
    obtain ⟨A1, A2, A3⟩ := bounds r n
    obtain ⟨B1, B2, B3⟩ := boundsL rs (n + cnt r)
    have m1 : ∀ {p i q j}, Way w A (Fo n r) p i q j → Way w A (FoC n (r :: rs)) p i q j := fun h => h.mono (fun a b h => by rw [FoC]; exact .inl h)
    have m2 : ∀ {p i q j}, Way w A (FoC (n + cnt r) rs) p i q j → Way w A (FoC n (r :: rs)) p i q j := fun h => h.mono (fun a b h => by rw [FoC]; exact .inr (.inl h))
    rw [MC, nullA]
    constructor
    · rintro ⟨x, h1, h2⟩
      rcases (g i x).mp h1 with ⟨rfl, n1⟩ | ⟨p, q, f1, l1, w1⟩
      · rcases (gs i j).mp h2 with ⟨rfl, n2⟩ | ⟨p, q, f2, l2, w2⟩
        · exact .inl ⟨rfl, by rw [n1, n2]; rfl⟩
        · refine .inr ⟨p, q, ?_, ?_, m2 w2⟩
          · rw [FiC]; exact .inr ⟨n1, f2⟩
          · rw [LaC]; exact .inr l2
      · rcases (gs x j).mp h2 with ⟨rfl, n2⟩ | ⟨p', q', f2, l2, w2⟩
        · refine .inr ⟨p, q, ?_, ?_, m1 w1⟩
          · rw [FiC]; exact .inl f1
          · rw [LaC]; exact .inl ⟨n2, l1⟩
        · refine .inr ⟨p, q', ?_, ?_, (m1 w1).app ?_ (m2 w2)⟩
          · rw [FiC]; exact .inl f1
          · rw [LaC]; exact .inr l2
          · rw [FoC]; exact .inr (.inr ⟨l1, f2⟩)
    · rintro (⟨rfl, h⟩ | ⟨p, q, f, l, k⟩)
      · rw [Bool.and_eq_true] at h
        exact ⟨i, (g i i).mpr (.inl ⟨rfl, h.1⟩), (gs i i).mpr (.inl ⟨rfl, h.2⟩)⟩
      · rw [FiC] at f
        rw [LaC] at l
        rcases f with f | ⟨n1, f⟩
        · rcases cross k (A1 _ f) with ⟨h1, h2⟩ | ⟨q1, x, p2, h1, h2, h3, h4, h5⟩
          · rcases l with ⟨n2, l⟩ | l
            · exact ⟨j, (g i j).mpr (.inr ⟨p, q, f, l, h1⟩), (gs j j).mpr (.inl ⟨rfl, n2⟩)⟩
            · exact (not_both h2 (B2 _ l)).elim
          · rcases l with ⟨n2, l⟩ | l
            · exact (not_both (A2 _ l) h5).elim
            · exact ⟨x, (g i x).mpr (.inr ⟨p, q1, f, h2, h1⟩), (gs x j).mpr (.inr ⟨p2, q, h3, l, h4⟩)⟩
        · obtain ⟨g1, g2⟩ := k.stay (G := FoC (n + cnt r) rs) (n := n + cnt r) (m := cntL rs) (fun u v hu huv => by
            rw [FoC] at huv
            rcases huv with h | h | ⟨h, _⟩
            · exact (not_both (A3 _ _ h).1 hu).elim
            · exact ⟨h, (B3 _ _ h).2⟩
            · exact (not_both (A2 _ h) hu).elim) (B1 _ f)
          rcases l with ⟨_, l⟩ | l
          · exact (not_both (A2 _ l) g2).elim
          · exact ⟨i, (g i i).mpr (.inl ⟨rfl, n1⟩), (gs i j).mpr (.inr ⟨p, q, f, l, g1⟩)⟩
theorem gluA : ∀ (ps : List Rx), (∀ a ∈ ps, ∀ n, Sts A n (setsOf a) → GL w A n a) → ∀ n, Sts A n (setsL ps) → ∀ i j, MA w ps i j ↔ (i = j ∧ nullE ps = true) ∨ ∃ p q, FiA n ps p ∧ LaA n ps q ∧ Way w A (FoA n ps) p i q j := by
  intro ps
  induction ps with
  | nil => intro _ n _ i j; simp [MA, nullE, FiA]
  | cons r rs ih =>
    intro hg n hs i j
    rw [setsL] at hs
    have g := hg r (by simp) n hs.left
    have gs := ih (fun a ha => hg a (by simp [ha])) (n + cnt r) hs.right
    obtain ⟨A1, A2, A3⟩ := bounds r n
    obtain ⟨B1, B2, B3⟩ := boundsA rs (n + cnt r)
    rw [MA, nullE, g i j, gs i j, Bool.or_eq_true]
    constructor
    · rintro ((⟨rfl, h⟩ | ⟨p, q, f, l, k⟩) | ⟨rfl, h⟩ | ⟨p, q, f, l, k⟩)
      · exact .inl ⟨rfl, .inl h⟩
      · refine .inr ⟨p, q, ?_, ?_, k.mono (fun a b h => by rw [FoA]; exact .inl h)⟩
        · rw [FiA]; exact .inl f
        · rw [LaA]; exact .inl l
      · exact .inl ⟨rfl, .inr h⟩
      · refine .inr ⟨p, q, ?_, ?_, k.mono (fun a b h => by rw [FoA]; exact .inr h)⟩
        · rw [FiA]; exact .inr f
        · rw [LaA]; exact .inr l
    · rintro (⟨rfl, h | h⟩ | ⟨p, q, f, l, k⟩)
      · exact .inl (.inl ⟨rfl, h⟩)
      · exact .inr (.inl ⟨rfl, h⟩)
      · rw [FiA] at f
        rw [LaA] at l
        rcases f with f | f
        · obtain ⟨g1, g2⟩ := k.stay (G := Fo n r) (n := n) (m := cnt r) (fun u v hu huv => by
            rw [FoA] at huv
            rcases huv with h | h
            · exact ⟨h, (A3 _ _ h).2⟩
            · exact (not_both hu (B3 _ _ h).1).elim) (A1 _ f)
          rcases l with l | l
          · exact .inl (.inr ⟨p, q, f, l, g1⟩)
          · exact (not_both g2 (B2 _ l)).elim
        · obtain ⟨g1, g2⟩ := k.stay (G := FoA (n + cnt r) rs) (n := n + cnt r) (m := cntL rs) (fun u v hu huv => by
            rw [FoA] at huv
            rcases huv with h | h
            · exact (not_both (A3 _ _ h).1 hu).elim
            · exact ⟨h, (B3 _ _ h).2⟩) (B1 _ f)
          rcases l with l | l
          · exact (not_both (A2 _ l) g2).elim
          · exact .inr (.inr ⟨p, q, f, l, g1⟩)
theorem toStar {n : Nat} {r : Rx} {F : Nat → Nat → Prop} (g : GL w A n r) (hF : ∀ a b, F a b → Fo n r a b ∨ (La n r a ∧ Fi n r b)) {p i q j : Nat} (k : Way w A F p i q j) (hq : La n r q) :
    ∃ q1 x, Way w A (Fo n r) p i q1 x ∧ La n r q1 ∧ Star (M w r) x j := by
  induction k with
  | one a b => exact ⟨_, _, .one a b, hq, .refl _⟩
  | step a b c l ih =>
    obtain ⟨q1, x, h1, h2, h3⟩ := ih hq
    rcases hF _ _ c with c | ⟨c, d⟩
    · exact ⟨q1, x, .step a b c h1, h2, h3⟩
    · exact ⟨_, _, .one a b, c, .step ((g _ _).mpr (.inr ⟨_, _, d, h2, h1⟩)) h3⟩
theorem ofStar {n : Nat} {r : Rx} {F : Nat → Nat → Prop} (g : GL w A n r) (h1 : ∀ a b, Fo n r a b → F a b) (h2 : ∀ a b, La n r a → Fi n r b → F a b) {i j : Nat} (k : Star (M w r) i j) : i = j ∨ ∃ p q, Fi n r p ∧ La n r q ∧ Way w A F p i q j := by
  induction k with
  | refl i => exact .inl rfl
  | step a _ ih =>
    rcases (g _ _).mp a with ⟨rfl, _⟩ | ⟨p, q, f, l, k⟩
    · exact ih
    · rcases ih with rfl | ⟨p', q', f', l', k'⟩
      · exact .inr ⟨p, q, f, l, k.mono h1⟩
      · exact .inr ⟨p, q', f, l', (k.mono h1).app (h2 _ _ l f') k'⟩
theorem glu (r : Rx) : form r = true → ∀ n, Sts A n (setsOf r) → GL w A n r := by
  refine Rx.ind (C := fun r => form r = true → ∀ n, Sts A n (setsOf r) → GL w A n r) ?_ r
  intro k S ps ih hf n hs i j
  rcases form_cases hf with ⟨rfl, rfl, hS⟩ | ⟨_, hall, ⟨hk | hk, hlen⟩ | ⟨h4, h6, x, rfl, hx⟩⟩
  · rw [setsOf, if_pos rfl] at hs
    have hA := hs 0 S rfl
    rw [M, if_pos rfl, null, if_neg (by decide), if_neg (by decide), if_neg (by decide)]
    constructor
    · rintro ⟨rfl, c, hc, hS⟩
      refine .inr ⟨n, n, ?_, ?_, .one hc ((hA c).mpr hS)⟩
      · rw [Fi, if_pos rfl]
      · rw [La, if_pos rfl]
    · rintro (⟨_, h⟩ | ⟨p, q, f, l, k⟩)
      · cases h
      · rw [Fi, if_pos rfl] at f
        subst f
        cases k with
        | one a b => exact ⟨rfl, _, a, (hA _).mp b⟩
        | step a b c _ => rw [Fo, if_pos rfl] at c; exact c.elim
  · subst hk
    rw [setsOf, if_neg (by decide), if_pos (.inl rfl)] at hs
    have := gluC ps (fun a ha n hs => ih a ha (hall a ha).2 n hs) n hs i j
    rw [M, if_neg (by decide), if_pos rfl, this, null, if_neg (by decide), if_pos (.inl rfl)]
    have e : Fo n (.mk 2 S ps) = FoC n ps := by funext a b; rw [Fo, if_neg (by decide), if_pos rfl]
    have e1 : Fi n (.mk 2 S ps) = FiC n ps := by funext a; rw [Fi, if_neg (by decide), if_pos rfl]
    have e2 : La n (.mk 2 S ps) = LaC n ps := by funext a; rw [La, if_neg (by decide), if_pos rfl]
    rw [e, e1, e2]
  · subst hk
    rw [setsOf, if_neg (by decide), if_pos (.inr rfl)] at hs
    have := gluA ps (fun a ha n hs => ih a ha (hall a ha).2 n hs) n hs i j
    rw [M, if_neg (by decide), if_neg (by decide), if_pos rfl, this, null, if_neg (by decide), if_neg (by decide), if_pos rfl]
    have e : Fo n (.mk 3 S ps) = FoA n ps := by funext a b; rw [Fo, if_neg (by decide), if_neg (by decide), if_pos rfl]
    have e1 : Fi n (.mk 3 S ps) = FiA n ps := by funext a; rw [Fi, if_neg (by decide), if_neg (by decide), if_pos rfl]
    have e2 : La n (.mk 3 S ps) = LaA n ps := by funext a; rw [La, if_neg (by decide), if_neg (by decide), if_pos rfl]
    rw [e, e1, e2]
  · have k1 : k ≠ 1 := by omega
    have k2 : k ≠ 2 := by omega
    have k3 : k ≠ 3 := by omega
    rw [setsOf, if_neg k1, if_neg (by omega), sets1] at hs
    have g := ih x (by simp) (hall x (by simp)).2 n hs
    have e : ∀ a b, Fo n (.mk k S [x]) a b ↔ (Fo n x a b ∨ (k ≠ 6 ∧ La n x a ∧ Fi n x b)) := by intro a b; rw [Fo, if_neg k1, if_neg k2, if_neg k3, Fo1]
    have e1 : Fi n (.mk k S [x]) = Fi n x := by funext a; rw [Fi, if_neg k1, if_neg k2, if_neg k3, Fi1]
    have e2 : La n (.mk k S [x]) = La n x := by funext a; rw [La, if_neg k1, if_neg k2, if_neg k3, La1]
    have eM : M1 w [x] = M w x := by funext i j; rw [M1]
    rw [M, if_neg k1, if_neg k2, if_neg k3, eM, e1, e2, null]
    have hF : ∀ a b, Fo n (.mk k S [x]) a b → Fo n x a b ∨ (La n x a ∧ Fi n x b) := fun a b h => by
      rcases (e a b).mp h with h | ⟨_, h⟩
      · exact .inl h
      · exact .inr h
    by_cases hk6 : k = 6
    · subst hk6
      rw [if_pos rfl, if_pos (.inr rfl), g i j]
      have eF : Fo n (.mk 6 S [x]) = Fo n x := by
        funext a b
        have := e a b
        exact propext ⟨fun h => by rcases this.mp h with h | ⟨h, _⟩; exact h; exact absurd rfl h, fun h => this.mpr (.inl h)⟩
      rw [eF]
      constructor
      · rintro (h | ⟨h, _⟩ | h)
        · exact .inl ⟨h, rfl⟩
        · exact .inl ⟨h, rfl⟩
        · exact .inr h
      · rintro (⟨h, _⟩ | h)
        · exact .inl h
        · exact .inr (.inr h)
    · rw [if_neg hk6]
      have h1 : ∀ a b, Fo n x a b → Fo n (.mk k S [x]) a b := fun a b h => (e a b).mpr (.inl h)
      have h2 : ∀ a b, La n x a → Fi n x b → Fo n (.mk k S [x]) a b := fun a b h h' => (e a b).mpr (.inr ⟨hk6, h, h'⟩)
      by_cases hk4 : k = 4
      · rw [if_pos hk4, if_pos (.inl hk4)]
        constructor
        · intro h
          rcases ofStar g h1 h2 h with h | h
          · exact .inl ⟨h, rfl⟩
          · exact .inr h
        · rintro (⟨rfl, _⟩ | ⟨p, q, f, l, k⟩)
          · exact .refl _
          · obtain ⟨q1, y, a, b, c⟩ := toStar g hF k l
            exact .step ((g _ _).mpr (.inr ⟨p, q1, f, b, a⟩)) c
      · rw [if_neg hk4, if_neg (by omega), if_pos (.inr (by omega)), nullA, nullA, Bool.and_true]
        constructor
        · rintro ⟨y, h, hst⟩
          rcases (g _ _).mp h with ⟨rfl, hn⟩ | ⟨p, q, f, l, k⟩
          · rcases ofStar g h1 h2 hst with h | h
            · exact .inl ⟨h, hn⟩
            · exact .inr h
          · rcases ofStar g h1 h2 hst with rfl | ⟨p', q', f', l', k'⟩
            · exact .inr ⟨p, q, f, l, k.mono h1⟩
            · exact .inr ⟨p, q', f, l', (k.mono h1).app (h2 _ _ l f') k'⟩
        · rintro (⟨rfl, hn⟩ | ⟨p, q, f, l, k⟩)
          · exact ⟨i, (g i i).mpr (.inl ⟨rfl, hn⟩), .refl _⟩
          · obtain ⟨q1, y, a, b, c⟩ := toStar g hF k l
            exact ⟨y, (g _ _).mpr (.inr ⟨p, q1, f, b, a⟩), c⟩
end
end Go.E.Pl
set_option linter.unusedVariables false
set_option linter.unusedSimpArgs false
set_option maxRecDepth 20000
namespace Go.E.Pl
open Go.H Go.E Go.E.Rg
theorem cnt_nodes (r : Rx) : cnt r ≤ nodes r := by
  refine Rx.rec (motive_1 := fun r => cnt r ≤ nodes r) (motive_2 := fun ps => cntL ps ≤ nodesL ps ∧ (sets1 ps).length ≤ nodesL ps) ?_ ?_ ?_ r
  · intro k S ps ⟨h1, h2⟩
    unfold cnt nodes
    rw [setsOf]
    split
    · simp
    · split
      · unfold cntL at h1; omega
      · omega
  · simp [cntL, setsL, sets1, nodesL]
  · intro r rs h1 ⟨h2, h3⟩
    rw [cntL_cons, nodesL, sets1]
    unfold cnt at h1
    refine ⟨?_, ?_⟩
    · unfold cnt; omega
    · omega
theorem may_cnt {r : Rx} (h : may r = 0) : cnt r ≤ 40 := Nat.le_trans (cnt_nodes r) (may_form h).2.1
/-- The places of an expression, by relations. -/
structure PlOK (r : Rx) (p : Plc) : Prop where
  sets : p.sets = setsOf r
  len : p.fol.length = cnt r
  nu : p.nu = null r
  fi : ∀ x, x ∈ p.fi ↔ Fi 0 r x
  la : ∀ x, x ∈ p.la ↔ La 0 r x
  fo : ∀ i j, j ∈ p.fol.getD i [] ↔ Fo 0 r i j
  rfi : Rz p.fi
  rla : Rz p.la
  rfo : ∀ l ∈ p.fol, Rz l
theorem plc_ok {r : Rx} (hf : form r = true) : PlOK r (plc r) := by
  have h := walk_ok (J := also) (fun a b x => also_mem) r hf ⟨[], []⟩ rfl
  obtain ⟨g1, g2⟩ := walk_rz r ⟨[], []⟩ (fun l hl => by cases hl)
  refine ⟨by show (wk also r ⟨[], []⟩).2.sets = _; rw [h.sets]; rfl, ?_, h.nu, h.fi, h.la, fun i j => ?_, g1.1, g1.2, g2⟩
  · show (wk also r ⟨[], []⟩).2.fol.length = _
    rw [h.fol_lt]; simp
  · have := h.fo i j
    show j ∈ (wk also r ⟨[], []⟩).2.fol.getD i [] ↔ _
    rw [this]
    simp
theorem PlOK.la_lt {r : Rx} {p : Plc} (h : PlOK r p) : ∀ x ∈ p.la, x < cnt r := fun x hx => by have := ((bounds r 0).2.1 x ((h.la x).mp hx)).2; omega
theorem PlOK.fo_lt {r : Rx} {p : Plc} (h : PlOK r p) : ∀ l ∈ p.fol, ∀ x ∈ l, x < cnt r := fun l hl x hx => by
  obtain ⟨i, hi, rfl⟩ := List.getElem_of_mem hl
  have := (h.fo i x).mp (by rw [List.getD_eq_getElem?_getD, List.getElem?_eq_getElem hi]; exact hx)
  have := ((bounds r 0).2.2 _ _ this).2.2
  omega
section
variable (w : List UInt8) (A : Nat → UInt8 → Prop) (F : Nat → Nat → Prop) (I : Nat → Prop)
def Rch : Nat → Nat → Prop
  | 0, x => I x
  | i + 1, x => ∃ p, Rch i p ∧ (∃ c, w[i]? = some c ∧ A p c) ∧ F p x
variable {w : List UInt8} {A : Nat → UInt8 → Prop} {F : Nat → Nat → Prop} {I : Nat → Prop}
theorem rch_way : ∀ i p, (Rch w A F I i p ∧ ∃ c, w[i]? = some c ∧ A p c) ↔ ∃ q, I q ∧ Way w A F q 0 p (i + 1) := by
  intro i
  induction i with
  | zero =>
    intro p
    constructor
    · rintro ⟨h, c, h1, h2⟩; exact ⟨p, h, .one h1 h2⟩
    · rintro ⟨q, h, k⟩
      obtain ⟨j', e, c, h1, h2, h3⟩ := k.last
      have : j' = 0 := by omega
      subst this
      rcases h3 with ⟨rfl, _⟩ | ⟨q', h4, _⟩
      · exact ⟨h, c, h1, h2⟩
      · obtain ⟨_, e, _⟩ := h4.last; omega
  | succ i ih =>
    intro p
    constructor
    · rintro ⟨⟨p', h1, h2, h3⟩, c, h4, h5⟩
      obtain ⟨q, hq, k⟩ := (ih p').mp ⟨h1, h2⟩
      exact ⟨q, hq, k.snoc h3 h4 h5⟩
    · rintro ⟨q, hq, k⟩
      obtain ⟨j', e, c, h1, h2, h3⟩ := k.last
      have : j' = i + 1 := by omega
      subst this
      rcases h3 with ⟨_, h⟩ | ⟨q', h4, h5⟩
      · omega
      · obtain ⟨g1, g2⟩ := (ih q').mpr ⟨q, hq, h4⟩
        exact ⟨⟨q', g1, g2, h5⟩, c, h1, h2⟩
end
/-- What a set says of a byte. -/
def At (sets : List (Nat → Bool)) (p : Nat) (c : UInt8) : Prop := ∃ S, sets[p]? = some S ∧ S c.toNat = true
theorem at_sts (l : List (Nat → Bool)) : Sts (At l) 0 l := by
  intro k S hk c
  rw [Nat.zero_add]
  constructor
  · rintro ⟨S', h1, h2⟩; rw [hk] at h1; cases h1; exact h2
  · intro h; exact ⟨S, hk, h⟩
theorem spells {r : Rx} (h : may r = 0) {w : List UInt8} : isIn r w = true ↔ (w = [] ∧ null r = true) ∨ ∃ m q, w.length = m + 1 ∧ Rch w (At (setsOf r)) (Fo 0 r) (Fi 0 r) m q ∧ (∃ c, w[m]? = some c ∧ At (setsOf r) q c) ∧ La 0 r q := by
  rw [isIn_iff, glu (w := w) (A := At (setsOf r)) r (may_form h).1 0 (at_sts _) 0 w.length]
  constructor
  · rintro ⟨_, ⟨h0, hn⟩ | ⟨p, q, f, l, k⟩⟩
    · exact .inl ⟨List.length_eq_zero_iff.mp h0.symm, hn⟩
    · obtain ⟨m, e, _⟩ := k.last
      refine .inr ⟨m, q, e, ?_⟩
      rw [e] at k
      obtain ⟨g1, g2⟩ := (rch_way m q).mpr ⟨p, f, k⟩
      exact ⟨g1, g2, l⟩
  · rintro (⟨rfl, hn⟩ | ⟨m, q, e, h1, h2, h3⟩)
    · exact ⟨h, .inl ⟨rfl, hn⟩⟩
    · obtain ⟨p, f, k⟩ := (rch_way m q).mp ⟨h1, h2⟩
      exact ⟨h, .inr ⟨p, q, f, h3, by rw [e]; exact k⟩⟩
end Go.E.Pl
set_option linter.unusedVariables false
set_option linter.unusedSimpArgs false
set_option maxRecDepth 20000
namespace Go.E.Pl
open Go.H Go.E Go.E.Rg
attribute [local irreducible] BiN MkS ConvN LookN MapUpN CallV HC
/-- Where a Places' four rows lie. -/
structure Ads where
  sa : Option Addr
  sc : Nat
  ia : Option Addr
  ic : Nat
  la : Option Addr
  lc : Nat
  fa : Option Addr
  fc : Nat
abbrev lO (A : Ads) (p : Plc) : Array Value := #[.slice A.sa p.sets.length A.sc, .slice A.ia p.fi.length A.ic, .slice A.la p.la.length A.lc, .slice A.fa p.fol.length A.fc, .bool p.nu]
/-- A Places in memory. -/
structure PlV (m : Mem) (p : Plc) (A : Ads) : Prop where
  cs : CellsAt m A.sa (p.sets.flatMap four)
  cf : CellsAt m A.ia (ints (ns p.fi))
  cl : CellsAt m A.la (ints (ns p.la))
  co : ∃ fv, CellsAt m A.fa fv ∧ RowsOK m p.fol fv
theorem PlV.le {m m' : Mem} {p : Plc} {A : Ads} (h : PlV m p A) (k : Le m m') : PlV m' p A := ⟨h.cs.le k, h.cf.le k, h.cl.le k, by obtain ⟨fv, h1, h2⟩ := h.co; exact ⟨fv, h1.le k, h2.le k⟩⟩
def pl0 : Plc := ⟨[], [], [], [], false⟩
def ads0 : Ads := ⟨none, 0, none, 0, none, 0, none, 0⟩
theorem PlV.zero (m : Mem) : PlV m pl0 ads0 := ⟨CellsAt.empty _ _, CellsAt.empty _ _, CellsAt.empty _ _, [], CellsAt.empty _ _, rfl, fun i l h => by cases h⟩
def ofP (r : Rx) : Plc × Int := if may r = 0 then (plc r, 0) else (pl0, may r)
theorem ofP_ok {r : Rx} (h : may r = 0) : ofP r = (plc r, 0) := by unfold ofP; rw [if_pos h]
theorem ofP_no {r : Rx} (h : may r ≠ 0) : ofP r = (pl0, may r) := by unfold ofP; rw [if_neg h]
section
variable {m : Mem} {b : Nat} {e : TypeId}
theorem put5 {x0 x1 x2 x3 x4 u0 u1 u2 u3 u4 : Value} {K : Mem → Prop} (h : m b = some (.cells #[x0, x1, x2, x3, x4] e (0, 0))) (h0 : notOne u0 = false) (h1 : notOne u1 = false) (h2 : notOne u2 = false) (h3 : notOne u3 = false) (h4 : notOne u4 = false)
    (q : K (m.set b (.cells #[u0, u1, u2, u3, u4] e (0, 0)))) : St1 m b 0 u0 fun m1 => St1 m1 b 1 u1 fun m2 => St1 m2 b 2 u2 fun m3 => St1 m3 b 3 u3 fun m4 => St1 m4 b 4 u4 K := by
  refine St1.to #[u0, x1, x2, x3, x4] h (by simp) h0 (by simp) ?_
  refine St1.to #[u0, u1, x2, x3, x4] (set_same _ _ _) (by simp) h1 (by simp) ?_
  rw [set_set]
  refine St1.to #[u0, u1, u2, x3, x4] (set_same _ _ _) (by simp) h2 (by simp) ?_
  rw [set_set]
  refine St1.to #[u0, u1, u2, u3, x4] (set_same _ _ _) (by simp) h3 (by simp) ?_
  rw [set_set]
  refine St1.to #[u0, u1, u2, u3, u4] (set_same _ _ _) (by simp) h4 (by simp) ?_
  rw [set_set]
  exact q
theorem get5 {A : Ads} {p : Plc} {fr : Nat × Nat} {K : Option Addr → Nat → Nat → Option Addr → Nat → Nat → Option Addr → Nat → Nat → Option Addr → Nat → Nat → Bool → Prop} (h : m b = some (.cells (lO A p) e fr))
    (q : K A.sa p.sets.length A.sc A.ia p.fi.length A.ic A.la p.la.length A.lc A.fa p.fol.length A.fc p.nu) :
    LdV m b 0 fun v => UnS v fun x0a x0l x0c => LdV m b 1 fun v => UnS v fun x1a x1l x1c => LdV m b 2 fun v => UnS v fun x2a x2l x2c => LdV m b 3 fun v => UnS v fun x3a x3l x3c => LdV m b 4 fun v => UnB v fun z => K x0a x0l x0c x1a x1l x1c x2a x2l x2c x3a x3l x3c z :=
  LdV.s0 h (LdV.s1 h (LdV.s2 h (LdV.s3 h (LdV.s4 h q))))
theorem ContPl.mk {A : Ads} {p : Plc} {x : Int} {K : Option Addr → Nat → Nat → Option Addr → Nat → Nat → Option Addr → Nat → Nat → Option Addr → Nat → Nat → Bool → Int → Mem → Prop} {Pn : List PanicEntry → Mem → Prop} (h : K A.sa p.sets.length A.sc A.ia p.fi.length A.ic A.la p.la.length A.lc A.fa p.fol.length A.fc p.nu x m) :
    Cont (fun v m => UnTup v fun us0 => UnCons us0 fun w us1 => UnAgg w fun l => UnCons l fun v l => UnS v fun x0a x0l x0c => UnCons l fun v l => UnS v fun x1a x1l x1c => UnCons l fun v l => UnS v fun x2a x2l x2c => UnCons l fun v l => UnS v fun x3a x3l x3c => UnCons l fun v l => UnB v fun z => UnNil l (
      UnCons us1 fun w us2 => UnI w .i64 fun x => UnNil us2 (K x0a x0l x0c x1a x1l x1c x2a x2l x2c x3a x3l x3c z x m))) Pn (.returned (.tuple #[.agg (lO A p), .int .i64 x])) m := h
/-- A result in a place of its own. -/
theorem own5 {A : Ads} {p : Plc} {x0 x1 x2 x3 x4 : Value} {K : Nat → Mem → Prop} (h : ∀ b m1, m b = none → Le m m1 → m1 b = some (.cells (lO A p) e (0, 0)) → K b m1) :
    NewC m #[x0, x1, x2, x3, x4] e fun b m1 => St1 m1 b 0 (.slice A.sa p.sets.length A.sc) fun m2 => St1 m2 b 1 (.slice A.ia p.fi.length A.ic) fun m3 => St1 m3 b 2 (.slice A.la p.la.length A.lc) fun m4 => St1 m4 b 3 (.slice A.fa p.fol.length A.fc) fun m5 => St1 m5 b 4 (.bool p.nu) fun m6 => K b m6 := by
  intro b hb
  refine put5 (set_same _ _ _) rfl rfl rfl rfl rfl ?_
  rw [set_set]
  exact h b _ hb (Le.set hb _) (set_same _ _ _)
end
theorem Of_spec {r : Rx} {m : Mem} {v : Value} {R : Ending → Mem → Prop} (ha : ArgC m r v) (hn : nodes r ≤ 4000000000000000000) (k : ∀ m' A, Le m m' → PlV m' (ofP r).1 A → R (.returned (.tuple #[.agg (lO A (ofP r).1), .int .i64 (ofP r).2])) m') :
    HC P place_Of.id #[rxA r.k r.S v] m R := by
  obtain ⟨a, l, c, rfl⟩ := ha.sl
  refine place_Of.ok _ _ _ _ _ _ _ _ _ _ ?_
  refine newRx ?_
  intro b1 m1 hb1 hle1 h1
  intro b2 hb2
  have hle2 := Le.set hb2 (.cells #[.slice none 0 0, .slice none 0 0, .slice none 0 0, .slice none 0 0, .bool false] T_place_Places (0, 0))
  have h12 := hle2 _ _ h1
  have h2 : (m1.set b2 (.cells #[.slice none 0 0, .slice none 0 0, .slice none 0 0, .slice none 0 0, .bool false] T_place_Places (0, 0))) b2 = _ := set_same _ _ _
  generalize m1.set b2 (.cells #[.slice none 0 0, .slice none 0 0, .slice none 0 0, .slice none 0 0, .bool false] T_place_Places (0, 0)) = m2 at hle2 h12 h2 ⊢
  have w2 : m b2 = none := hle1.new hb2
  have l2 := hle1.trans hle2
  refine get6 h12 ?_
  refine May_spec (ha.le l2) hn ?_
  intro m3 hle3
  dsimp only [Cont]
  refine UnI.mk ?_
  have l3 := l2.trans hle3
  have h23 := hle3 _ _ h2
  have h13 := hle3 _ _ h12
  refine BrN (fun h0 => ?_) (fun h0 => ?_)
  · rw [ofP_no h0] at k
    refine put5 (u0 := .slice none 0 0) h23 rfl rfl rfl rfl rfl ?_
    refine get5 (A := ads0) (p := pl0) (set_same _ _ _) ?_
    refine k _ ads0 ?_ (PlV.zero _)
    exact (Chg.set m3 b2 _).to_le l3 (fun b e => by rw [show b = b2 from e]; exact w2)
  · rw [ofP_ok h0] at k
    have hf := (may_form h0).1
    have hcnt := may_cnt h0
    intro b5 hb5
    have hle4 := Le.set hb5 (.cells #[.slice none 0 0, .slice none 0 0, .slice none 0 0, .slice none 0 0, .bool false] T_place_Places (0, 0))
    have h5 : (m3.set b5 (.cells #[.slice none 0 0, .slice none 0 0, .slice none 0 0, .slice none 0 0, .bool false] T_place_Places (0, 0))) b5 = _ := set_same _ _ _
    have h14 := hle4 _ _ h13
    have h24 := hle4 _ _ h23
    generalize m3.set b5 (.cells #[.slice none 0 0, .slice none 0 0, .slice none 0 0, .slice none 0 0, .bool false] T_place_Places (0, 0)) = m4 at hle4 h5 h14 h24 ⊢
    have w5 : m b5 = none := l3.new hb5
    have hne52 : b2 ≠ b5 := by rintro rfl; rw [h23] at hb5; cases hb5
    refine get6 h14 ?_
    have p4 : PSt T_place_Places m4 m b5 ⟨[], []⟩ none 0 none 0 [] := ⟨l3.trans hle4, h5, Own.nil _ _ _, Own.nil _ _ _, ⟨rfl, fun i l h => by cases h⟩, fun b hb => (by rcases hb with rfl | e | e; exact w5; cases e; cases e), fun e => (by cases e), fun e => (by cases e), fun b e => (by cases e)⟩
    have l24 : Loc (Ft b5 none none) m4 m b2 (.cells #[.slice none 0 0, .slice none 0 0, .slice none 0 0, .slice none 0 0, .bool false] T_place_Places (0, 0)) := ⟨h24, w2, fun e => (by rcases e with e | e | e; exact hne52 e; cases e; cases e)⟩
    have hb0 : StB 0 ⟨[], []⟩ := ⟨rfl, rfl, fun l h => by cases h⟩
    refine walk_spec r hf p4 hb0 (by omega) ha ?_
    intro m5 V5 sa sc fa fc fv qa qc qla qlc p5 g5 cq cql
    obtain ⟨b5', ⟨hq1, hq2⟩, hq3, hq4⟩ := wk_bnd hf hb0
    refine ContPt.mk ?_
    refine copyPt ?_
    intro b6 m9 hb6 hle9 h6
    obtain ⟨p9, g9, l69⟩ := p5.mine hle9 hb6 h6
    have l29 := (l24.go g5).go g9
    have hne65 : b6 ≠ b5 := by rintro rfl; rw [p5.obj] at hb6; cases hb6
    refine LdV.s0 p9.obj (UnS.mk ?_)
    have hnum := b5'.num
    refine BrDf (by omega) ?_
    refine ⟨on m9 fun b => b ≠ b5, on_le _ _, ?_⟩
    have hr6 : (on m9 fun b => b ≠ b5) b6 = _ := (on_in (G := fun b => b ≠ b5) hne65).trans h6
    have hr : ∀ o, Le (on m9 fun b => b ≠ b5) (m9.set b5 o) := fun o b o' hbo => by
      obtain ⟨q1, q2⟩ := on_live hbo
      rw [set_other _ _ q1]; exact q2
    generalize (on m9 fun b => b ≠ b5) = r10 at hr6 hr ⊢
    refine LdV.s0 hr6 (UnS.mk (LdV.s1 hr6 (UnS.mk (LdV.s2 hr6 (UnB.mk ?_)))))
    refine St1.to #[.slice sa (wk also r ⟨[], []⟩).2.sets.length sc, .slice qa (wk also r ⟨[], []⟩).1.fi.length qc, .slice none 0 0, .slice fa (wk also r ⟨[], []⟩).2.fol.length fc, .bool false] p9.obj (by simp) rfl (by simp) ?_
    refine lk_same (hr _) ?_
    refine St1.to #[.slice sa (wk also r ⟨[], []⟩).2.sets.length sc, .slice qa (wk also r ⟨[], []⟩).1.fi.length qc, .slice qla (wk also r ⟨[], []⟩).1.la.length qlc, .slice fa (wk also r ⟨[], []⟩).2.fol.length fc, .bool false] (set_same _ _ _) (by simp) rfl (by simp) ?_
    rw [set_set]
    refine lk_same (hr _) ?_
    refine St1.to (lO ⟨sa, sc, qa, qc, qla, qlc, fa, fc⟩ (plc r)) (set_same _ _ _) (by simp) rfl (by simp [plc]) ?_
    rw [set_set]
    refine get5 (set_same _ _ _) ?_
    have h2f : (m9.set b5 (.cells (lO ⟨sa, sc, qa, qc, qla, qlc, fa, fc⟩ (plc r)) T_place_Places (0, 0))) b2 = _ := (set_other _ _ hne52).trans l29.at_
    refine put5 h2f rfl rfl rfl rfl rfl ?_
    refine get5 (A := ⟨sa, sc, qa, qc, qla, qlc, fa, fc⟩) (p := plc r) (set_same _ _ _) ?_
    have hch : Chg (fun b => b = b5 ∨ b = b2) m9 ((m9.set b5 (.cells (lO ⟨sa, sc, qa, qc, qla, qlc, fa, fc⟩ (plc r)) T_place_Places (0, 0))).set b2 (.cells (lO ⟨sa, sc, qa, qc, qla, qlc, fa, fc⟩ (plc r)) T_place_Places (0, 0))) :=
      ⟨fun b o hb hn => by rw [set_other _ _ (fun e => hn (.inr e)), set_other _ _ (fun e => hn (.inl e))]; exact hb, fun b hb => (Chg.set _ b2 _).live b ((Chg.set m9 b5 _).live b hb)⟩
    have hV : Le V5 ((m9.set b5 (.cells (lO ⟨sa, sc, qa, qc, qla, qlc, fa, fc⟩ (plc r)) T_place_Places (0, 0))).set b2 (.cells (lO ⟨sa, sc, qa, qc, qla, qlc, fa, fc⟩ (plc r)) T_place_Places (0, 0))) := fun b o hb => by
      refine hch.eq b o (p9.le b o hb) (fun e => ?_)
      rcases e with rfl | rfl
      · rw [p9.nV b (.inl rfl)] at hb; cases hb
      · rw [l29.hid] at hb; cases hb
    have hap : ∀ b, (blk sa = some b ∨ blk fa = some b) → ¬ (b = b5 ∨ b = b2) := by
      rintro b (hb | hb) (rfl | rfl)
      · exact p9.s1 hb
      · exact l29.out (.inr (.inl hb))
      · exact p9.f1 hb
      · exact l29.out (.inr (.inr hb))
    refine k _ ⟨sa, sc, qa, qc, qla, qlc, fa, fc⟩ (g5.le.trans hV) ⟨(p9.os.chg hch (fun b hb => hap b (.inl hb))).cells, cq.le hV, cql.le hV, fv, (p9.of.chg hch (fun b hb => hap b (.inr hb))).cells, p9.rows.le hV⟩
end Go.E.Pl
set_option linter.unusedVariables false
set_option linter.unusedSimpArgs false
set_option maxRecDepth 20000
namespace Go.E.Rg
open Go.H Go.E
attribute [local irreducible] BiN MkS ConvN LookN MapUpN CallV HC limb dbTab
section
variable {m mm m3 m' : Mem} {a : Option Addr} {c : Nat} {prs : List (Rx × Value)} {r : Nat}
theorem RL.up {S : Nat → Prop} (h : RL m mm a c prs) (k : Chg S mm m3) (hs : ∀ b, S b → m b ≠ none) : RL m m3 a c prs := by
  refine ⟨h.own.chg k (fun b hb hS => hs b hS (h.fr b hb)), h.fr, fun p hp => (h.ok p hp).le ?_⟩
  exact on_mono k (fun b hb _ hS => hs b hS hb.1) (fun b hb _ => hb)
theorem RL.part (h : RL m mm a c prs) (k : Le mm m') {p : Rx × Value} (hp : p ∈ prs) : ArgC (newB m m') p.1 p.2 :=
  (h.ok p hp).le (on_mono (k.chg fun _ => False) (fun _ _ _ h => h) (fun b hb _ => hb.1))
theorem RL.arg (h : RL m mm a c prs) (k : Le mm m') (hl : prs.length ≤ 9223372036854775807) (kd : Int) (S : Nat → Bool) : ArgC (newB m m') (.mk kd S (prs.map (·.1))) (.slice a prs.length c) :=
  .mk h.own.cap hl (CellsAt.on (h.own.cells.le k) (fun b hb => h.fr b hb)) (fun p hp => h.part k hp)
theorem RL.in_ (h : RL m mm a c prs) (hm : ∀ b, m b ≠ none → mm b ≠ none) {x : Rx} {v : Value} (hx : ArgC (newB mm m3) x v) : ArgC (on m3 fun b => m b = none ∧ blk a ≠ some b) x v := by
  refine hx.le ?_
  intro b o hb
  obtain ⟨h1, h2⟩ := on_live hb
  have e1 : m b = none := by
    cases e : m b with
    | none => rfl
    | some o => exact absurd h1 (hm b (by rw [e]; simp))
  have e2 : blk a ≠ some b := fun e => h.own.live b e h1
  rw [on_in (G := fun b => m b = none ∧ blk a ≠ some b) ⟨e1, e2⟩]; exact h2
theorem RL.push (h : RL m mm a c prs) {x : Rx} {v : Value} (hv : notOne v = false) (hx : ArgC (on mm fun b => m b = none ∧ blk a ≠ some b) x v) (hlen : prs.length ≤ 1000000000) (hmm : ∀ b, m b ≠ none → mm b ≠ none) {ty : TypeId} {cs : Array Bool} {K : Value → Mem → Prop} {Pn : List PanicEntry → Mem → Prop}
    (k : ∀ a' c' m5, Chg (fun b => blk a = some b) mm m5 → RL m m5 a' c' (prs ++ [(x, v)]) → K (.slice a' (prs.length + 1) c') m5) :
    ∀ b, mm b = none → BiN P .append #[T_sl_api_Rx, T_sl_api_Rx] ty cs #[.slice a prs.length c, .slice (some ⟨b, 0, none⟩) 1 1] (mm.set b (.cells #[.int .i64 x.k, .int .u64 (L x.S 0), .int .u64 (L x.S 1), .int .u64 (L x.S 2), .int .u64 (L x.S 3), v] T_api_Rx (0, 0))) K Pn := by
  refine push_row eRx (by decide) h.own rfl ?_ hlen (by decide) ?_
  · intro u hu
    simp only [List.mem_cons, List.not_mem_nil, or_false] at hu
    rcases hu with rfl | rfl | rfl | rfl | rfl | rfl <;> first | rfl | exact hv
  intro a' c' m5 hch ho hfr
  have hf' : Fresh m a' := by
    rcases hfr with e | e
    · intro b hb; rw [e] at hb; exact h.fr b hb
    · intro b hb
      have := e b hb
      cases e2 : m b with
      | none => rfl
      | some o => exact absurd this (hmm b (by rw [e2]; simp))
  have hle : Le (on mm fun b => m b = none ∧ blk a ≠ some b) (on m5 fun b => m b = none ∧ blk a' ≠ some b) := by
    refine on_mono hch (fun b hb _ hS => hb.2 hS) (fun b hb hl => ⟨hb.1, fun e => ?_⟩)
    rcases hfr with e2 | e2
    · rw [e2] at e; exact hb.2 e
    · exact hl (e2 b e)
  refine k a' c' m5 hch ⟨?_, hf', ?_⟩
  · rw [List.flatMap_append, List.length_append]
    exact ho
  · intro p hp
    rcases List.mem_append.mp hp with hp | hp
    · exact (h.ok p hp).le hle
    · have : p = (x, v) := by simpa using hp
      subst this
      exact hx.le hle
theorem RL.one (hb : m3 r = none) (hm : ∀ b, m b ≠ none → m3 b ≠ none) {x : Rx} {v : Value} (hx : ArgC (newB m m3) x v) : RL m (m3.set r (.cells #[.int .i64 x.k, .int .u64 (L x.S 0), .int .u64 (L x.S 1), .int .u64 (L x.S 2), .int .u64 (L x.S 3), v] T_api_Rx (0, 0))) (some ⟨r, 0, none⟩) 1 [(x, v)] := by
  have hmr : m r = none := by
    cases e : m r with
    | none => rfl
    | some o => exact absurd hb (hm r (by rw [e]; simp))
  refine ⟨⟨by simp [rxRow], .inr ⟨r, _, rfl, set_same _ _ _, Nat.le_refl _, by simp, by simp [rxRow], by omega⟩⟩, fun b e => by cases e; exact hmr, ?_⟩
  intro p hp
  have : p = (x, v) := by simpa using hp
  subst this
  refine hx.le ?_
  refine on_mono ((Le.set hb _).chg fun _ => False) (fun _ _ _ h => h) (fun b h1 h2 => ⟨h1, fun e => ?_⟩)
  cases e
  exact h2 hb
end
abbrev zRx : Array Value := #[.int .i64 0, .int .u64 0, .int .u64 0, .int .u64 0, .int .u64 0, .slice none 0 0]
end Go.E.Rg
set_option linter.unusedVariables false
set_option linter.unusedSimpArgs false
set_option maxRecDepth 20000
namespace Go.E.Rg
open Go.H Go.E
attribute [local irreducible] BiN MkS ConvN LookN MapUpN CallV HC limb dbTab
theorem Cl.app {T : TypeId} {m m1 mm m' : Mem} {r b : Nat} {c : Array Value} {a : Option Addr} (h : Cl T m mm r b c) (k : Chg (fun x => blk a = some x) mm m') (hf : Fresh m1 a) (hb : m1 b ≠ none) (hm : ∀ b, m b ≠ none → m1 b ≠ none) : Cl T m m' r b c := by
  refine ⟨k.eq _ _ h.at_ (fun e => hb (hf b e)), h.ne, h.new, ?_⟩
  refine h.ch.trans k (fun x hx e => ?_)
  exact absurd (hf x e) (hm x hx)
end Go.E.Rg
set_option linter.unusedVariables false
set_option linter.unusedSimpArgs false
set_option maxRecDepth 20000
namespace Go.E.Rg
open Go.H Go.E
attribute [local irreducible] BiN MkS ConvN LookN MapUpN CallV HC limb dbTab
abbrev ptr (b : Nat) : Value := .pointer (some ⟨b, 0, none⟩)
end Go.E.Rg
set_option linter.unusedVariables false
set_option linter.unusedSimpArgs false
set_option maxRecDepth 20000
namespace Go.E.Rg
open Go.H Go.E
attribute [local irreducible] BiN MkS ConvN LookN MapUpN CallV HC limb dbTab
theorem ContU.mk {K : Mem → Prop} {Pn : List PanicEntry → Mem → Prop} {m : Mem} (h : K m) : Cont (fun v m => UnTup v fun us0 => UnNil us0 (K m)) Pn (.returned (.tuple #[])) m := h
end Go.E.Rg
set_option linter.unusedVariables false
set_option linter.unusedSimpArgs false
set_option maxRecDepth 20000
namespace Go.E.Rg
open Go.H Go.E
attribute [local irreducible] BiN MkS ConvN LookN MapUpN CallV HC limb dbTab
theorem eSl : ElemOK P T_sl_sl_bool T_sl_bool (.slice none 0 0) 1 24 := .of (by kernel_rfl) (by kernel_rfl) rfl
abbrev rowA (n : Nat) (f : Nat → Bool) : Array Value := ((List.range n).map fun k => Value.bool (f k)).toArray
abbrev tblA (n q : Nat) (rb : Nat → Nat) : Array Value := ((List.range n).map fun i => if i < q then Value.slice (some ⟨rb i, 0, none⟩) n n else Value.slice none 0 0).toArray
/-- A table as it lies there. -/
structure Tb (m : Mem) (n b0 : Nat) (rb : Nat → Nat) (f : Nat → Nat → Bool) : Prop where
  c0 : m b0 = some (.cells (tblA n n rb) T_sl_bool (0, 0))
  row : ∀ i, i < n → m (rb i) = some (.cells (rowA n (f i)) T_bool (0, 0))
theorem Tb.le {m m' : Mem} {n b0 : Nat} {rb : Nat → Nat} {f : Nat → Nat → Bool} (h : Tb m n b0 rb f) (k : Le m m') : Tb m' n b0 rb f := ⟨k _ _ h.c0, fun i hi => k _ _ (h.row i hi)⟩
theorem range_get {α : Type} {n i : Nat} (g : Nat → α) (h : i < n) : ((List.range n).map g)[i]? = some (g i) := by
  rw [List.getElem?_map, List.getElem?_range h]; rfl
theorem IxS.blk {m : Mem} {b n i : Nat} {vs : List Value} {e : TypeId} {fr : Nat × Nat} {v : Value} (h : m b = some (.cells vs.toArray e fr)) (hi : i < n) (hv : vs[i]? = some v) {K : Value → Prop} (k : K v) : IxS (some ⟨b, 0, none⟩) n (i : Int) 1 fun b o => LdV m b o K := by
  refine ⟨by omega, by omega, ?_⟩
  refine LdV.mk (v := v) ?_ k
  refine cell_of h ?_
  rw [show (0 + (i : Int).toNat * 1) = i by omega]
  simpa using hv
section
variable {m : Mem} {n b0 i k : Nat} {rb : Nat → Nat} {f : Nat → Nat → Bool}
theorem Tb.rd (h : Tb m n b0 rb f) (hi : i < n) {K : Option Addr → Nat → Nat → Prop} (q : K (some ⟨rb i, 0, none⟩) n n) : IxS (some ⟨b0, 0, none⟩) n (i : Int) 1 fun b o => LdV m b o fun v => UnS v K := by
  refine IxS.blk h.c0 hi (range_get _ hi) ?_
  rw [if_pos hi]
  exact q
theorem Tb.cell (h : Tb m n b0 rb f) (hi : i < n) (hk : k < n) {K : Bool → Prop} (q : K (f i k)) : IxS (some ⟨rb i, 0, none⟩) n (k : Int) 1 fun b o => LdV m b o fun v => UnB v K :=
  IxS.blk (h.row i hi) hk (range_get _ hk) q
end
/-- A table of one's own, q rows of it made. -/
structure TbP (m0 mm : Mem) (n q b0 : Nat) (rb : Nat → Nat) (f : Nat → Nat → Bool) : Prop where
  le : Le m0 mm
  c0 : mm b0 = some (.cells (tblA n q rb) T_sl_bool (0, 0))
  w0 : m0 b0 = none
  row : ∀ i, i < q → mm (rb i) = some (.cells (rowA n (f i)) T_bool (0, 0))
  inj : ∀ i j, i < q → j < q → rb i = rb j → i = j
  ne : ∀ i, i < q → rb i ≠ b0
  wr : ∀ i, i < q → m0 (rb i) = none
theorem TbP.tb {m0 mm : Mem} {n b0 : Nat} {rb : Nat → Nat} {f : Nat → Nat → Bool} (h : TbP m0 mm n n b0 rb f) : Tb mm n b0 rb f := ⟨h.c0, h.row⟩
theorem TbP.up {m0 mm m' : Mem} {n q b0 : Nat} {rb : Nat → Nat} {f : Nat → Nat → Bool} (h : TbP m0 mm n q b0 rb f) (k : Le mm m') : TbP m0 m' n q b0 rb f :=
  ⟨h.le.trans k, k _ _ h.c0, h.w0, fun i hi => k _ _ (h.row i hi), h.inj, h.ne, h.wr⟩
theorem TbP.down {m0 m1 mm : Mem} {n q b0 : Nat} {rb : Nat → Nat} {f : Nat → Nat → Bool} (h : TbP m1 mm n q b0 rb f) (k : Le m0 m1) : TbP m0 mm n q b0 rb f :=
  ⟨k.trans h.le, h.c0, k.new h.w0, h.row, h.inj, h.ne, fun i hi => k.new (h.wr i hi)⟩
theorem rowA_congr {n : Nat} {f g : Nat → Bool} (h : ∀ k, k < n → f k = g k) : rowA n f = rowA n g := by
  unfold rowA
  congr 1
  refine List.map_congr_left fun k hk => ?_
  rw [h k (by simpa using hk)]
theorem TbP.congr {m0 mm : Mem} {n b0 : Nat} {rb : Nat → Nat} {f g : Nat → Nat → Bool} (h : TbP m0 mm n n b0 rb f) (k : ∀ i, i < n → ∀ k, k < n → f i k = g i k) : TbP m0 mm n n b0 rb g :=
  ⟨h.le, h.c0, h.w0, fun i hi => by rw [← rowA_congr (k i hi)]; exact h.row i hi, h.inj, h.ne, h.wr⟩
/-- One cell turned. -/
def updF (f : Nat → Nat → Bool) (i k : Nat) (y : Bool) : Nat → Nat → Bool := fun i' k' => if i' = i ∧ k' = k then y else f i' k'
theorem map_range_set {α : Type} (n k : Nat) (g : Nat → α) (y : α) : ((List.range n).map g).toArray.setIfInBounds k y = ((List.range n).map fun j => if j = k then y else g j).toArray := by
  rw [List.setIfInBounds_toArray]
  congr 1
  apply List.ext_getElem
  · simp
  · intro j h1 h2
    rw [List.getElem_set, List.getElem_map, List.getElem_map, List.getElem_range]
    by_cases e : k = j
    · rw [if_pos e, if_pos e.symm]
    · rw [if_neg e, if_neg (fun x => e x.symm)]
theorem rowA_set {n : Nat} {f : Nat → Bool} {k : Nat} (y : Bool) : (rowA n f).setIfInBounds k (.bool y) = rowA n (fun k' => if k' = k then y else f k') := by
  unfold rowA
  rw [map_range_set]
  congr 1
  refine List.map_congr_left fun j _ => ?_
  show (if j = k then Value.bool y else Value.bool (f j)) = Value.bool (if j = k then y else f j)
  by_cases e : j = k
  · rw [if_pos e, if_pos e]
  · rw [if_neg e, if_neg e]
theorem TbP.st {m0 mm : Mem} {n b0 i k : Nat} {rb : Nat → Nat} {f : Nat → Nat → Bool} (h : TbP m0 mm n n b0 rb f) (hi : i < n) (hk : k < n) {y : Bool} {K : Mem → Prop} (q : ∀ m', Chg (fun b => b = rb i) mm m' → TbP m0 m' n n b0 rb (updF f i k y) → K m') :
    IxS (some ⟨rb i, 0, none⟩) n (k : Int) 1 fun b o => St1 mm b o (.bool y) K := by
  refine ⟨by omega, by omega, ?_⟩
  have e : 0 + (k : Int).toNat * 1 = k := by omega
  refine St1.of (by exact h.row i hi) (by simp; omega) rfl ?_
  rw [e, rowA_set]
  refine q _ (Chg.set _ _ _) ⟨?_, ?_, h.w0, ?_, h.inj, h.ne, h.wr⟩
  · exact (Chg.set mm (rb i) _).to_le h.le (fun b e => by rw [show b = rb i from e]; exact h.wr i hi)
  · rw [set_other _ _ (h.ne i hi).symm]; exact h.c0
  · intro i' hi'
    by_cases e2 : i' = i
    · subst e2
      rw [set_same]
      congr 2
      refine rowA_congr fun k' _ => ?_
      unfold updF
      by_cases e3 : k' = k
      · subst e3; simp
      · simp [e3]
    · rw [set_other _ _ (fun x => e2 (h.inj _ _ hi' hi x)), h.row i' hi']
      congr 2
      refine rowA_congr fun k' _ => ?_
      unfold updF
      rw [if_neg (fun x => e2 x.1)]
theorem tblA_zero (n : Nat) (rb : Nat → Nat) : tblA n 0 rb = (List.replicate n (Value.slice none 0 0)).toArray := by
  unfold tblA
  congr 1
  apply List.ext_getElem
  · simp
  · intro j h1 h2; simp
theorem tblA_succ {n q b : Nat} {rb : Nat → Nat} (hq : q < n) : (tblA n q rb).setIfInBounds q (.slice (some ⟨b, 0, none⟩) n n) = tblA n (q + 1) (fun i => if i = q then b else rb i) := by
  unfold tblA
  rw [map_range_set]
  congr 1
  refine List.map_congr_left fun j _ => ?_
  show (if j = q then Value.slice (some ⟨b, 0, none⟩) n n else if j < q then Value.slice (some ⟨rb j, 0, none⟩) n n else Value.slice none 0 0) = (if j < q + 1 then Value.slice (some ⟨if j = q then b else rb j, 0, none⟩) n n else Value.slice none 0 0)
  by_cases e : j = q
  · rw [if_pos e, if_pos (by omega), if_pos e]
  · rw [if_neg e, if_neg e]
    by_cases h : j < q
    · rw [if_pos h, if_pos (by omega)]
    · rw [if_neg h, if_neg (by omega)]
theorem table_spec {n : Nat} (hn : n ≤ 1000) {m : Mem} {R : Ending → Mem → Prop} (k : ∀ m' b0 rb, TbP m m' n n b0 rb (fun _ _ => false) → R (.returned (.slice (some ⟨b0, 0, none⟩) n n)) m') : HC P eyotref8_table.id #[.int .i64 (n : Int)] m R := by
  refine eyotref8_table.ok _ _ _ ?_
  refine make_one eSl rfl (by omega) (by omega) (by omega) (by omega) ?_
  intro b0 hb0
  simp only [Int.toNat_natCast]
  refine UnS.mk ?_
  refine ⟨fun N n' ta tl tc i mm => n' = (n : Int) ∧ ta = some ⟨b0, 0, none⟩ ∧ tl = n ∧ tc = n ∧ ∃ (q : Nat) (rb : Nat → Nat), i = (q : Int) ∧ q ≤ n ∧ N = n - q ∧ TbP m mm n q b0 rb (fun _ _ => false), n,
    ⟨rfl, rfl, rfl, rfl, 0, fun _ => 0, rfl, by omega, by omega, ⟨Le.set hb0 _, by rw [set_same, tblA_zero], hb0, fun i h => by omega, fun i j h => by omega, fun i h => by omega, fun i h => by omega⟩⟩, ?_⟩
  rintro N n' ta tl tc i mm ⟨rfl, rfl, rfl, rfl, q, rb, rfl, hq, rfl, hT⟩
  unfold eyotref8_table.l1B
  refine BrD (fun hlt => ?_) (fun hge => ?_)
  rotate_left
  · have : q = tc := by omega
    subst this
    exact k mm b0 rb hT
  refine make_one eBl rfl (by omega) (by omega) (by omega) (by omega) ?_
  intro b hb
  rw [Int.toNat_natCast]
  refine UnS.mk ?_
  have hle := Le.set hb (.cells (List.replicate tc (Value.bool false)).toArray T_bool (0, 0))
  have hbs : (mm.set b (.cells (List.replicate tc (Value.bool false)).toArray T_bool (0, 0))) b = _ := set_same _ _ _
  have c0 := hle _ _ hT.c0
  have hbm : m b = none := hT.le.new hb
  have hb0b : b0 ≠ b := by rintro rfl; rw [hT.c0] at hb; cases hb
  have hrb : ∀ i, i < q → rb i ≠ b := by
    intro i hi e
    have := hT.row i hi
    rw [e, hb] at this; cases this
  have hT2 := hT.up hle
  generalize (mm.set b (.cells (List.replicate tc (Value.bool false)).toArray T_bool (0, 0))) = m2 at hle hbs c0 hT2 ⊢
  have erow : (List.replicate tc (Value.bool false)).toArray = rowA tc (fun _ => false) := by
    unfold rowA
    congr 1
    apply List.ext_getElem
    · simp
    · intro j h1 h2; simp
  rw [erow] at hbs
  refine IxS.st c0 (by omega) (by omega) (by simp) rfl ?_
  rw [Int.toNat_natCast, tblA_succ (by omega)]
  refine ⟨tc - (q + 1), by omega, rfl, rfl, rfl, rfl, q + 1, fun i => if i = q then b else rb i, ?_, by omega, rfl, ?_⟩
  · rw [wi (by omega) (by omega)]; omega
  refine ⟨(Chg.set m2 b0 _).to_le hT2.le (fun x e => by rw [show x = b0 from e]; exact hT.w0), set_same _ _ _, hT.w0, ?_, ?_, ?_, ?_⟩
  · intro i hi
    by_cases e : i = q
    · rw [if_pos e, set_other _ _ hb0b.symm]; exact hbs
    · rw [if_neg e, set_other _ _ (hT.ne i (by omega))]; exact hT2.row i (by omega)
  · intro i j hi hj
    by_cases e : i = q
    · by_cases e2 : j = q
      · intro _; omega
      · rw [if_pos e, if_neg e2]; intro h; exact absurd h.symm (hrb j (by omega))
    · by_cases e2 : j = q
      · rw [if_neg e, if_pos e2]; intro h; exact absurd h (hrb i (by omega))
      · rw [if_neg e, if_neg e2]; exact hT.inj i j (by omega) (by omega)
  · intro i hi
    by_cases e : i = q
    · rw [if_pos e]; exact hb0b.symm
    · rw [if_neg e]; exact hT.ne i (by omega)
  · intro i hi
    by_cases e : i = q
    · rw [if_pos e]; exact hbm
    · rw [if_neg e]; exact hT.wr i (by omega)
theorem same_spec {n : Nat} (hn : n ≤ 1000) {m : Mem} {R : Ending → Mem → Prop} (k : ∀ m' b0 rb, TbP m m' n n b0 rb (fun i k => k == i) → R (.returned (.slice (some ⟨b0, 0, none⟩) n n)) m') : HC P eyotref8_same.id #[.int .i64 (n : Int)] m R := by
  refine eyotref8_same.ok _ _ _ ?_
  refine table_spec hn ?_
  intro m1 b0 rb hT
  dsimp only [Cont]
  refine UnS.mk ?_
  refine ⟨fun N n' ta tl tc i mm => n' = (n : Int) ∧ ta = some ⟨b0, 0, none⟩ ∧ tl = n ∧ tc = n ∧ ∃ q : Nat, i = (q : Int) ∧ q ≤ n ∧ N = n - q ∧ TbP m mm n n b0 rb (fun i k => decide (i < q) && k == i), n,
    ⟨rfl, rfl, rfl, rfl, 0, rfl, by omega, by omega, hT.congr (by simp)⟩, ?_⟩
  rintro N n' ta tl tc i mm ⟨rfl, rfl, rfl, rfl, q, rfl, hq, rfl, hT⟩
  unfold eyotref8_same.l1B
  refine BrD (fun hlt => ?_) (fun hge => ?_)
  rotate_left
  · have : q = tc := by omega
    subst this
    exact k mm b0 rb (hT.congr (fun i hi k _ => by simp [hi]))
  have hq2 : q < tc := by omega
  refine hT.tb.rd hq2 ?_
  refine hT.st hq2 hq2 ?_
  intro m' _ hT'
  refine ⟨tc - (q + 1), by omega, rfl, rfl, rfl, rfl, q + 1, ?_, by omega, rfl, hT'.congr (fun i hi k _ => ?_)⟩
  · rw [wi (by omega) (by omega)]; omega
  · unfold updF
    by_cases e : i = q ∧ k = q
    · obtain ⟨rfl, rfl⟩ := e; simp
    · rw [if_neg e]
      by_cases e2 : i = q
      · subst e2
        have : k ≠ i := fun x => e ⟨rfl, x⟩
        simp [this]
      · have : decide (i < q) = decide (i < q + 1) := by
          rw [decide_eq_decide]; omega
        show (decide (i < q) && k == i) = _
        rw [this]
end Go.E.Rg
set_option linter.unusedVariables false
set_option linter.unusedSimpArgs false
set_option maxRecDepth 20000
namespace Go.E.Rg
open Go.H Go.E
attribute [local irreducible] BiN MkS ConvN LookN MapUpN CallV HC limb dbTab
theorem updF_row {f : Nat → Nat → Bool} {i k i' k' : Nat} {y : Bool} (h : i' = i → k' = k → False) : updF f i k y i' k' = f i' k' := by
  unfold updF
  exact if_neg (fun e => h e.1 e.2)
theorem updF_at {f : Nat → Nat → Bool} {i k : Nat} {y : Bool} : updF f i k y i k = y := by
  unfold updF; exact if_pos ⟨rfl, rfl⟩
section
variable (a b : Nat → Nat → Bool) (n : Nat)
def bhG (i : Nat) : Nat → Nat → Bool := fun i' k' => decide (i' < i) && bhRow a b i' n k'
def bhH (i j : Nat) : Nat → Nat → Bool := fun i' k' => if i' < i then bhRow a b i' n k' else if i' = i then bhRow a b i j k' else false
def bhJ (i j k : Nat) : Nat → Nat → Bool := fun i' k' => if i' < i then bhRow a b i' n k' else if i' = i then (if k' < k then bhRow a b i (j + 1) k' else bhRow a b i j k') else false
end
section
variable {a b : Nat → Nat → Bool} {n i j k : Nat}
theorem bhRow_start : bhRow a b i i k = false := by
  unfold bhRow
  rw [List.any_eq_false]
  intro j hj
  have : j < i := by simpa using hj
  have h : decide (i ≤ j) = false := by simpa using this
  rw [h]; simp
theorem bhRow_low (h : k < j) : bhRow a b i (j + 1) k = bhRow a b i j k := by
  rw [bhRow_succ]
  have : decide (j ≤ k) = false := by simpa using h
  rw [this]; simp
theorem bhRow_no (h : a i j = false) : bhRow a b i (j + 1) k = bhRow a b i j k := by rw [bhRow_succ, h]; simp
theorem bhRow_yes (h : a i j = true) (hij : i ≤ j) (hjk : j ≤ k) : bhRow a b i (j + 1) k = (bhRow a b i j k || b j k) := by
  rw [bhRow_succ, h]; simp [hij, hjk]
theorem bh_GH : ∀ i' k', bhG a b n i i' k' = bhH a b n i i i' k' := by
  intro i' k'
  unfold bhG bhH
  by_cases h : i' < i
  · simp [h]
  · rw [if_neg h]
    by_cases e : i' = i
    · subst e; simp [bhRow_start]
    · simp [h, e]
theorem bh_HJ : ∀ i' k', bhH a b n i j i' k' = bhJ a b n i j j i' k' := by
  intro i' k'
  unfold bhH bhJ
  by_cases h : i' < i
  · rw [if_pos h, if_pos h]
  · rw [if_neg h, if_neg h]
    by_cases e : i' = i
    · rw [if_pos e, if_pos e]
      by_cases hk : k' < j
      · rw [if_pos hk, bhRow_low hk]
      · rw [if_neg hk]
    · rw [if_neg e, if_neg e]
theorem bh_JH : ∀ i', ∀ k', k' < n → bhJ a b n i j n i' k' = bhH a b n i (j + 1) i' k' := by
  intro i' k' hk
  unfold bhH bhJ
  rw [if_pos hk]
theorem bh_JH0 (h : a i j = false) : ∀ i' k', bhJ a b n i j k i' k' = bhH a b n i (j + 1) i' k' := by
  intro i' k'
  unfold bhH bhJ
  by_cases h1 : i' < i
  · rw [if_pos h1, if_pos h1]
  · rw [if_neg h1, if_neg h1]
    by_cases e : i' = i
    · rw [if_pos e, if_pos e, bhRow_no h]; split <;> rfl
    · rw [if_neg e, if_neg e]
theorem bh_HG : ∀ i' k', bhH a b n i n i' k' = bhG a b n (i + 1) i' k' := by
  intro i' k'
  unfold bhG bhH
  by_cases h : i' < i
  · have : i' < i + 1 := by omega
    simp [h, this]
  · rw [if_neg h]
    by_cases e : i' = i
    · subst e; simp
    · have : ¬ i' < i + 1 := by omega
      simp [e, this]
theorem bh_J : bhJ a b n i j k i k = bhRow a b i j k := by
  unfold bhJ
  rw [if_neg (Nat.lt_irrefl _), if_pos rfl, if_neg (Nat.lt_irrefl _)]
theorem bh_Jup (h : a i j = true) (hij : i ≤ j) (hjk : j ≤ k) {y : Bool} (hy : y = (bhRow a b i j k || b j k)) : ∀ i' k', updF (bhJ a b n i j k) i k y i' k' = bhJ a b n i j (k + 1) i' k' := by
  intro i' k'
  by_cases e : i' = i ∧ k' = k
  · obtain ⟨rfl, rfl⟩ := e
    rw [updF_at, hy]
    unfold bhJ
    rw [if_neg (Nat.lt_irrefl _), if_pos rfl, if_pos (Nat.lt_succ_self _), bhRow_yes h hij hjk]
  · rw [updF_row (fun e1 e2 => e ⟨e1, e2⟩)]
    unfold bhJ
    by_cases h1 : i' < i
    · rw [if_pos h1, if_pos h1]
    · rw [if_neg h1, if_neg h1]
      by_cases e1 : i' = i
      · rw [if_pos e1, if_pos e1]
        have hk : k' ≠ k := fun x => e ⟨e1, x⟩
        by_cases h2 : k' < k
        · rw [if_pos h2, if_pos (by omega)]
        · rw [if_neg h2, if_neg (by omega)]
      · rw [if_neg e1, if_neg e1]
end
theorem behind_spec {m : Mem} {n ba bb : Nat} {ra rb : Nat → Nat} {fa fb : Nat → Nat → Bool} (hn : n ≤ 1000) (hA : Tb m n ba ra fa) (hB : Tb m n bb rb fb) {R : Ending → Mem → Prop}
    (k : ∀ m' b0 rt, TbP m m' n n b0 rt (fun i k => bhRow fa fb i n k) → R (.returned (.slice (some ⟨b0, 0, none⟩) n n)) m') : HC P eyotref8_behind.id #[.slice (some ⟨ba, 0, none⟩) n n, .slice (some ⟨bb, 0, none⟩) n n] m R := by
  refine eyotref8_behind.ok _ _ _ _ _ _ _ _ ?_
  refine table_spec hn ?_
  intro m1 b0 rt hT0
  dsimp only [Cont]
  refine UnS.mk ?_
  refine ⟨fun N aa al ac xa xl xc ta tl tc i mm => aa = some ⟨ba, 0, none⟩ ∧ al = n ∧ xa = some ⟨bb, 0, none⟩ ∧ xl = n ∧ ta = some ⟨b0, 0, none⟩ ∧ tl = n ∧ tc = n ∧ ∃ i' : Nat, i = (i' : Int) ∧ i' ≤ n ∧ N = n - i' ∧ TbP m mm n n b0 rt (bhG fa fb n i'), n,
    ⟨rfl, rfl, rfl, rfl, rfl, rfl, rfl, 0, rfl, by omega, by omega, hT0.congr (fun i _ k _ => by unfold bhG; simp)⟩, ?_⟩
  rintro N aa al ac xa xl xc ta tl tc i mm ⟨rfl, hal, rfl, hxl, rfl, htl, htc, i', rfl, hi, rfl, hT⟩
  subst al xl tl tc
  unfold eyotref8_behind.l1B
  refine BrD (fun hlt => ?_) (fun hge => ?_)
  rotate_left
  · have : i' = n := by omega
    subst this
    exact k mm b0 rt (hT.congr (fun i hi k _ => by unfold bhG; simp [hi]))
  have hin : i' < n := by omega
  refine ⟨fun N2 aa al ac' xa xl xc' ta tl tc ii j mm => ii = (i' : Int) ∧ aa = some ⟨ba, 0, none⟩ ∧ al = n ∧ xa = some ⟨bb, 0, none⟩ ∧ xl = n ∧ ta = some ⟨b0, 0, none⟩ ∧ tl = n ∧ tc = n ∧ ∃ j' : Nat, j = (j' : Int) ∧ i' ≤ j' ∧ j' ≤ n ∧ N2 = n - j' ∧ TbP m mm n n b0 rt (bhH fa fb n i' j'), n - i',
    ⟨rfl, rfl, rfl, rfl, rfl, rfl, rfl, rfl, i', rfl, by omega, by omega, by omega, hT.congr (fun i _ k _ => bh_GH i k)⟩, ?_⟩
  rintro N2 aa al ac' xa xl xc' ta tl tc ii j mm ⟨rfl, rfl, hal, rfl, hxl, rfl, htl, htc, j', rfl, hij, hj, rfl, hT⟩
  subst al xl tl tc
  unfold eyotref8_behind.l2B
  refine BrD (fun hlt2 => ?_) (fun hge2 => ?_)
  rotate_left
  · have : j' = n := by omega
    rw [this] at hT
    refine ⟨n - (i' + 1), by omega, rfl, rfl, rfl, rfl, rfl, rfl, rfl, i' + 1, ?_, by omega, rfl, hT.congr (fun i _ k _ => bh_HG i k)⟩
    rw [wi (by omega) (by omega)]; omega
  have hjn : j' < n := by omega
  refine ⟨fun N3 aa al ac' xa xl xc' ta tl tc ii jj k mm => ii = (i' : Int) ∧ jj = (j' : Int) ∧ aa = some ⟨ba, 0, none⟩ ∧ al = n ∧ xa = some ⟨bb, 0, none⟩ ∧ xl = n ∧ ta = some ⟨b0, 0, none⟩ ∧ tl = n ∧ tc = n ∧ ∃ k' : Nat, k = (k' : Int) ∧ j' ≤ k' ∧ k' ≤ n ∧ N3 = n - k' ∧ TbP m mm n n b0 rt (bhJ fa fb n i' j' k'), n - j',
    ⟨rfl, rfl, rfl, rfl, rfl, rfl, rfl, rfl, rfl, j', rfl, by omega, by omega, by omega, hT.congr (fun i _ k _ => bh_HJ i k)⟩, ?_⟩
  rintro N3 aa al ac' xa xl xc' ta tl tc ii jj kk mm ⟨rfl, rfl, rfl, hal, rfl, hxl, rfl, htl, htc, k', rfl, hjk, hk, rfl, hT⟩
  subst al xl tl tc
  unfold eyotref8_behind.l3B
  refine BrD (fun hlt3 => ?_) (fun hge3 => ?_)
  rotate_left
  · have : k' = n := by omega
    rw [this] at hT
    refine ⟨n - (j' + 1), by omega, rfl, rfl, rfl, rfl, rfl, rfl, rfl, rfl, j' + 1, ?_, by omega, by omega, rfl, hT.congr (fun i _ k hk => bh_JH i k hk)⟩
    rw [wi (by omega) (by omega)]; omega
  have hkn : k' < n := by omega
  have hA' := hA.le hT.le
  have hB' := hB.le hT.le
  refine hA'.rd hin ?_
  refine hA'.cell hin hjn ?_
  refine Br.mk (fun hyes => ?_) (fun hno => ?_)
  rotate_left
  · refine ⟨n - (j' + 1), by omega, rfl, rfl, rfl, rfl, rfl, rfl, rfl, rfl, j' + 1, ?_, by omega, by omega, rfl, hT.congr (fun i _ k hk => bh_JH0 hno i k)⟩
    rw [wi (by omega) (by omega)]; omega
  refine Sub.all ?_
  refine hT.tb.rd hin ?_
  refine hT.tb.rd hin ?_
  refine hT.tb.cell hin hkn ?_
  rw [bh_J]
  have nxt : ∀ {y : Bool} {m' : Mem}, y = (bhRow fa fb i' j' k' || fb j' k') → TbP m m' n n b0 rt (updF (bhJ fa fb n i' j' k') i' k' y) → TbP m m' n n b0 rt (bhJ fa fb n i' j' (k' + 1)) := by
    intro y m' hy h
    exact h.congr (fun i _ k _ => bh_Jup hyes hij hjk hy i k)
  refine Br.mk (fun ht => ?_) (fun hf => ?_)
  · refine hT.st hin hkn ?_
    intro m' _ hT'
    refine ⟨n - (k' + 1), by omega, rfl, rfl, rfl, rfl, rfl, rfl, rfl, rfl, rfl, k' + 1, ?_, by omega, by omega, rfl, nxt (by rw [ht]; rfl) hT'⟩
    rw [wi (by omega) (by omega)]; omega
  · refine hB'.rd hjn ?_
    refine hB'.cell hjn hkn ?_
    refine hT.st hin hkn ?_
    intro m' _ hT'
    refine ⟨n - (k' + 1), by omega, rfl, rfl, rfl, rfl, rfl, rfl, rfl, rfl, rfl, k' + 1, ?_, by omega, by omega, rfl, nxt (by rw [hf]; rfl) hT'⟩
    rw [wi (by omega) (by omega)]; omega
end Go.E.Rg
set_option linter.unusedVariables false
set_option linter.unusedSimpArgs false
set_option maxRecDepth 20000
namespace Go.E.Rg
open Go.H Go.E
attribute [local irreducible] BiN MkS ConvN LookN MapUpN CallV HC limb dbTab
/-- The table of an expression's matches. -/
noncomputable def mF (w : List UInt8) (r : Rx) : Nat → Nat → Bool := fun i k => @decide (M w r i k) (Classical.propDecidable _)
theorem mF_iff {w : List UInt8} {r : Rx} {i k : Nat} : mF w r i k = true ↔ M w r i k := by unfold mF; exact @decide_eq_true_iff _ (Classical.propDecidable _)
theorem mF_le {w : List UInt8} {r : Rx} : ∀ i k, mF w r i k = true → i ≤ k := fun i k h => (M_le w r i k (mF_iff.mp h)).1
theorem bool_ext {a b : Bool} (h : a = true ↔ b = true) : a = b := Bool.eq_iff_iff.mpr h
theorem MC_snoc (w : List UInt8) (r : Rx) : ∀ (l : List Rx) (i k : Nat), MC w (l ++ [r]) i k ↔ ∃ j, MC w l i j ∧ M w r j k
  | [], i, k => by
    rw [List.nil_append]
    unfold MC MC
    constructor
    · rintro ⟨x, h, rfl⟩; exact ⟨i, rfl, h⟩
    · rintro ⟨j, rfl, h⟩; exact ⟨k, h, rfl⟩
  | q :: l, i, k => by
    rw [List.cons_append]
    conv => lhs; unfold MC
    conv => rhs; arg 1; intro j; unfold MC
    constructor
    · rintro ⟨x, h, h2⟩
      obtain ⟨j, h3, h4⟩ := (MC_snoc w r l x k).mp h2
      exact ⟨j, ⟨x, h, h3⟩, h4⟩
    · rintro ⟨j, ⟨x, h, h3⟩, h4⟩
      exact ⟨x, h, (MC_snoc w r l x k).mpr ⟨j, h3, h4⟩⟩
theorem MA_snoc (w : List UInt8) (r : Rx) : ∀ (l : List Rx) (i k : Nat), MA w (l ++ [r]) i k ↔ MA w l i k ∨ M w r i k
  | [], i, k => by
    rw [List.nil_append]
    unfold MA MA
    simp
  | q :: l, i, k => by
    rw [List.cons_append]
    conv => lhs; unfold MA
    conv => rhs; arg 1; unfold MA
    rw [MA_snoc w r l i k, or_assoc]
noncomputable def mC (w : List UInt8) (l : List Rx) : Nat → Nat → Bool := fun i k => @decide (MC w l i k) (Classical.propDecidable _)
noncomputable def mA (w : List UInt8) (l : List Rx) : Nat → Nat → Bool := fun i k => @decide (MA w l i k) (Classical.propDecidable _)
theorem mC_iff {w : List UInt8} {l : List Rx} {i k : Nat} : mC w l i k = true ↔ MC w l i k := by unfold mC; exact @decide_eq_true_iff _ (Classical.propDecidable _)
theorem mA_iff {w : List UInt8} {l : List Rx} {i k : Nat} : mA w l i k = true ↔ MA w l i k := by unfold mA; exact @decide_eq_true_iff _ (Classical.propDecidable _)
theorem M_cat {w : List UInt8} {S : Nat → Bool} {l : List Rx} {i k : Nat} : M w (.mk 2 S l) i k ↔ MC w l i k := by
  rw [M_mk, if_neg (by decide), if_pos rfl]
theorem M_alt {w : List UInt8} {S : Nat → Bool} {l : List Rx} {i k : Nat} : M w (.mk 3 S l) i k ↔ MA w l i k := by
  rw [M_mk, if_neg (by decide), if_neg (by decide), if_pos rfl]
theorem mC_le {w : List UInt8} {l : List Rx} : ∀ i k, mC w l i k = true → i ≤ k := fun i k h => (M_le w (.mk 2 noS l) i k (M_cat.mpr (mC_iff.mp h))).1
theorem mC_nil (w : List UInt8) : ∀ i k, mC w [] i k = (k == i) := by
  intro i k
  refine bool_ext ?_
  rw [mC_iff, beq_iff_eq]
  unfold MC
  exact eq_comm
theorem mC_succ {w : List UInt8} {l : List Rx} {j n : Nat} {p : Rx} (h : l[j]? = some p) : ∀ i k, k < n → bhRow (mC w (l.take j)) (mF w p) i n k = mC w (l.take (j + 1)) i k := by
  intro i k hk
  refine bool_ext ?_
  rw [bhRow_iff mC_le mF_le hk, mC_iff, List.take_add_one, h, Option.toList_some, MC_snoc]
  constructor
  · rintro ⟨x, h1, h2⟩; exact ⟨x, mC_iff.mp h1, mF_iff.mp h2⟩
  · rintro ⟨x, h1, h2⟩; exact ⟨x, mC_iff.mpr h1, mF_iff.mpr h2⟩
theorem mA_nil (w : List UInt8) : ∀ i k, mA w [] i k = false := by
  intro i k
  have : ¬ MA w [] i k := by unfold MA; exact id
  cases h : mA w [] i k with
  | false => rfl
  | true => exact absurd (mA_iff.mp h) this
theorem mA_succ {w : List UInt8} {l : List Rx} {j : Nat} {p : Rx} (h : l[j]? = some p) : ∀ i k, (mA w (l.take j) i k || mF w p i k) = mA w (l.take (j + 1)) i k := by
  intro i k
  refine bool_ext ?_
  rw [Bool.or_eq_true, mA_iff, mF_iff, mA_iff, List.take_add_one, h, Option.toList_some, MA_snoc]
def orS (f x : Nat → Nat → Bool) (i j : Nat) : Nat → Nat → Bool := fun i' k' => f i' k' || (x i' k' && decide (i' < i ∨ i' = i ∧ k' < j))
section
variable {f x : Nat → Nat → Bool} {i j n : Nat}
theorem orS_start (hx : ∀ i k, x i k = true → i ≤ k) : ∀ i' k', orS f x i 0 i' k' = orS f x i i i' k' := by
  intro i' k'
  unfold orS
  cases h : x i' k' with
  | false => simp
  | true =>
    have := hx _ _ h
    have e : decide (i' < i ∨ i' = i ∧ k' < 0) = decide (i' < i ∨ i' = i ∧ k' < i) := by
      rw [decide_eq_decide]; omega
    rw [e]
theorem orS_up {y : Bool} (hy : y = (orS f x i j i j || x i j)) : ∀ i' k', updF (orS f x i j) i j y i' k' = orS f x i (j + 1) i' k' := by
  intro i' k'
  by_cases e : i' = i ∧ k' = j
  · obtain ⟨rfl, rfl⟩ := e
    rw [updF_at, hy]
    unfold orS
    have h1 : decide (i' < i' ∨ i' = i' ∧ k' < k') = false := by simp
    have h2 : decide (i' < i' ∨ i' = i' ∧ k' < k' + 1) = true := by simp
    rw [h1, h2]; simp
  · rw [updF_row (fun e1 e2 => e ⟨e1, e2⟩)]
    unfold orS
    have : decide (i' < i ∨ i' = i ∧ k' < j) = decide (i' < i ∨ i' = i ∧ k' < j + 1) := by
      rw [decide_eq_decide]; omega
    rw [this]
theorem orS_next : ∀ i' k', k' < n → orS f x i n i' k' = orS f x (i + 1) 0 i' k' := by
  intro i' k' hk
  unfold orS
  have : decide (i' < i ∨ i' = i ∧ k' < n) = decide (i' < i + 1 ∨ i' = i + 1 ∧ k' < 0) := by
    rw [decide_eq_decide]; omega
  rw [this]
theorem orS_zero : ∀ i' k', orS f x 0 0 i' k' = f i' k' := by
  intro i' k'
  unfold orS
  have : decide (i' < 0 ∨ i' = 0 ∧ k' < 0) = false := by simp
  rw [this]; simp
theorem orS_all : ∀ i' k', i' < n → orS f x n 0 i' k' = (f i' k' || x i' k') := by
  intro i' k' h
  unfold orS
  have : decide (i' < n ∨ i' = n ∧ k' < 0) = true := by simp [h]
  rw [this]; simp
end
section
variable (x : Nat → Nat → Bool) (n : Nat)
def stG (i : Nat) : Nat → Nat → Bool := fun i' k' => if i' < i then stRow x i' n k' else k' == i'
def stH (i j : Nat) : Nat → Nat → Bool := fun i' k' => if i' < i then stRow x i' n k' else if i' = i then stRow x i j k' else k' == i'
def stJ (i j k : Nat) : Nat → Nat → Bool := fun i' k' => if i' < i then stRow x i' n k' else if i' = i then (if k' < k then stRow x i (j + 1) k' else stRow x i j k') else k' == i'
end
section
variable {x : Nat → Nat → Bool} {n i j k : Nat}
theorem stRow_start : ∀ {J : Nat}, J ≤ i → stRow x i J k = (k == i)
  | 0, _ => rfl
  | J + 1, h => by
    show (stRow x i J k || (decide (i ≤ J) && stRow x i J J && decide (J < k) && x J k)) = _
    have : decide (i ≤ J) = false := by simp; omega
    rw [this, stRow_start (J := J) (by omega)]; simp
theorem stRow_no (h : stRow x i j j = false) : stRow x i (j + 1) k = stRow x i j k := by
  show (stRow x i j k || (decide (i ≤ j) && stRow x i j j && decide (j < k) && x j k)) = _
  rw [h]; simp
theorem stRow_yes (h : stRow x i j j = true) (hij : i ≤ j) (hjk : j < k) : stRow x i (j + 1) k = (stRow x i j k || x j k) := by
  show (stRow x i j k || (decide (i ≤ j) && stRow x i j j && decide (j < k) && x j k)) = _
  rw [h]; simp [hij, hjk]
theorem st_GH : ∀ i' k', stG x n i i' k' = stH x n i i i' k' := by
  intro i' k'
  unfold stG stH
  by_cases h : i' < i
  · rw [if_pos h, if_pos h]
  · rw [if_neg h, if_neg h]
    by_cases e : i' = i
    · subst e; rw [if_pos rfl, stRow_start (Nat.le_refl _)]
    · rw [if_neg e]
theorem st_HJ : ∀ i' k', stH x n i j i' k' = stJ x n i j (j + 1) i' k' := by
  intro i' k'
  unfold stH stJ
  by_cases h : i' < i
  · rw [if_pos h, if_pos h]
  · rw [if_neg h, if_neg h]
    by_cases e : i' = i
    · rw [if_pos e, if_pos e]
      by_cases hk : k' < j + 1
      · rw [if_pos hk, stRow_low (by omega)]
      · rw [if_neg hk]
    · rw [if_neg e, if_neg e]
theorem st_JH : ∀ i' k', k' < n → stJ x n i j n i' k' = stH x n i (j + 1) i' k' := by
  intro i' k' hk
  unfold stH stJ
  rw [if_pos hk]
theorem st_JH0 (h : stRow x i j j = false) : ∀ i' k', stJ x n i j k i' k' = stH x n i (j + 1) i' k' := by
  intro i' k'
  unfold stH stJ
  by_cases h1 : i' < i
  · rw [if_pos h1, if_pos h1]
  · rw [if_neg h1, if_neg h1]
    by_cases e : i' = i
    · rw [if_pos e, if_pos e, stRow_no h]; split <;> rfl
    · rw [if_neg e, if_neg e]
theorem st_HG : ∀ i' k', stH x n i n i' k' = stG x n (i + 1) i' k' := by
  intro i' k'
  unfold stG stH
  by_cases h : i' < i
  · rw [if_pos h, if_pos (by omega)]
  · rw [if_neg h]
    by_cases e : i' = i
    · subst e; rw [if_pos rfl, if_pos (Nat.lt_succ_self _)]
    · rw [if_neg e, if_neg (by omega)]
theorem st_at (hjk : j < k) : stJ x n i j k i j = stRow x i j j := by
  unfold stJ
  rw [if_neg (Nat.lt_irrefl _), if_pos rfl, if_pos hjk, stRow_low (Nat.le_refl _)]
theorem st_J : stJ x n i j k i k = stRow x i j k := by
  unfold stJ
  rw [if_neg (Nat.lt_irrefl _), if_pos rfl, if_neg (Nat.lt_irrefl _)]
theorem st_Jup (h : stRow x i j j = true) (hij : i ≤ j) (hjk : j < k) {y : Bool} (hy : y = (stRow x i j k || x j k)) : ∀ i' k', updF (stJ x n i j k) i k y i' k' = stJ x n i j (k + 1) i' k' := by
  intro i' k'
  by_cases e : i' = i ∧ k' = k
  · obtain ⟨rfl, rfl⟩ := e
    rw [updF_at, hy]
    unfold stJ
    rw [if_neg (Nat.lt_irrefl _), if_pos rfl, if_pos (Nat.lt_succ_self _), stRow_yes h hij hjk]
  · rw [updF_row (fun e1 e2 => e ⟨e1, e2⟩)]
    unfold stJ
    by_cases h1 : i' < i
    · rw [if_pos h1, if_pos h1]
    · rw [if_neg h1, if_neg h1]
      by_cases e1 : i' = i
      · rw [if_pos e1, if_pos e1]
        have hk : k' ≠ k := fun x => e ⟨e1, x⟩
        by_cases h2 : k' < k
        · rw [if_pos h2, if_pos (by omega)]
        · rw [if_neg h2, if_neg (by omega)]
      · rw [if_neg e1, if_neg e1]
end
end Go.E.Rg
set_option linter.unusedVariables false
set_option linter.unusedSimpArgs false
set_option maxRecDepth 20000
namespace Go.E.Rg
open Go.H Go.E
attribute [local irreducible] BiN MkS ConvN LookN MapUpN CallV HC limb dbTab
/-- A table joined to one's own. -/
theorem join_tbl {K2 : Option Addr → Nat → Nat → Nat → Nat → Int → Option Addr → Nat → Nat → Int → Mem → Prop} {wa : Option Addr} {wl wc b2 o2 : Nat} {x8 : Int} {m0 mm : Mem} {n b0 bx : Nat} {rt rx : Nat → Nat} {f x : Nat → Nat → Bool} {R : Ending → Mem → Prop}
    (hn : n ≤ 1000) (hT : TbP m0 mm n n b0 rt f) (hX : Tb mm n bx rx x) (hx : ∀ i k, x i k = true → i ≤ k) (sep : ∀ i, i < n → ∀ j, j < n → rx j ≠ rt i) (sepb : ∀ i, i < n → bx ≠ rt i)
    (hK : ∀ m', TbP m0 m' n n b0 rt (fun i k => f i k || x i k) → K2 wa wl wc b2 o2 (n : Int) (some ⟨b0, 0, none⟩) n n (IntKind.i64.wrap (x8 + 1)) m') :
    eyotref8_spans.l3 K2 wa wl wc b2 o2 (n : Int) (some ⟨b0, 0, none⟩) n n x8 (some ⟨bx, 0, none⟩) n n 0 R mm := by
  refine ⟨fun N a l c b o nn ta tl tc y8 xa xl xc i mm => a = wa ∧ l = wl ∧ c = wc ∧ b = b2 ∧ o = o2 ∧ nn = (n : Int) ∧ ta = some ⟨b0, 0, none⟩ ∧ tl = n ∧ tc = n ∧ y8 = x8 ∧ xa = some ⟨bx, 0, none⟩ ∧ xl = n ∧ xc = n ∧ ∃ i' : Nat, i = (i' : Int) ∧ i' ≤ n ∧ N = n - i' ∧ TbP m0 mm n n b0 rt (orS f x i' 0) ∧ Tb mm n bx rx x, n,
    ⟨rfl, rfl, rfl, rfl, rfl, rfl, rfl, rfl, rfl, rfl, rfl, rfl, rfl, 0, rfl, by omega, by omega, hT.congr (fun i _ k _ => (orS_zero i k).symm), hX⟩, ?_⟩
  rintro N a l c b o nn ta tl tc y8 xa xl xc i mm ⟨h1, h2, h3, h4, h5, h6, rfl, h7, h8, h9, rfl, h10, h11, i', rfl, hi, rfl, hT, hX⟩
  subst a l c b o nn tl tc y8 xl xc
  unfold eyotref8_spans.l3B
  refine BrD (fun hlt => ?_) (fun hge => ?_)
  rotate_left
  · have : i' = n := by omega
    rw [this] at hT
    exact hK mm (hT.congr (fun i hi k _ => orS_all i k hi))
  have hin : i' < n := by omega
  refine ⟨fun N2 a l c b o nn ta tl tc y8 xa xl xc i j mm => a = wa ∧ l = wl ∧ c = wc ∧ b = b2 ∧ o = o2 ∧ nn = (n : Int) ∧ ta = some ⟨b0, 0, none⟩ ∧ tl = n ∧ tc = n ∧ y8 = x8 ∧ xa = some ⟨bx, 0, none⟩ ∧ xl = n ∧ xc = n ∧ i = (i' : Int) ∧ ∃ j' : Nat, j = (j' : Int) ∧ i' ≤ j' ∧ j' ≤ n ∧ N2 = n - j' ∧ TbP m0 mm n n b0 rt (orS f x i' j') ∧ Tb mm n bx rx x, n - i',
    ⟨rfl, rfl, rfl, rfl, rfl, rfl, rfl, rfl, rfl, rfl, rfl, rfl, rfl, rfl, i', rfl, by omega, by omega, by omega, hT.congr (fun i _ k _ => orS_start hx i k), hX⟩, ?_⟩
  rintro N2 a l c b o nn ta tl tc y8 xa xl xc i j mm ⟨h1, h2, h3, h4, h5, h6, rfl, h7, h8, h9, rfl, h10, h11, rfl, j', rfl, hij, hj, rfl, hT, hX⟩
  subst a l c b o nn tl tc y8 xl xc
  unfold eyotref8_spans.l4B
  refine BrD (fun hlt2 => ?_) (fun hge2 => ?_)
  rotate_left
  · have : j' = n := by omega
    rw [this] at hT
    refine ⟨n - (i' + 1), by omega, rfl, rfl, rfl, rfl, rfl, rfl, rfl, rfl, rfl, rfl, rfl, rfl, rfl, i' + 1, ?_, by omega, rfl, hT.congr (fun i _ k hk => orS_next i k hk), hX⟩
    rw [wi (by omega) (by omega)]; omega
  have hjn : j' < n := by omega
  have nxt : ∀ {y : Bool}, y = (orS f x i' j' i' j' || x i' j') → IxS (some ⟨rt i', 0, none⟩) n (j' : Int) 1 fun b o => St1 mm b o (.bool y) fun m2 => ∃ N1, N1 < n - j' ∧ (wa = wa ∧ wl = wl ∧ wc = wc ∧ b2 = b2 ∧ o2 = o2 ∧ (n : Int) = (n : Int) ∧ (some ⟨b0, 0, none⟩ : Option Addr) = some ⟨b0, 0, none⟩ ∧ n = n ∧ n = n ∧ x8 = x8 ∧ (some ⟨bx, 0, none⟩ : Option Addr) = some ⟨bx, 0, none⟩ ∧ n = n ∧ n = n ∧ (i' : Int) = (i' : Int) ∧ ∃ q : Nat, IntKind.i64.wrap ((j' : Int) + 1) = (q : Int) ∧ i' ≤ q ∧ q ≤ n ∧ N1 = n - q ∧ TbP m0 m2 n n b0 rt (orS f x i' q) ∧ Tb m2 n bx rx x) := by
    intro y hy
    refine hT.st hin hjn ?_
    intro m' hch hT'
    refine ⟨n - (j' + 1), by omega, rfl, rfl, rfl, rfl, rfl, rfl, rfl, rfl, rfl, rfl, rfl, rfl, rfl, rfl, j' + 1, ?_, by omega, by omega, rfl, hT'.congr (fun i _ k _ => orS_up hy i k), hch.eq _ _ hX.c0 (sepb i' hin), fun q hq => hch.eq _ _ (hX.row q hq) (sep i' hin q hq)⟩
    rw [wi (by omega) (by omega)]; omega
  refine Sub.all ?_
  refine hT.tb.rd hin ?_
  refine hT.tb.rd hin ?_
  refine hT.tb.cell hin hjn ?_
  refine Br.mk (fun ht => ?_) (fun hf => ?_)
  · exact nxt (by rw [ht]; rfl)
  · refine hX.rd hin ?_
    refine hX.cell hin hjn ?_
    exact nxt (by rw [hf]; rfl)
/-- The closure of a table; for a plus once more ahead of it. -/
theorem star_tbl {m0 mm : Mem} {n b0 bx b2 : Nat} {rt rx : Nat → Nat} {x : Nat → Nat → Bool} {kd : Int} {S : Nat → Bool} {v : Value} {R : Ending → Mem → Prop}
    (hn : n ≤ 1000) (hX : Tb m0 n bx rx x) (hx : ∀ i k, x i k = true → i ≤ k) (h2 : m0 b2 = some (.cells (rxO kd S v) T_api_Rx (0, 0))) (hT : TbP m0 mm n n b0 rt (fun i k => k == i))
    (k1 : kd ≠ 5 → ∀ m' b0 rt, TbP m0 m' n n b0 rt (fun i k => stRow x i n k) → R (.returned (.slice (some ⟨b0, 0, none⟩) n n)) m')
    (k2 : kd = 5 → ∀ m' b0 rt, TbP m0 m' n n b0 rt (fun i k => bhRow x (fun i k => stRow x i n k) i n k) → R (.returned (.slice (some ⟨b0, 0, none⟩) n n)) m') :
    eyotref8_spans.l7 b2 0 (n : Int) (some ⟨b0, 0, none⟩) n n (some ⟨bx, 0, none⟩) n n 0 R mm := by
  refine ⟨fun N b o nn ta tl tc xa xl xc i mm => b = b2 ∧ o = 0 ∧ nn = (n : Int) ∧ ta = some ⟨b0, 0, none⟩ ∧ tl = n ∧ tc = n ∧ xa = some ⟨bx, 0, none⟩ ∧ xl = n ∧ xc = n ∧ ∃ i' : Nat, i = (i' : Int) ∧ i' ≤ n ∧ N = n - i' ∧ TbP m0 mm n n b0 rt (stG x n i'), n,
    ⟨rfl, rfl, rfl, rfl, rfl, rfl, rfl, rfl, rfl, 0, rfl, by omega, by omega, hT.congr (fun i _ k _ => by unfold stG; simp)⟩, ?_⟩
  rintro N b o nn ta tl tc xa xl xc i mm ⟨h1, h3, h6, rfl, h7, h8, rfl, h10, h11, i', rfl, hi, rfl, hT⟩
  subst b o nn tl tc xl xc
  unfold eyotref8_spans.l7B
  refine BrD (fun hlt => ?_) (fun hge => ?_)
  rotate_left
  · have : i' = n := by omega
    rw [this] at hT
    have hT : TbP m0 mm n n b0 rt (fun i k => stRow x i n k) := hT.congr (fun i hi k _ => by unfold stG; rw [if_pos hi])
    unfold eyotref8_spans.k10
    refine LdV.s0 (hT.le _ _ h2) (UnI.mk ?_)
    refine BrE (fun e => ?_) (fun e => ?_)
    · refine behind_spec hn (hX.le hT.le) hT.tb ?_
      intro m' b' r' hT'
      dsimp only [Cont]
      refine UnS.mk ?_
      exact k2 e m' b' r' (hT'.down hT.le)
    · exact k1 e mm b0 rt hT
  have hin : i' < n := by omega
  refine ⟨fun N2 b o nn ta tl tc xa xl xc i j mm => b = b2 ∧ o = 0 ∧ nn = (n : Int) ∧ ta = some ⟨b0, 0, none⟩ ∧ tl = n ∧ tc = n ∧ xa = some ⟨bx, 0, none⟩ ∧ xl = n ∧ xc = n ∧ i = (i' : Int) ∧ ∃ j' : Nat, j = (j' : Int) ∧ i' ≤ j' ∧ j' ≤ n ∧ N2 = n - j' ∧ TbP m0 mm n n b0 rt (stH x n i' j'), n - i',
    ⟨rfl, rfl, rfl, rfl, rfl, rfl, rfl, rfl, rfl, rfl, i', rfl, by omega, by omega, by omega, hT.congr (fun i _ k _ => st_GH i k)⟩, ?_⟩
  rintro N2 b o nn ta tl tc xa xl xc i j mm ⟨h1, h3, h6, rfl, h7, h8, rfl, h10, h11, rfl, j', rfl, hij, hj, rfl, hT⟩
  subst b o nn tl tc xl xc
  unfold eyotref8_spans.l8B
  refine BrD (fun hlt2 => ?_) (fun hge2 => ?_)
  rotate_left
  · have : j' = n := by omega
    rw [this] at hT
    refine ⟨n - (i' + 1), by omega, rfl, rfl, rfl, rfl, rfl, rfl, rfl, rfl, rfl, i' + 1, ?_, by omega, rfl, hT.congr (fun i _ k _ => st_HG i k)⟩
    rw [wi (by omega) (by omega)]; omega
  have hjn : j' < n := by omega
  refine ⟨fun N3 b o nn ta tl tc xa xl xc i j k mm => b = b2 ∧ o = 0 ∧ nn = (n : Int) ∧ ta = some ⟨b0, 0, none⟩ ∧ tl = n ∧ tc = n ∧ xa = some ⟨bx, 0, none⟩ ∧ xl = n ∧ xc = n ∧ i = (i' : Int) ∧ j = (j' : Int) ∧ ∃ k' : Nat, k = (k' : Int) ∧ j' < k' ∧ k' ≤ n ∧ N3 = n - k' ∧ TbP m0 mm n n b0 rt (stJ x n i' j' k'), n - (j' + 1),
    ⟨rfl, rfl, rfl, rfl, rfl, rfl, rfl, rfl, rfl, rfl, rfl, j' + 1, by rw [wi (by omega) (by omega)]; omega, by omega, by omega, by omega, hT.congr (fun i _ k _ => st_HJ i k)⟩, ?_⟩
  rintro N3 b o nn ta tl tc xa xl xc i j kk mm ⟨h1, h3, h6, rfl, h7, h8, rfl, h10, h11, rfl, rfl, k', rfl, hjk, hk, rfl, hT⟩
  subst b o nn tl tc xl xc
  unfold eyotref8_spans.l9B
  refine BrD (fun hlt3 => ?_) (fun hge3 => ?_)
  rotate_left
  · have : k' = n := by omega
    rw [this] at hT
    refine ⟨n - (j' + 1), by omega, rfl, rfl, rfl, rfl, rfl, rfl, rfl, rfl, rfl, rfl, j' + 1, ?_, by omega, by omega, rfl, hT.congr (fun i _ k hk => st_JH i k hk)⟩
    rw [wi (by omega) (by omega)]; omega
  have hkn : k' < n := by omega
  have hX' := hX.le hT.le
  refine hT.tb.rd hin ?_
  refine hT.tb.cell hin hjn ?_
  rw [st_at hjk]
  refine Br.mk (fun hyes => ?_) (fun hno => ?_)
  rotate_left
  · refine ⟨n - (j' + 1), by omega, rfl, rfl, rfl, rfl, rfl, rfl, rfl, rfl, rfl, rfl, j' + 1, ?_, by omega, by omega, rfl, hT.congr (fun i _ k hk => st_JH0 hno i k)⟩
    rw [wi (by omega) (by omega)]; omega
  refine Sub.all ?_
  refine hT.tb.rd hin ?_
  refine hT.tb.rd hin ?_
  refine hT.tb.cell hin hkn ?_
  rw [st_J]
  refine Br.mk (fun ht => ?_) (fun hf => ?_)
  · refine hT.st hin hkn ?_
    intro m' _ hT'
    refine ⟨n - (k' + 1), by omega, rfl, rfl, rfl, rfl, rfl, rfl, rfl, rfl, rfl, rfl, rfl, k' + 1, ?_, by omega, by omega, rfl, hT'.congr (fun i _ k _ => st_Jup hyes hij hjk (by rw [ht]; rfl) i k)⟩
    rw [wi (by omega) (by omega)]; omega
  · refine hX'.rd hjn ?_
    refine hX'.cell hjn hkn ?_
    refine hT.st hin hkn ?_
    intro m' _ hT'
    refine ⟨n - (k' + 1), by omega, rfl, rfl, rfl, rfl, rfl, rfl, rfl, rfl, rfl, rfl, rfl, k' + 1, ?_, by omega, by omega, rfl, hT'.congr (fun i _ k _ => st_Jup hyes hij hjk (by rw [hf]; rfl) i k)⟩
    rw [wi (by omega) (by omega)]; omega
def SpOK (r : Rx) : Prop := ∀ {m : Mem} {v : Value} {wa : Option Addr} {wc : Nat} {w : List UInt8} {R : Ending → Mem → Prop}, ArgC m r v → form r = true → CellsAt m wa (u8s w) → w.length ≤ 900 →
  (∀ m' b0 rb, TbP m m' (w.length + 1) (w.length + 1) b0 rb (mF w r) → R (.returned (.slice (some ⟨b0, 0, none⟩) (w.length + 1) (w.length + 1))) m') → HC P eyotref8_spans.id #[rxA r.k r.S v, .slice wa w.length wc] m R
theorem spans_ok (r : Rx) : SpOK r := by
  refine Rx.ind (C := SpOK) ?_ r
  intro k S ps ih m v wa wc w R ha hf hw hwl hk
  obtain ⟨prs, a, c, rfl, rfl, hl, hb, hc, hp⟩ := ha.inv
  show HC P eyotref8_spans.id #[rxA k S (.slice a prs.length c), .slice wa w.length wc] m R
  refine eyotref8_spans.ok _ _ _ _ _ _ _ _ _ _ _ _ _ ?_
  refine newRx ?_
  intro b2 m1 hb2 hle h2
  have ew : IntKind.i64.wrap (((w.length : Nat) : Int) + 1) = ((w.length + 1 : Nat) : Int) := by rw [wi (by omega) (by omega)]; omega
  rw [ew]
  generalize hnn : w.length + 1 = n at hk ⊢
  have hn : n ≤ 1000 := by omega
  have hpl : (prs.map (·.1)).length = prs.length := List.length_map _
  refine table_spec hn ?_
  intro m2 b0 rt hT0
  dsimp only [Cont]
  refine UnS.mk ?_
  refine LdV.s0 (hT0.le _ _ h2) (UnI.mk ?_)
  have hle2 := hle.trans hT0.le
  -- one of the parts
  have part : ∀ (j : Nat) (hj : j < prs.length) {mm : Mem} {a' : Option Addr} {l' c' : Nat} {R' : Ending → Mem → Prop}, Le m mm → prs[j].2 = .slice a' l' c' → (∀ m' b0 rb, TbP mm m' n n b0 rb (mF w prs[j].1) → R' (.returned (.slice (some ⟨b0, 0, none⟩) n n)) m') → HC P eyotref8_spans.id #[rxA prs[j].1.k prs[j].1.S (.slice a' l' c'), .slice wa w.length wc] mm R' := by
    intro j hj mm a' l' c' R' hlm hv hk'
    have hpm := List.getElem_mem hj
    have hform : form prs[j].1 = true := kids_form hf (show prs[j].1 ∈ prs.map (·.1) from List.mem_map.mpr ⟨_, hpm, rfl⟩)
    refine ih prs[j].1 (List.mem_map.mpr ⟨_, hpm, rfl⟩) (m := mm) (v := .slice a' l' c') (by
      have := hp _ hpm
      rw [hv] at this
      exact this.le hlm) hform (hw.le hlm) hwl ?_
    rw [hnn]
    exact hk'
  refine BrE (fun e1 => ?_) (fun e1 => ?_)
  · -- a set
    subst e1
    have hM : ∀ i k, i < n → k < n → (mF w (.mk 1 S (prs.map (·.1))) i k = true ↔ k = i + 1 ∧ ∃ c : UInt8, w[i]? = some c ∧ S c.toNat = true) := by
      intro i k _ _
      rw [mF_iff, M_mk, if_pos rfl]
    refine ⟨fun N xa xl xc b o nn ta tl tc i mm => xa = wa ∧ xl = w.length ∧ xc = wc ∧ b = b2 ∧ o = 0 ∧ nn = (n : Int) ∧ ta = some ⟨b0, 0, none⟩ ∧ tl = n ∧ tc = n ∧ ∃ i' : Nat, i = (i' : Int) ∧ i' ≤ w.length ∧ N = n - i' ∧ TbP m1 mm n n b0 rt (fun i k => decide (i < i') && mF w (.mk 1 S (prs.map (·.1))) i k), n,
      ⟨rfl, rfl, rfl, rfl, rfl, rfl, rfl, rfl, rfl, 0, rfl, by omega, by omega, hT0.congr (by simp)⟩, ?_⟩
    rintro N xa xl xc b o nn ta tl tc i mm ⟨g1, g2, g3, g4, g5, g6, rfl, g7, g8, i', rfl, hi, rfl, hT⟩
    subst xa xl xc b o nn tl tc
    unfold eyotref8_spans.l1B
    have ei : IntKind.i64.wrap ((i' : Int) + 1) = ((i' + 1 : Nat) : Int) := by rw [wi (by omega) (by omega)]; omega
    rw [ei]
    refine BrD (fun hlt => ?_) (fun hge => ?_)
    rotate_left
    · refine hk mm b0 rt ((hT.congr (fun i hi k hkn => ?_)).down hle)
      by_cases h : i < i'
      · simp [h]
      · have : i = w.length := by omega
        subst this
        have hno : ¬ mF w (.mk 1 S (prs.map (·.1))) w.length k = true := by
          rw [hM _ _ hi hkn]
          rintro ⟨rfl, _⟩
          omega
        cases hm : mF w (.mk 1 S (prs.map (·.1))) w.length k with
        | false => simp
        | true => exact absurd hm hno
    have hiw : i' < w.length := by omega
    have hin : i' < n := by omega
    have hin1 : i' + 1 < n := by omega
    refine Sub.all ?_
    refine hT.tb.rd hin ?_
    have h2' := hT.le _ _ h2
    refine LdV.s1 h2' (UnI.mk (LdV.s2 h2' (UnI.mk (LdV.s3 h2' (UnI.mk (LdV.s4 h2' (UnI.mk ?_)))))))
    obtain ⟨ch, hch⟩ : ∃ ch, w[i']? = some ch := ⟨_, List.getElem?_eq_getElem hiw⟩
    refine IxS.u8s (hw.le (hle.trans hT.le)) rfl (by omega) (by omega) ?_
    intro ch' hch'
    rw [Int.toNat_natCast, hch] at hch'
    cases hch'
    refine UnI.mk ?_
    refine RHas_spec (f := S) (UInt8.toNat_lt ch) ?_
    intro m3 hle3
    dsimp only [Cont]
    refine UnB.mk ?_
    refine Lk.all hle3 ?_
    have hT3 := hT.up hle3
    refine hT3.st hin hin1 ?_
    intro m4 _ hT4
    refine ⟨n - (i' + 1), by omega, rfl, rfl, rfl, rfl, rfl, rfl, rfl, rfl, rfl, i' + 1, rfl, by omega, rfl, hT4.congr (fun i hi k hkn => ?_)⟩
    by_cases e : i = i' ∧ k = i' + 1
    · obtain ⟨rfl, rfl⟩ := e
      rw [updF_at]
      refine bool_ext ?_
      rw [Bool.and_eq_true, hM _ _ (by omega) (by omega)]
      constructor
      · intro h; exact ⟨by simp, rfl, ch, hch, h⟩
      · rintro ⟨_, _, c, hc', h⟩
        rw [hch] at hc'; cases hc'; exact h
    · rw [updF_row (fun x y => e ⟨x, y⟩)]
      refine bool_ext ?_
      rw [Bool.and_eq_true, Bool.and_eq_true, hM _ _ hi hkn]
      constructor
      · rintro ⟨h1, h2⟩; exact ⟨by simp at h1 ⊢; omega, h2⟩
      · rintro ⟨h1, h2, h3⟩
        refine ⟨?_, h2, h3⟩
        have h1 : i < i' + 1 := by simpa using h1
        have : i ≠ i' := fun x => e ⟨x, by omega⟩
        simp; omega
  refine BrE (fun e3 => ?_) (fun e3 => ?_)
  · -- alternatives
    subst e3
    refine ⟨fun N xa xl xc b o nn ta tl tc q mm => xa = wa ∧ xl = w.length ∧ xc = wc ∧ b = b2 ∧ o = 0 ∧ nn = (n : Int) ∧ ta = some ⟨b0, 0, none⟩ ∧ tl = n ∧ tc = n ∧ ∃ j : Nat, q = (j : Int) ∧ j ≤ prs.length ∧ N = prs.length - j ∧ TbP m1 mm n n b0 rt (mA w ((prs.map (·.1)).take j)), prs.length,
      ⟨rfl, rfl, rfl, rfl, rfl, rfl, rfl, rfl, rfl, 0, rfl, by omega, by omega, hT0.congr (fun i _ k _ => (mA_nil w i k).symm)⟩, ?_⟩
    rintro N xa xl xc b o nn ta tl tc q mm ⟨g1, g2, g3, g4, g5, g6, rfl, g7, g8, j, rfl, hj, rfl, hT⟩
    subst xa xl xc b o nn tl tc
    unfold eyotref8_spans.l2B
    have h2' := hT.le _ _ h2
    refine LdV.s5 h2' (UnS.mk ?_)
    refine BrD (fun hlt => ?_) (fun hge => ?_)
    rotate_left
    · have e : (prs.map (·.1)).take j = prs.map (·.1) := List.take_of_length_le (by omega)
      rw [e] at hT
      refine hk mm b0 rt ((hT.congr (fun i hi k hkn => bool_ext ?_)).down hle)
      rw [mA_iff, mF_iff, M_alt]
    have hjl : j < prs.length := by omega
    have hpm := List.getElem_mem hjl
    obtain ⟨a', l', c', hv⟩ := (hp _ hpm).sl
    have hg : (prs.map (·.1))[j]? = some prs[j].1 := by rw [List.getElem?_map, List.getElem?_eq_getElem hjl]; rfl
    refine LdV.s5 h2' (UnS.mk ?_)
    refine IxS.rx6 (hc.le (hle.trans hT.le)) hjl hv ?_
    refine part j hjl (hle.trans hT.le) hv ?_
    intro m3 bx rx hX
    dsimp only [Cont]
    refine UnS.mk ?_
    have hT3 := hT.up hX.le
    refine join_tbl hn hT3 hX.tb mF_le (fun i hi j' hj' e => ?_) (fun i hi e => ?_) ?_
    · have := hX.wr j' hj'
      rw [e, hT.row i hi] at this; cases this
    · have := hX.w0
      rw [e, hT.row i hi] at this; cases this
    intro m4 hT4
    refine ⟨prs.length - (j + 1), by omega, rfl, rfl, rfl, rfl, rfl, rfl, rfl, rfl, rfl, j + 1, ?_, by omega, rfl, hT4.congr (fun i _ k _ => mA_succ hg i k)⟩
    rw [wi (by omega) (by omega)]; omega
  refine BrE (fun e2 => ?_) (fun e2 => ?_)
  · -- side by side
    subst e2
    refine same_spec hn ?_
    intro m3 b3 r3 hT3
    dsimp only [Cont]
    refine UnS.mk ?_
    have hle3 : Le m1 m3 := hT0.le.trans hT3.le
    refine ⟨fun N xa xl xc b o ta tl tc q mm => xa = wa ∧ xl = w.length ∧ xc = wc ∧ b = b2 ∧ o = 0 ∧ tl = n ∧ tc = n ∧ ∃ (j : Nat) (bt : Nat) (rt' : Nat → Nat), ta = some ⟨bt, 0, none⟩ ∧ q = (j : Int) ∧ j ≤ prs.length ∧ N = prs.length - j ∧ TbP m1 mm n n bt rt' (mC w ((prs.map (·.1)).take j)), prs.length,
      ⟨rfl, rfl, rfl, rfl, rfl, rfl, rfl, 0, b3, r3, rfl, rfl, by omega, by omega, (hT3.congr (fun i _ k _ => (mC_nil w i k).symm)).down hT0.le⟩, ?_⟩
    rintro N xa xl xc b o ta tl tc q mm ⟨g1, g2, g3, g4, g5, g7, g8, j, bt, rt', rfl, rfl, hj, rfl, hT⟩
    subst xa xl xc b o tl tc
    unfold eyotref8_spans.l5B
    have h2' := hT.le _ _ h2
    refine LdV.s5 h2' (UnS.mk ?_)
    refine BrD (fun hlt => ?_) (fun hge => ?_)
    rotate_left
    · have e : (prs.map (·.1)).take j = prs.map (·.1) := List.take_of_length_le (by omega)
      rw [e] at hT
      refine hk mm bt rt' ((hT.congr (fun i hi k hkn => bool_ext ?_)).down hle)
      rw [mC_iff, mF_iff, M_cat]
    have hjl : j < prs.length := by omega
    have hpm := List.getElem_mem hjl
    obtain ⟨a', l', c', hv⟩ := (hp _ hpm).sl
    have hg : (prs.map (·.1))[j]? = some prs[j].1 := by rw [List.getElem?_map, List.getElem?_eq_getElem hjl]; rfl
    refine LdV.s5 h2' (UnS.mk ?_)
    refine IxS.rx6 (hc.le (hle.trans hT.le)) hjl hv ?_
    refine part j hjl (hle.trans hT.le) hv ?_
    intro m4 bx rx hX
    dsimp only [Cont]
    refine UnS.mk ?_
    have hT4 := hT.up hX.le
    refine behind_spec hn hT4.tb hX.tb ?_
    intro m5 b5 r5 hT5
    dsimp only [Cont]
    refine UnS.mk ?_
    refine ⟨prs.length - (j + 1), by omega, rfl, rfl, rfl, rfl, rfl, rfl, rfl, j + 1, b5, r5, rfl, ?_, by omega, rfl, (hT5.congr (fun i _ k hk => mC_succ hg i k hk)).down (hT.le.trans hX.le)⟩
    rw [wi (by omega) (by omega)]; omega
  -- a sign
  obtain ⟨h46, p, rfl⟩ : (4 ≤ k ∧ k ≤ 6) ∧ ∃ p, prs = [p] := by
    rcases form_cases hf with ⟨h, _⟩ | ⟨_, _, ⟨h, _⟩ | ⟨h4, h6, x, hx, _⟩⟩
    · exact absurd h e1
    · omega
    · refine ⟨⟨h4, h6⟩, List.length_eq_one_iff.mp ?_⟩
      rw [← hpl, hx]; rfl
  obtain ⟨a', l', c', hv⟩ := (hp p (by simp)).sl
  refine LdV.s5 (hT0.le _ _ h2) (UnS.mk ?_)
  refine IxS.rx6 (prs := [p]) (hc.le hle2) (j := 0) (by simp) hv ?_
  refine part 0 (by simp) hle2 hv ?_
  intro m3 bx rx hX
  dsimp only [Cont]
  refine UnS.mk ?_
  have hle3 := hT0.le.trans hX.le
  refine LdV.s0 (hle3 _ _ h2) (UnI.mk ?_)
  have hX : TbP m2 m3 n n bx rx (mF w p.1) := hX
  refine BrE (fun e6 => ?_) (fun e6 => ?_)
  · -- an option
    subst e6
    refine ⟨fun N nn ta tl tc i mm => nn = (n : Int) ∧ ta = some ⟨bx, 0, none⟩ ∧ tl = n ∧ tc = n ∧ ∃ i' : Nat, i = (i' : Int) ∧ i' ≤ n ∧ N = n - i' ∧ TbP m2 mm n n bx rx (fun i k => mF w p.1 i k || (decide (i < i') && k == i)), n,
      ⟨rfl, rfl, rfl, rfl, 0, rfl, by omega, by omega, hX.congr (by simp)⟩, ?_⟩
    rintro N nn ta tl tc i mm ⟨g6, rfl, g7, g8, i', rfl, hi, rfl, hT⟩
    subst nn tl tc
    unfold eyotref8_spans.l6B
    refine BrD (fun hlt => ?_) (fun hge => ?_)
    rotate_left
    · refine hk mm bx rx ((hT.congr (fun i hi k hkn => bool_ext ?_)).down hle2)
      have : i < i' := by omega
      rw [mF_iff, M_mk, if_neg (by decide), if_neg (by decide), if_neg (by decide), if_pos rfl]
      unfold M1
      simp [mF_iff, this]
      constructor
      · rintro (h | h)
        · exact .inr h
        · exact .inl h.symm
      · rintro (h | h)
        · exact .inr h.symm
        · exact .inl h
    have hin : i' < n := by omega
    refine hT.tb.rd hin ?_
    refine hT.st hin hin ?_
    intro m' _ hT'
    refine ⟨n - (i' + 1), by omega, rfl, rfl, rfl, rfl, i' + 1, ?_, by omega, rfl, hT'.congr (fun i _ k _ => ?_)⟩
    · rw [wi (by omega) (by omega)]; omega
    · by_cases e : i = i' ∧ k = i'
      · obtain ⟨rfl, rfl⟩ := e
        rw [updF_at]; simp
      · rw [updF_row (fun x y => e ⟨x, y⟩)]
        refine bool_ext ?_
        simp only [Bool.or_eq_true, Bool.and_eq_true, decide_eq_true_eq, beq_iff_eq]
        constructor
        · rintro (h | ⟨h1, h2⟩)
          · exact .inl h
          · exact .inr ⟨by omega, h2⟩
        · rintro (h | ⟨h1, h2⟩)
          · exact .inl h
          · have : i ≠ i' := fun x => e ⟨x, by omega⟩
            exact .inr ⟨by omega, h2⟩
  refine same_spec hn ?_
  intro m4 b4 r4 hT4
  dsimp only [Cont]
  refine UnS.mk ?_
  have hstar : ∀ i k, k < n → (stRow (mF w p.1) i n k = true ↔ Star (M w p.1) i k) := by
    intro i k hkn
    rw [stRow_iff mF_le hkn]
    have : (fun a b => mF w p.1 a b = true) = M w p.1 := by funext a b; exact propext mF_iff
    rw [this]
  have hM1 : M1 w [p.1] = M w p.1 := by funext i k; unfold M1; rfl
  refine star_tbl hn hX.tb mF_le (hle3 _ _ h2) hT4 (fun h5 m' b5 r5 hT5 => ?_) (fun h5 m' b5 r5 hT5 => ?_)
  · have h4 : k = 4 := by omega
    subst h4
    refine hk m' b5 r5 ((hT5.congr (fun i hi k hkn => bool_ext ?_)).down (hle2.trans hX.le))
    rw [hstar i k hkn, mF_iff, M_mk, if_neg (by decide), if_neg (by decide), if_neg (by decide), if_neg (by decide), if_pos rfl]
    rw [← hM1]; rfl
  · subst h5
    refine hk m' b5 r5 ((hT5.congr (fun i hi k hkn => bool_ext ?_)).down (hle2.trans hX.le))
    have hst : ∀ i j, stRow (mF w p.1) i n j = true → i ≤ j := fun i j h => (stRow_sound h).ge mF_le
    rw [bhRow_iff mF_le hst hkn, mF_iff, M_mk, if_neg (by decide), if_neg (by decide), if_neg (by decide), if_neg (by decide), if_neg (by decide)]
    show _ ↔ ∃ x, M1 w [p.1] i x ∧ Star (M1 w [p.1]) x k
    rw [hM1]
    constructor
    · rintro ⟨j, h1, h2⟩; exact ⟨j, mF_iff.mp h1, (hstar j k hkn).mp h2⟩
    · rintro ⟨j, h1, h2⟩; exact ⟨j, mF_iff.mpr h1, (hstar j k hkn).mpr h2⟩
end Go.E.Rg
set_option linter.unusedVariables false
set_option linter.unusedSimpArgs false
set_option maxRecDepth 20000
namespace Go.E.Rg
open Go.H Go.E
attribute [local irreducible] BiN MkS ConvN LookN MapUpN CallV HC limb dbTab
theorem RIn_spec {r : Rx} {m : Mem} {v : Value} {wa : Option Addr} {wc : Nat} {w : List UInt8} {R : Ending → Mem → Prop} (ha : ArgC m r v) (hf : form r = true) (hw : CellsAt m wa (u8s w)) (hwl : w.length ≤ 900)
    (hk : ∀ m', Le m m' → R (.returned (.bool (mF w r 0 w.length))) m') : HC P eyotref8_In.id #[rxA r.k r.S v, .slice wa w.length wc] m R := by
  obtain ⟨a, l, c, rfl⟩ := ha.sl
  refine eyotref8_In.ok _ _ _ _ _ _ _ _ _ _ _ _ _ ?_
  refine newRx ?_
  intro b1 m1 hb1 hle h1
  refine get6 h1 ?_
  refine spans_ok r (ha.le hle) hf (hw.le hle) hwl ?_
  intro m2 b0 rb hT
  dsimp only [Cont]
  refine UnS.mk ?_
  refine hT.tb.rd (i := 0) (by omega) ?_
  refine hT.tb.cell (i := 0) (k := w.length) (by omega) (by omega) ?_
  exact hk m2 (hle.trans hT.le)
theorem mF_in {r : Rx} {w : List UInt8} (h : may r = 0) : isIn r w = mF w r 0 w.length := by
  refine bool_ext ?_
  rw [isIn_iff, mF_iff]
  exact ⟨fun h => h.2, fun h' => ⟨h, h'⟩⟩
end Go.E.Rg
set_option linter.unusedVariables false
set_option linter.unusedSimpArgs false
set_option maxRecDepth 20000
namespace Go.E.Rg
open Go.H Go.E
attribute [local irreducible] BiN MkS ConvN LookN MapUpN CallV HC limb dbTab
theorem wo_chg {m m' : Mem} {r : Nat} (k : Chg (fun b => b = r) m m') : Le (m.wo fun b => b = r) (m'.wo fun b => b = r) := fun b o hb => by
  by_cases e : b = r
  · rw [wo_out (F := fun b => b = r) e] at hb; cases hb
  · rw [wo_in (F := fun b => b = r) e] at hb ⊢
    exact k.eq b o hb e
/-- Numbers, some of them left; where they lie nothing turns (B). -/
def Pk (B m : Mem) (r : Nat) (l : List UInt8) : Prop := ∃ (la : Option Addr) (cap : Nat) (ps : List UInt8) (n : Nat), m r = some (.cells #[.slice la ps.length cap, .int .i64 (n : Int)] T_eyotplay_Picks (0, 0)) ∧ CellsAt B la (u8s ps) ∧ Le B (m.wo fun b => b = r) ∧ n ≤ ps.length ∧ ps.length ≤ 1000000 ∧ ps.drop n = l
section
variable {B m m' : Mem} {r b : Nat} {l : List UInt8}
theorem Pk.le (h : Pk B m r l) (k : Le m m') : Pk B m' r l := by
  obtain ⟨la, cap, ps, n, h1, h2, h3, h4⟩ := h
  exact ⟨la, cap, ps, n, k _ _ h1, h2, h3.trans (wo_chg (k.chg _)), h4⟩
theorem Pk.live (h : Pk B m r l) : m r ≠ none := by
  obtain ⟨la, cap, ps, n, h1, _⟩ := h
  rw [h1]; simp
theorem Pk.base (h : Pk B m r l) : Le B m := by
  obtain ⟨la, cap, ps, n, h1, h2, h3, h4⟩ := h
  exact h3.trans (wo_le _ _)
/-- Something new is written elsewhere. -/
theorem Pk.oth (h : Pk B m r l) (hb : b ≠ r) (hB : B b = none) (o : Obj) : Pk B (m.set b o) r l := by
  obtain ⟨la, cap, ps, n, h1, h2, h3, h4⟩ := h
  refine ⟨la, cap, ps, n, (set_other _ _ hb.symm).trans h1, h2, fun x o' hx => ?_, h4⟩
  have := h3 x o' hx
  by_cases e : x = r
  · rw [wo_out (F := fun b => b = r) e] at this; cases this
  · rw [wo_in (F := fun b => b = r) e] at this ⊢
    rw [set_other _ _ (fun e2 => by subst e2; rw [hB] at hx; cases hx)]; exact this
end
theorem Num_spec {B m : Mem} {r k : Nat} {l : List UInt8} (hp : Pk B m r l) (hk : 0 < k) {R : Ending → Mem → Prop} (h : ∀ m', Chg (fun b => b = r) m m' → Pk B m' r l.tail → R (.returned (.int .i64 (num l k : Nat))) m') :
    HC P eyotplay_Picks_Num.id #[.pointer (some ⟨r, 0, none⟩), .int .i64 (k : Int)] m R := by
  obtain ⟨la, cap, ps, n, h1, hB, h2, hn, hl, rfl⟩ := hp
  refine eyotplay_Picks_Num.ok _ _ _ _ ?_
  refine Sub.all ?_
  refine LdV.s1 h1 (UnI.mk ?_)
  refine LdV.s0 h1 (UnS.mk ?_)
  refine BrD (fun hge => ?_) (fun hlt => ?_)
  · have hz : ps.drop n = [] := List.drop_eq_nil_of_le (by omega)
    have := h m (Chg.refl _ _) ⟨la, cap, ps, n, h1, hB, h2, hn, hl, by rw [hz]; rfl⟩
    rw [hz] at this
    exact this
  have hnl : n < ps.length := by omega
  refine LdV.s1 h1 (UnI.mk ?_)
  rw [wi (n := (n : Int) + 1) (by omega) (by omega)]
  refine St1.to #[.slice la ps.length cap, .int .i64 ((n + 1 : Nat) : Int)] h1 (by simp) rfl rfl ?_
  have hch := Chg.set m r (.cells #[.slice la ps.length cap, .int .i64 ((n + 1 : Nat) : Int)] T_eyotplay_Picks (0, 0))
  have h1' : (m.set r (.cells #[.slice la ps.length cap, .int .i64 ((n + 1 : Nat) : Int)] T_eyotplay_Picks (0, 0))) r = _ := set_same _ _ _
  generalize m.set r (.cells #[.slice la ps.length cap, .int .i64 ((n + 1 : Nat) : Int)] T_eyotplay_Picks (0, 0)) = m2 at hch h1' ⊢
  have h2' := h2.trans (wo_chg hch)
  refine Sub.all ?_
  refine LdV.s0 h1' (UnS.mk ?_)
  refine LdV.s1 h1' (UnI.mk ?_)
  rw [wi (n := ((n + 1 : Nat) : Int) - 1) (by omega) (by omega), show ((n + 1 : Nat) : Int) - 1 = (n : Int) by omega]
  refine IxS.u8s (hB.le (h2'.trans (wo_le _ _))) rfl (by omega) (by omega) ?_
  intro x hx
  rw [Int.toNat_natCast] at hx
  refine UnI.mk ?_
  have hd : ps.drop n = x :: ps.drop (n + 1) := by
    rw [List.drop_eq_getElem_cons hnl]
    rw [List.getElem?_eq_getElem hnl] at hx
    cases hx; rfl
  have hxl := UInt8.toNat_lt x
  refine NzI.mk (by omega) ?_
  rw [wi (by omega) (by omega)]
  have := h m2 hch ⟨la, cap, ps, n + 1, h1', hB, h2', by omega, hl, by rw [hd]; rfl⟩
  rw [hd] at this
  have e : Int.tmod ((x.toNat : Nat) : Int) (k : Int) = ((num (x :: ps.drop (n + 1)) k : Nat) : Int) := by
    unfold num
    rw [Int.tmod_eq_emod_of_nonneg (by omega)]
    exact (Int.natCast_emod _ _).symm
  rw [e]
  exact this
/-- A row of bytes of one's own. -/
theorem new_row {m : Mem} {bs : List UInt8} {K : Nat → Mem → Prop} (h : ∀ b m', Le m m' → CellsAt m' (some ⟨b, 0, none⟩) (u8s bs) → K b m') : NewC m (u8s bs).toArray T_uint8 K := fun b hb =>
  h b _ (Le.set hb _) (cells_at (set_same _ _ _) (by simp))
theorem Set_spec {B m : Mem} {r : Nat} {l : List UInt8} (hp : Pk B m r l) {R : Ending → Mem → Prop} (h : ∀ m', Chg (fun b => b = r) m m' → Pk B m' r (psR l) → R (.returned (setv (psS l))) m') :
    HC P eyotplay_Picks_Set.id #[.pointer (some ⟨r, 0, none⟩)] m R := by
  refine eyotplay_Picks_Set.ok _ _ _ ?_
  intro b2 hb2
  have c2 := Cl.mk0 (T := T_api_Set) (c := z4) hp.live hb2
  have hBb : B b2 = none := hp.base.new hb2
  have hp1 := hp.le (Le.set hb2 (.cells z4 T_api_Set (0, 0)))
  generalize m.set b2 (.cells z4 T_api_Set (0, 0)) = m1 at c2 hp1 ⊢
  refine Num_spec (k := 7) hp1 (by decide) ?_
  intro m2 hch2 hp2
  have c3 := c2.step hch2
  dsimp only [Cont]
  refine UnI.mk ?_
  have h7 := num_lt l (m := 7) (by decide)
  -- the end: this set is told
  have fin : ∀ (S : Nat → Bool) (mm : Mem), Chg (fun b => b = r) m2 mm → Pk B mm r (psR l) → S = psS l →
      St1 mm b2 0 (.int .u64 (L S 0)) fun m1 => St1 m1 b2 1 (.int .u64 (L S 1)) fun m2 => St1 m2 b2 2 (.int .u64 (L S 2)) fun m3 => St1 m3 b2 3 (.int .u64 (L S 3)) fun m4 =>
        LdV m4 b2 0 fun v => UnI v .u64 fun x0 => LdV m4 b2 1 fun v => UnI v .u64 fun x1 => LdV m4 b2 2 fun v => UnI v .u64 fun x2 => LdV m4 b2 3 fun v => UnI v .u64 fun x3 => R (.returned (.agg #[.int .u64 x0, .int .u64 x1, .int .u64 x2, .int .u64 x3])) m4 := by
    rintro S mm hch hpm rfl
    have c4 := c3.step hch
    refine out4 c4.at_ ?_
    refine h _ (c4.put _).ch ?_
    exact hpm.oth c4.ne hBb _
  have hR : ∀ c, num l 7 = c → c ≤ 3 → psR l = l.tail := fun c h h' => by unfold psR; rw [if_pos (by omega)]
  refine BrE (fun e => ?_) (fun e => ?_)
  · have e : num l 7 = 0 := by omega
    refine new_row (bs := [97, 98]) ?_
    intro b m3 hle3 hc
    refine ROf_spec hc rfl (by decide) ?_
    intro m4 hle4
    refine ContSet.mk ?_
    exact fin _ m4 ((hle3.trans hle4).chg _) (by rw [hR 0 e (by decide)]; exact hp2.le (hle3.trans hle4)) (by unfold psS; rw [if_pos e])
  have e : num l 7 ≠ 0 := by omega
  refine BrE (fun e1 => ?_) (fun e1 => ?_)
  · have e1 : num l 7 = 1 := by omega
    refine new_row (bs := [98, 99, 100]) ?_
    intro b m3 hle3 hc
    refine ROf_spec hc rfl (by decide) ?_
    intro m4 hle4
    refine ContSet.mk ?_
    exact fin _ m4 ((hle3.trans hle4).chg _) (by rw [hR 1 e1 (by decide)]; exact hp2.le (hle3.trans hle4)) (by unfold psS; rw [if_neg e, if_pos e1])
  have e1 : num l 7 ≠ 1 := by omega
  refine BrE (fun e2 => ?_) (fun e2 => ?_)
  · have e2 : num l 7 = 2 := by omega
    refine new_row (bs := [97, 10]) ?_
    intro b m3 hle3 hc
    refine ROf_spec hc rfl (by decide) ?_
    intro m4 hle4
    refine ContSet.mk ?_
    refine RNot_spec ?_
    intro m5 hle5
    refine ContSet.mk ?_
    have hle := (hle3.trans hle4).trans hle5
    exact fin _ m5 (hle.chg _) (by rw [hR 2 e2 (by decide)]; exact hp2.le hle) (by unfold psS; rw [if_neg e, if_neg e1, if_pos e2])
  have e2 : num l 7 ≠ 2 := by omega
  refine BrE (fun e3 => ?_) (fun e3 => ?_)
  · have e3 : num l 7 = 3 := by omega
    refine new_row (bs := [48, 49, 50]) ?_
    intro b m3 hle3 hc
    refine ROf_spec hc rfl (by decide) ?_
    intro m4 hle4
    refine ContSet.mk ?_
    exact fin _ m4 ((hle3.trans hle4).chg _) (by rw [hR 3 e3 (by decide)]; exact hp2.le (hle3.trans hle4)) (by unfold psS; rw [if_neg e, if_neg e1, if_neg e2, if_pos e3])
  have e3 : num l 7 ≠ 3 := by omega
  refine Num_spec (k := 6) hp2 (by decide) ?_
  intro m3 hch3 hp3
  dsimp only [Cont]
  refine UnI.mk ?_
  have h6 := num_lt l.tail (m := 6) (by decide)
  have hsz : (ByteArray.mk #[97, 98, 49, 10, 32, 45]).size = 6 := rfl
  refine ⟨by omega, by omega, ?_⟩
  have hbt : bt (ByteArray.mk #[97, 98, 49, 10, 32, 45]) (num l.tail 6 : Nat) = (((few.getD (num l.tail 6) 0).toNat : Nat) : Int) := by
    generalize num l.tail 6 = q at h6
    have : q = 0 ∨ q = 1 ∨ q = 2 ∨ q = 3 ∨ q = 4 ∨ q = 5 := by omega
    rcases this with rfl | rfl | rfl | rfl | rfl | rfl <;> rfl
  rw [hbt]
  refine new_row (bs := [few.getD (num l.tail 6) 0]) ?_
  intro b m4 hle4 hc
  refine ROf_spec hc rfl (by simp) ?_
  intro m5 hle5
  refine ContSet.mk ?_
  have hle := hle4.trans hle5
  refine fin _ m5 (hch3.trans (hle.chg _) (fun _ _ e => e)) ?_ ?_
  · have : psR l = l.tail.tail := by unfold psR; rw [if_neg (by omega)]
    rw [this]; exact hp3.le hle
  · unfold psS; rw [if_neg e, if_neg e1, if_neg e2, if_neg e3]
end Go.E.Rg
set_option linter.unusedVariables false
set_option linter.unusedSimpArgs false
set_option maxRecDepth 20000
namespace Go.E.Rg
open Go.H Go.E
attribute [local irreducible] BiN MkS ConvN LookN MapUpN CallV HC limb dbTab
theorem Pk.chg {B m m' : Mem} {r : Nat} {l : List UInt8} {S : Nat → Prop} (h : Pk B m r l) (k : Chg S m m') (hs : ∀ b, S b → b ≠ r ∧ B b = none) : Pk B m' r l := by
  obtain ⟨la, cap, ps, n, h1, h2, h3, h4⟩ := h
  refine ⟨la, cap, ps, n, k.eq _ _ h1 (fun hS => (hs r hS).1 rfl), h2, fun x o' hx => ?_, h4⟩
  have := h3 x o' hx
  by_cases e : x = r
  · rw [wo_out (F := fun b => b = r) e] at this; cases this
  · rw [wo_in (F := fun b => b = r) e] at this ⊢
    exact k.eq x o' this (fun hS => by rw [(hs x hS).2] at hx; cases hx)
theorem Cl.with {T : TypeId} {m mm : Mem} {r b b' : Nat} {c : Array Value} (h : Cl T m mm r b c) (hne : b ≠ b') (o : Obj) (hm : m b' = none) : Cl T m (mm.set b' o) r b c := by
  refine ⟨(set_other _ _ hne).trans h.at_, h.ne, h.new, ?_⟩
  refine h.ch.trans (Chg.set mm b' o) (fun x hx e => ?_)
  rw [show x = b' from e, hm] at hx; exact absurd rfl hx
def PrxOK (d : Nat) : Prop := ∀ {B m : Mem} {r : Nat} {l : List UInt8} {R : Ending → Mem → Prop}, Pk B m r l → (∀ m' v, Chg (fun b => b = r) m m' → Pk B m' r (prx d l).2 → ArgC (newB m m') (prx d l).1 v → R (.returned (rxA (prx d l).1.k (prx d l).1.S v)) m') → HC P eyotplay_Picks_Rx.id #[.pointer (some ⟨r, 0, none⟩), .int .i64 (d : Int)] m R
section
variable {B m m1 : Mem} {r b4 b8 : Nat} {d n : Nat} {kind : Int} {l0 : List UInt8} {R : Ending → Mem → Prop}
/-- One more part is put on. -/
theorem k5_spec {K3 : Option Addr → Int → Nat → Nat → Int → Int → Nat → Nat → Int → Mem → Prop} {x0 : Option Addr} {x1 : Int} {x4o : Nat} {i : Nat} {mm : Mem} {b10 : Nat} {a : Option Addr} {c : Nat} {prs : List (Rx × Value)} {y : Rx} {a' : Option Addr} {l' c' : Nat} {lr : List UInt8}
    (hle1 : Le B m1) (hrl1 : m1 r ≠ none) (hl4 : m1 b4 ≠ none) (hl8 : m1 b8 ≠ none) (hup : ∀ b, m b ≠ none → m1 b ≠ none) (h48 : b4 ≠ b8) (hm8 : m b8 = none)
    (c4 : Cl T_api_Rx m mm r b4 zRx) (c8 : Cl T_api_Rx m mm r b8 (rxO kind noS (.slice a prs.length c))) (hL : RL m1 mm a c prs) (hp : Pk B mm r lr) (hupm : ∀ b, m1 b ≠ none → mm b ≠ none)
    (h10 : mm b10 = some (.cells (rxO y.k y.S (.slice a' l' c')) T_api_Rx (0, 0))) (hy : ArgC (on mm fun b => m1 b = none ∧ blk a ≠ some b) y (.slice a' l' c')) (hlen : prs.length ≤ 100) (hi : i ≤ 100) (hB8 : B b8 = none)
    (hK : ∀ m' a2 c2, Cl T_api_Rx m m' r b4 zRx → Cl T_api_Rx m m' r b8 (rxO kind noS (.slice a2 (prs.length + 1) c2)) → RL m1 m' a2 c2 (prs ++ [(y, .slice a' l' c')]) → Pk B m' r lr → (∀ b, m1 b ≠ none → m' b ≠ none) → K3 x0 x1 b4 x4o kind (n : Int) b8 0 ((i + 1 : Nat) : Int) m') :
    eyotplay_Picks_Rx.k5 K3 x0 x1 b4 x4o kind (n : Int) b8 0 (i : Int) b10 0 R mm := by
  unfold eyotplay_Picks_Rx.k5
  refine LdV.s5 c8.at_ (UnS.mk ?_)
  refine get6 h10 ?_
  refine RL.push hL (x := y) rfl hy (by omega) hupm ?_
  intro a2 c2 m5 hch5 hL5
  refine UnS.mk ?_
  have c45 := c4.app hch5 hL.fr hl4 hup
  have c85 := c8.app hch5 hL.fr hl8 hup
  have hp5 := hp.chg hch5 (fun b hb => ⟨fun e => by subst e; exact hrl1 (hL.fr b hb), hle1.new (hL.fr b hb)⟩)
  have hup5 : ∀ b, m1 b ≠ none → m5 b ≠ none := fun b hb => hch5.live b (hupm b hb)
  refine St1.to (rxO kind noS (.slice a2 (prs.length + 1) c2)) c85.at_ (by simp [rxO]) rfl (by simp [rxO]) ?_
  rw [show IntKind.i64.wrap ((i : Int) + 1) = ((i + 1 : Nat) : Int) by rw [wi (by omega) (by omega)]; omega]
  refine hK _ a2 c2 (c45.with h48 _ hm8) (c85.put _) (hL5.up (Chg.set m5 b8 _) (fun b e => by rw [show b = b8 from e]; exact hl8)) (hp5.oth c85.ne hB8 _) (fun b hb => (Chg.set m5 b8 _).live b (hup5 b hb))
end
theorem prx_spec : ∀ d, d ≤ 1000 → PrxOK d := by
  intro d
  induction d with
  | zero =>
    intro hd B m r l R hp k
    refine eyotplay_Picks_Rx.ok _ _ _ _ ?_
    intro b4 hb4
    have c4 := Cl.mk0 (T := T_api_Rx) (c := zRx) hp.live hb4
    have hB4 : B b4 = none := hp.base.new hb4
    have hp1 := hp.le (Le.set hb4 (.cells zRx T_api_Rx (0, 0)))
    generalize m.set b4 (.cells zRx T_api_Rx (0, 0)) = m1 at c4 hp1 ⊢
    refine Num_spec (k := 9) hp1 (by decide) ?_
    intro m2 hch2 hp2
    dsimp only [Cont]
    refine UnI.mk ?_
    refine BrDt (by omega) ?_
    unfold eyotplay_Picks_Rx.k1
    refine Br.t rfl ?_
    refine Set_spec hp2 ?_
    intro m3 hch3 hp3
    refine ContSet.mk ?_
    have c5 := (c4.step hch2).step hch3
    refine out6 (S := psS l.tail) c5.at_ ?_
    exact k _ (.slice none 0 0) (c5.put _).ch (hp3.oth c5.ne hB4 _) ArgC.none
  | succ d ih =>
    intro hd B m r l R hp k
    refine eyotplay_Picks_Rx.ok _ _ _ _ ?_
    intro b4 hb4
    have c4 := Cl.mk0 (T := T_api_Rx) (c := zRx) hp.live hb4
    have hB4 : B b4 = none := hp.base.new hb4
    have hle0 : Le m (m.set b4 (.cells zRx T_api_Rx (0, 0))) := Le.set hb4 _
    have hp1 := hp.le hle0
    have hl40 : (m.set b4 (.cells zRx T_api_Rx (0, 0))) b4 ≠ none := by rw [set_same]; simp
    generalize m.set b4 (.cells zRx T_api_Rx (0, 0)) = m0 at c4 hp1 hle0 hl40 ⊢
    refine Num_spec (k := 9) hp1 (by decide) ?_
    intro m2 hch2 hp2
    dsimp only [Cont]
    refine UnI.mk ?_
    have c42 := c4.step hch2
    have hl42 : m2 b4 ≠ none := hch2.live _ hl40
    have hup2 : ∀ b, m b ≠ none → m2 b ≠ none := fun b hb => hch2.live b (hle0.live hb)
    refine BrDf (by omega) ?_
    have h9 := num_lt l (m := 9) (by decide)
    have hprx : prx (d + 1) l = (if num l 9 < 4 then (st (psS l.tail), psR l.tail)
      else if kindOf (num l 9) ≤ 3 then (.mk (kindOf (num l 9)) noS (kidsF (prx d) (kindOf (num l 9)) (2 + num l.tail 2) l.tail.tail).1, (kidsF (prx d) (kindOf (num l 9)) (2 + num l.tail 2) l.tail.tail).2)
      else (.mk (kindOf (num l 9)) noS (kidsF (prx d) (kindOf (num l 9)) 1 l.tail).1, (kidsF (prx d) (kindOf (num l 9)) 1 l.tail).2)) := rfl
    unfold eyotplay_Picks_Rx.k1
    refine BrD (fun hlt => ?_) (fun hge => ?_)
    · rw [hprx, if_pos (by omega)] at k
      refine Set_spec hp2 ?_
      intro m3 hch3 hp3
      refine ContSet.mk ?_
      have c5 := c42.step hch3
      refine out6 (S := psS l.tail) c5.at_ ?_
      exact k _ (.slice none 0 0) (c5.put _).ch (hp3.oth c5.ne hB4 _) ArgC.none
    rw [hprx, if_neg (by omega)] at k
    have hki : kindOf (num l 9) = 2 + (((num l 9 + 1) % 5 : Nat) : Int) := rfl
    have ekind : IntKind.i64.wrap (2 + (Int.tmod (IntKind.i64.wrap (((num l 9 : Nat) : Int) + 1)) 5)) = kindOf (num l 9) := by
      rw [wi (n := ((num l 9 : Nat) : Int) + 1) (by omega) (by omega)]
      have : Int.tmod (((num l 9 : Nat) : Int) + 1) 5 = (((num l 9 + 1) % 5 : Nat) : Int) := by
        rw [Int.tmod_eq_emod_of_nonneg (by omega)]; omega
      rw [this, hki, wi (by omega) (by omega)]
    rw [ekind]
    have hkin := kindOf_in (num l 9)
    generalize kindOf (num l 9) = kind at k hkin ⊢
    -- so many parts
    have parts : ∀ (n : Nat) (l0 : List UInt8) (m3 : Mem), n ≤ 3 → Chg (fun b => b = r) m2 m3 → Pk B m3 r l0 →
        (∀ m' v, Chg (fun b => b = r) m m' → Pk B m' r (kidsF (prx d) kind n l0).2 → ArgC (newB m m') (.mk kind noS (kidsF (prx d) kind n l0).1) v → R (.returned (rxA kind noS v)) m') →
        eyotplay_Picks_Rx.k2 (some ⟨r, 0, none⟩) ((d + 1 : Nat) : Int) b4 0 kind (n : Int) R m3 := by
      intro n l0 m3 hn hch3 hp3 hk
      unfold eyotplay_Picks_Rx.k2
      intro b8 hb8
      have c43 := c42.step hch3
      have hm8 : m b8 = none := c43.ch.new hb8
      have hB8 : B b8 = none := hp3.base.new hb8
      have h48 : b4 ≠ b8 := by rintro rfl; rw [c43.at_] at hb8; cases hb8
      have h8r : b8 ≠ r := by rintro rfl; exact hp3.live hb8
      have key := put6 (m := m3.set b8 (.cells zRx T_api_Rx (0, 0))) (b := b8) (k := kind) (S := noS) (a := none) (l := 0) (c := 0) (e := T_api_Rx) (K := fun m7 => eyotplay_Picks_Rx.l3 (some ⟨r, 0, none⟩) ((d + 1 : Nat) : Int) b4 0 kind (n : Int) b8 0 0 R m7) (set_same _ _ _) (by
        rw [set_set]
        have c44 : Cl T_api_Rx m (m3.set b8 (.cells (rxO kind noS (.slice none 0 0)) T_api_Rx (0, 0))) r b4 zRx := c43.le (Le.set hb8 _)
        have c84 : Cl T_api_Rx m (m3.set b8 (.cells (rxO kind noS (.slice none 0 0)) T_api_Rx (0, 0))) r b8 (rxO kind noS (.slice none 0 0)) := Cl.mkAt c43.ch hp.live hb8
        have hp4 := hp3.le (Le.set hb8 (.cells (rxO kind noS (.slice none 0 0)) T_api_Rx (0, 0)))
        have hl8 : (m3.set b8 (.cells (rxO kind noS (.slice none 0 0)) T_api_Rx (0, 0))) b8 ≠ none := by rw [set_same]; simp
        have hl4 : (m3.set b8 (.cells (rxO kind noS (.slice none 0 0)) T_api_Rx (0, 0))) b4 ≠ none := (Le.set hb8 _).live (hch3.live _ hl42)
        have hup : ∀ b, m b ≠ none → (m3.set b8 (.cells (rxO kind noS (.slice none 0 0)) T_api_Rx (0, 0))) b ≠ none := fun b hb => (Le.set hb8 _).live (hch3.live b (hup2 b hb))
        generalize m3.set b8 (.cells (rxO kind noS (.slice none 0 0)) T_api_Rx (0, 0)) = m1 at c44 c84 hp4 hl8 hl4 hup ⊢
        have hrl1 := hp4.live
        have hle1 := hp4.base
        refine ⟨fun N x0 x1 x4b x4o x6 x7 x8b x8o i mm => x0 = some ⟨r, 0, none⟩ ∧ x1 = ((d + 1 : Nat) : Int) ∧ x4b = b4 ∧ x4o = 0 ∧ x6 = kind ∧ x7 = (n : Int) ∧ x8b = b8 ∧ x8o = 0 ∧ ∃ (j : Nat) (a : Option Addr) (c : Nat) (prs : List (Rx × Value)) (l' : List UInt8), i = (j : Int) ∧ j ≤ n ∧ N = n - j ∧ prs.length = j ∧ Cl T_api_Rx m mm r b4 zRx ∧ Cl T_api_Rx m mm r b8 (rxO kind noS (.slice a prs.length c)) ∧ RL m1 mm a c prs ∧ Pk B mm r l' ∧ (∀ b, m1 b ≠ none → mm b ≠ none) ∧
            kidsF (prx d) kind n l0 = (prs.map (·.1) ++ (kidsF (prx d) kind (n - j) l').1, (kidsF (prx d) kind (n - j) l').2), n,
          ⟨rfl, rfl, rfl, rfl, rfl, rfl, rfl, rfl, 0, none, 0, [], l0, rfl, by omega, by omega, rfl, c44, c84, ⟨Own.nil _ _ _, Fresh.none _, fun p hp => by cases hp⟩, hp4, fun b hb => hb, by simp⟩, ?_⟩
        rintro N x0 x1 x4b x4o x6 x7 x8b x8o i mm ⟨g0, g1, g2, g3, g4, g5, g6, g7, j, a, c, prs, l', rfl, hj, rfl, hpj, cm4, cm8, hL, hpm, hupm, hkids⟩
        subst x0 x1 x4b x4o x6 x7 x8b x8o
        unfold eyotplay_Picks_Rx.l3B
        refine BrD (fun hlt => ?_) (fun hge => ?_)
        rotate_left
        · have hz : n - j = 0 := by omega
          rw [hz] at hkids
          have e0 : kidsF (prx d) kind 0 l' = ([], l') := rfl
          rw [e0, List.append_nil] at hkids
          refine get6 cm8.at_ ?_
          refine out6 (S := noS) cm4.at_ ?_
          have c5 := cm4.put (rxO kind noS (.slice a prs.length c))
          have hL5 := hL.up (Chg.set mm b4 (.cells (rxO kind noS (.slice a prs.length c)) T_api_Rx (0, 0))) (fun b e => by rw [show b = b4 from e]; exact hl4)
          rw [hkids] at hk
          exact hk _ (.slice a prs.length c) c5.ch (hpm.oth cm4.ne hB4 _) ((hL5.arg (Le.refl _) (by omega) kind noS).le (newB_up hup))
        have ed : IntKind.i64.wrap (((d + 1 : Nat) : Int) - 1) = (d : Int) := by rw [wi (by omega) (by omega)]; omega
        rw [ed]
        refine ih (by omega) hpm ?_
        intro m4 v hch4 hp5 hv
        obtain ⟨a', l'', c', rfl⟩ := hv.sl
        refine ContRx.mk ?_
        refine copyRx ?_
        intro b10 m8 hb10 hle8 h10
        have cm4' := (cm4.step hch4).le hle8
        have cm8' := (cm8.step hch4).le hle8
        have hL8 := (hL.up hch4 (fun b e => by rw [show b = r from e]; exact hrl1)).up (hle8.chg fun _ => False) (fun _ h => h.elim)
        have hp8 := hp5.le hle8
        have hup8 : ∀ b, m1 b ≠ none → m8 b ≠ none := fun b hb => hle8.live (hch4.live b (hupm b hb))
        have hin : ∀ {y : Rx} {w : Value} {m9 : Mem}, ArgC (newB mm m9) y w → ArgC (on m9 fun b => m1 b = none ∧ blk a ≠ some b) y w := fun h => hL.in_ hupm h
        have hx : ArgC (newB mm m8) (prx d l').1 (.slice a' l'' c') := hv.le (newB_le hle8)
        obtain ⟨q, hq⟩ : ∃ q, n - j = q + 1 := ⟨n - j - 1, by omega⟩
        have hq' : n - (j + 1) = q := by omega
        have hks : kidsF (prx d) kind (n - j) l' = ((kidF (prx d) kind l').1 :: (kidsF (prx d) kind q (kidF (prx d) kind l').2).1, (kidsF (prx d) kind q (kidF (prx d) kind l').2).2) := by rw [hq]; rfl
        rw [hks] at hkids
        -- this part, or a set in its place
        have k4 : ∀ z : Bool, (z = true ↔ ((prx d l').1.k = kind ∨ (4 ≤ kind ∧ 4 ≤ (prx d l').1.k))) → eyotplay_Picks_Rx.k4 (fun x0 x1 x4b x4o x6 x7 x8b x8o i mm => ∃ N1, N1 < n - j ∧ (x0 = some ⟨r, 0, none⟩ ∧ x1 = ((d + 1 : Nat) : Int) ∧ x4b = b4 ∧ x4o = 0 ∧ x6 = kind ∧ x7 = (n : Int) ∧ x8b = b8 ∧ x8o = 0 ∧ ∃ (j : Nat) (a : Option Addr) (c : Nat) (prs : List (Rx × Value)) (l' : List UInt8), i = (j : Int) ∧ j ≤ n ∧ N1 = n - j ∧ prs.length = j ∧ Cl T_api_Rx m mm r b4 zRx ∧ Cl T_api_Rx m mm r b8 (rxO kind noS (.slice a prs.length c)) ∧ RL m1 mm a c prs ∧ Pk B mm r l' ∧ (∀ b, m1 b ≠ none → mm b ≠ none) ∧
            kidsF (prx d) kind n l0 = (prs.map (·.1) ++ (kidsF (prx d) kind (n - j) l').1, (kidsF (prx d) kind (n - j) l').2))) (some ⟨r, 0, none⟩) ((d + 1 : Nat) : Int) b4 0 kind (n : Int) b8 0 (j : Int) b10 0 z R m8 := by
          intro z hz
          have goOn : ∀ {m9 : Mem} {y : Rx} {ay : Option Addr} {ly cy : Nat} {lr : List UInt8}, kidF (prx d) kind l' = (y, lr) → Cl T_api_Rx m m9 r b4 zRx → Cl T_api_Rx m m9 r b8 (rxO kind noS (.slice a prs.length c)) → RL m1 m9 a c prs → Pk B m9 r lr → (∀ b, m1 b ≠ none → m9 b ≠ none) → m9 b10 = some (.cells (rxO y.k y.S (.slice ay ly cy)) T_api_Rx (0, 0)) → ArgC (on m9 fun b => m1 b = none ∧ blk a ≠ some b) y (.slice ay ly cy) →
              eyotplay_Picks_Rx.k5 (fun x0 x1 x4b x4o x6 x7 x8b x8o i mm => ∃ N1, N1 < n - j ∧ (x0 = some ⟨r, 0, none⟩ ∧ x1 = ((d + 1 : Nat) : Int) ∧ x4b = b4 ∧ x4o = 0 ∧ x6 = kind ∧ x7 = (n : Int) ∧ x8b = b8 ∧ x8o = 0 ∧ ∃ (j : Nat) (a : Option Addr) (c : Nat) (prs : List (Rx × Value)) (l' : List UInt8), i = (j : Int) ∧ j ≤ n ∧ N1 = n - j ∧ prs.length = j ∧ Cl T_api_Rx m mm r b4 zRx ∧ Cl T_api_Rx m mm r b8 (rxO kind noS (.slice a prs.length c)) ∧ RL m1 mm a c prs ∧ Pk B mm r l' ∧ (∀ b, m1 b ≠ none → mm b ≠ none) ∧
                kidsF (prx d) kind n l0 = (prs.map (·.1) ++ (kidsF (prx d) kind (n - j) l').1, (kidsF (prx d) kind (n - j) l').2))) (some ⟨r, 0, none⟩) ((d + 1 : Nat) : Int) b4 0 kind (n : Int) b8 0 (j : Int) b10 0 R m9 := by
            intro m9 y ay ly cy lr hkf d4 d8 dL dp dup d10 dy
            refine k5_spec (m := m) (m1 := m1) hle1 hrl1 hl4 hl8 hup h48 hm8 d4 d8 dL dp dup d10 dy (by omega) (by omega) hB8 ?_
            intro m' a2 c2 e4 e8 eL ep eup
            refine ⟨n - (j + 1), by omega, rfl, rfl, rfl, rfl, rfl, rfl, rfl, rfl, j + 1, a2, c2, prs ++ [(y, .slice ay ly cy)], lr, rfl, by omega, rfl, by simp [hpj], e4, by rw [List.length_append]; exact e8, eL, ep, eup, ?_⟩
            rw [hq', hkids, hkf]
            simp
          unfold eyotplay_Picks_Rx.k4
          refine Br.mk (fun ht => ?_) (fun hf => ?_)
          · have hc := hz.mp ht
            have hkf : kidF (prx d) kind l' = (st (psS (prx d l').2), psR (prx d l').2) := by unfold kidF; rw [if_pos hc]
            refine Set_spec hp8 ?_
            intro m9 hch9 hp9
            refine ContSet.mk ?_
            have h10r : b10 ≠ r := by rintro rfl; exact hp5.live hb10
            have h109 := hch9.eq _ _ h10 h10r
            refine put6 (S := psS (prx d l').2) h109 ?_
            have hb10m1 : m1 b10 = none := by
              cases h : m1 b10 with
              | none => rfl
              | some o => exact absurd hb10 (hch4.live _ (hupm _ (by rw [h]; simp)))
            have hne4 : b4 ≠ b10 := by rintro rfl; exact hl4 hb10m1
            have hne8 : b8 ≠ b10 := by rintro rfl; exact hl8 hb10m1
            have hm10 : m b10 = none := by
              cases h : m b10 with
              | none => rfl
              | some o => exact absurd hb10m1 (hup _ (by rw [h]; simp))
            refine goOn hkf ((cm4'.step hch9).with hne4 _ hm10) ((cm8'.step hch9).with hne8 _ hm10) ?_ (hp9.oth h10r (hle1.new hb10m1) _) (fun b hb => (Chg.set m9 b10 _).live b (hch9.live b (hup8 b hb))) (set_same _ _ _) ArgC.none
            have hL9 := hL8.up hch9 (fun b e => by rw [show b = r from e]; exact hrl1)
            have hab : blk a ≠ some b10 := fun e => by
              have := (hL.up hch4 (fun b e => by rw [show b = r from e]; exact hrl1)).own.live b10 e
              exact this hb10
            have hchS := Chg.set m9 b10 (.cells (rxO 1 (psS (prx d l').2) (.slice none 0 0)) T_api_Rx (0, 0))
            refine ⟨hL9.own.chg hchS (fun b hb e => hab (by rw [hb]; rw [show b = b10 from e])), hL9.fr, fun p hpp => ?_⟩
            -- what the parts have lies elsewhere: it is older than b10
            have h0 := (hL.up hch4 (fun b e => by rw [show b = r from e]; exact hrl1)).ok p hpp
            refine h0.le ?_
            intro b o hb
            obtain ⟨g1, g2⟩ := on_live hb
            have hbne : b ≠ b10 := by rintro rfl; rw [hb10] at g2; cases g2
            have hbr : b ≠ r := fun e => hrl1 (e ▸ g1.1)
            rw [on_in (G := fun b => m1 b = none ∧ blk a ≠ some b) g1, set_other _ _ hbne]
            exact hch9.eq _ _ (hle8 _ _ g2) hbr
          · have hc : ¬ ((prx d l').1.k = kind ∨ (4 ≤ kind ∧ 4 ≤ (prx d l').1.k)) := by rw [← hz, hf]; decide
            have hkf : kidF (prx d) kind l' = ((prx d l').1, (prx d l').2) := by unfold kidF; rw [if_neg hc]
            exact goOn hkf cm4' cm8' hL8 hp8 hup8 h10 (hin hx)
        refine LdV.s0 h10 (UnI.mk ?_)
        refine BrE (fun e => ?_) (fun e => ?_)
        · exact k4 true (by simp [e])
        refine BrD (fun h4 => ?_) (fun h4 => ?_)
        · refine LdV.s0 h10 (UnI.mk ?_)
          refine k4 _ ?_
          simp only [ge_iff_le, decide_eq_true_eq]
          exact ⟨fun h => .inr ⟨by omega, h⟩, fun h => by rcases h with h | h; exact absurd h e; exact h.2⟩
        · refine k4 false ⟨fun h => (by cases h), fun h => ?_⟩
          rcases h with h | h
          · exact absurd h e
          · omega)
      rw [noS_L, noS_L, noS_L, noS_L] at key
      exact key
    refine BrD (fun h3 => ?_) (fun h3 => ?_)
    · rw [if_pos (by omega)] at k
      refine Num_spec (k := 2) hp2 (by decide) ?_
      intro m3 hch3 hp3
      dsimp only [Cont]
      refine UnI.mk ?_
      have h2 := num_lt l.tail (m := 2) (by decide)
      have e2 : IntKind.i64.wrap (2 + ((num l.tail 2 : Nat) : Int)) = ((2 + num l.tail 2 : Nat) : Int) := by rw [wi (by omega) (by omega)]; omega
      rw [e2]
      exact parts _ _ m3 (by omega) hch3 hp3 k
    · rw [if_neg (by omega)] at k
      exact parts 1 _ m2 (by omega) (Chg.refl _ _) hp2 k
end Go.E.Rg
set_option linter.unusedVariables false
set_option linter.unusedSimpArgs false
set_option maxRecDepth 20000
namespace Go.E.Rg
open Go.H Go.E
theorem kid_nodes {f : List UInt8 → Rx × List UInt8} {D : Nat} (hD : 1 ≤ D) (hf : ∀ l, nodes (f l).1 ≤ D) (kind : Int) (l : List UInt8) : nodes (kidF f kind l).1 ≤ D := by
  unfold kidF
  split
  · show nodes (st _) ≤ D
    unfold st
    rw [nodes_mk', nodesL_nil]; omega
  · exact hf l
theorem kids_nodes {f : List UInt8 → Rx × List UInt8} {D : Nat} (hD : 1 ≤ D) (hf : ∀ l, nodes (f l).1 ≤ D) (kind : Int) : ∀ (n : Nat) (l : List UInt8), nodesL (kidsF f kind n l).1 ≤ n * D
  | 0, l => by show nodesL [] ≤ _; rw [nodesL_nil]; omega
  | n + 1, l => by
    show nodesL ((kidF f kind l).1 :: _) ≤ _
    rw [nodesL_cons', Nat.add_mul, Nat.one_mul]
    have h1 := kid_nodes hD hf kind l
    have h2 := kids_nodes hD hf kind n (kidF f kind l).2
    omega
theorem prx_nodes : ∀ (d : Nat) (l : List UInt8), nodes (prx d l).1 ≤ 4 ^ d
  | 0, l => by
    show nodes (st _) ≤ _
    unfold st
    rw [nodes_mk', nodesL_nil]; simp
  | d + 1, l => by
    have hD : 1 ≤ 4 ^ d := Nat.pow_pos (by decide)
    have hs : ∀ S, nodes (st S) = 1 := fun S => by unfold st; rw [nodes_mk', nodesL_nil]
    unfold prx
    have h2 := num_lt l.tail (m := 2) (by decide)
    rw [Nat.pow_succ]
    split
    · show nodes (st _) ≤ _
      rw [hs]; omega
    split
    · show nodes (Rx.mk _ _ _) ≤ _
      rw [nodes_mk']
      have := kids_nodes hD (prx_nodes d) (kindOf (num l 9)) (2 + num l.tail 2) l.tail.tail
      have h3 : (2 + num l.tail 2) * 4 ^ d ≤ 3 * 4 ^ d := Nat.mul_le_mul_right _ (by omega)
      omega
    · show nodes (Rx.mk _ _ _) ≤ _
      rw [nodes_mk']
      have := kids_nodes hD (prx_nodes d) (kindOf (num l 9)) 1 l.tail
      omega
end Go.E.Rg
set_option linter.unusedVariables false
set_option linter.unusedSimpArgs false
set_option maxRecDepth 20000
namespace Go.E.Rg
open Go.H Go.E
attribute [local irreducible] BiN MkS ConvN LookN MapUpN CallV HC limb dbTab
/-- What Parse answers. -/
theorem ContPR.mk {k u0 u1 u2 u3 e : Int} {a : Option Addr} {l c : Nat} {K : Int → Int → Int → Int → Int → Option Addr → Nat → Nat → Int → Mem → Prop} {Pn : List PanicEntry → Mem → Prop} {m : Mem} (h : K k u0 u1 u2 u3 a l c e m) :
    Cont (fun v m => UnTup v fun us0 => UnCons us0 fun w us1 => UnAgg w fun l => UnCons l fun v l => UnI v .i64 fun x0 => UnCons l fun v l => UnI v .u64 fun x1 => UnCons l fun v l => UnI v .u64 fun x2 => UnCons l fun v l => UnI v .u64 fun x3 => UnCons l fun v l => UnI v .u64 fun x4 => UnCons l fun v l => UnS v fun xa xl xc => UnNil l (
      UnCons us1 fun w us2 => UnI w .i64 fun e => UnNil us2 (K x0 x1 x2 x3 x4 xa xl xc e m))) Pn
      (.returned (.tuple #[.agg #[.int .i64 k, .int .u64 u0, .int .u64 u1, .int .u64 u2, .int .u64 u3, .slice a l c], .int .i64 e])) m := h
/-- Parse told at once: what it answers, as an expression with a word why not. -/
def prs (l : List UInt8) : Rx × Int := match parse l with | .ok x => (x, 0) | .error e => (rx0, e)
theorem Made_spec {B m : Mem} {la : Option Addr} {cap : Nat} {ps : List UInt8} (hB : Le B m) (hc : CellsAt B la (u8s ps)) (hl : ps.length ≤ 1000000) {R : Ending → Mem → Prop} (h : ∀ m' r, Le m m' → m r = none → Pk B m' r ps → R (.returned (.pointer (some ⟨r, 0, none⟩))) m') :
    HC P eyotplay_Made.id #[.slice la ps.length cap] m R := by
  refine eyotplay_Made.ok _ _ _ _ _ ?_
  intro r hr
  refine h _ r (Le.set hr _) hr ⟨la, cap, ps, 0, set_same _ _ _, hc, le_wo (hB.trans (Le.set hr _)) (fun b e => by rw [show b = r from e]; exact hB.new hr), by omega, hl, by simp⟩
/-- An expression made of numbers. -/
theorem made_rx {B m : Mem} {la : Option Addr} {cap d : Nat} {ps : List UInt8} (hB : Le B m) (hc : CellsAt B la (u8s ps)) (hl : ps.length ≤ 1000000) (hd : d ≤ 1000) {R : Ending → Mem → Prop} {Pn : List PanicEntry → Mem → Prop}
    (h : ∀ m' a l c, Le m m' → ArgC m' (prx d ps).1 (.slice a l c) → R (.returned (rxA (prx d ps).1.k (prx d ps).1.S (.slice a l c))) m') :
    HC P eyotplay_Made.id #[.slice la ps.length cap] m (Cont (fun v m2 => UnP v fun x => HC P eyotplay_Picks_Rx.id #[.pointer x, .int .i64 (d : Int)] m2 R) Pn) := by
  refine Made_spec hB hc hl ?_
  intro m1 r hle1 hr hp
  dsimp only [Cont]
  refine UnP.mk ?_
  refine prx_spec d hd hp ?_
  intro m2 v hch hp2 hv
  obtain ⟨a, l, c, rfl⟩ := hv.sl
  exact h m2 a l c (hch.to_le hle1 (fun b e => by rw [show b = r from e]; exact hr)) (hv.le (on_le _ _))
/-- A result in a place of its own. -/
theorem own6 {m : Mem} {k : Int} {S : Nat → Bool} {a : Option Addr} {l c : Nat} {x0 x1 x2 x3 x4 x5 : Value} {K : Nat → Mem → Prop}
    (h : ∀ b m1, m b = none → Le m m1 → m1 b = some (.cells (rxO k S (.slice a l c)) T_api_Rx (0, 0)) → K b m1) :
    NewC m #[x0, x1, x2, x3, x4, x5] T_api_Rx fun b m1 => St1 m1 b 0 (.int .i64 k) fun m2 => St1 m2 b 1 (.int .u64 (L S 0)) fun m3 => St1 m3 b 2 (.int .u64 (L S 1)) fun m4 => St1 m4 b 3 (.int .u64 (L S 2)) fun m5 => St1 m5 b 4 (.int .u64 (L S 3)) fun m6 => St1 m6 b 5 (.slice a l c) fun m7 => K b m7 := copyRx h
end Go.E.Rg
set_option linter.unusedVariables false
set_option linter.unusedSimpArgs false
set_option maxRecDepth 20000
namespace Go.E.Pl
open Go.H Go.E Go.E.Rg
attribute [local irreducible] BiN MkS ConvN LookN MapUpN CallV HC limb dbTab
theorem plc_st (S : Nat → Bool) : plc (st S) = ⟨[S], [0], [0], [[]], false⟩ := by
  unfold plc st wk
  rw [if_pos rfl]
  rfl
theorem Of_rx0 {m : Mem} {R : Ending → Mem → Prop} (k : ∀ m' A, Le m m' → PlV m' (ofP rx0).1 A → R (.returned (.tuple #[.agg (lO A (ofP rx0).1), .int .i64 (ofP rx0).2])) m') :
    HC P place_Of.id #[.agg #[.int .i64 0, .int .u64 0, .int .u64 0, .int .u64 0, .int .u64 0, .slice none 0 0]] m R := by
  have := Of_spec (r := rx0) (m := m) (v := .slice none 0 0) ArgC.none (by decide +kernel) k
  have e : rxA rx0.k rx0.S (.slice none 0 0) = .agg #[.int .i64 0, .int .u64 0, .int .u64 0, .int .u64 0, .int .u64 0, .slice none 0 0] := by
    show rxA 0 noS (.slice none 0 0) = _
    unfold rxA
    rw [noS_L, noS_L, noS_L, noS_L]
  rw [e] at this
  exact this
theorem begun_spec {m : Mem} {R : Ending → Mem → Prop} (k : ∀ m', Le m m' → R (.returned (.bool true)) m') : HC P eyotlaw10_begun.id #[] m R := by
  refine eyotlaw10_begun.ok _ _ ?_
  intro b6 hb6
  have hle1 := Le.set hb6 (.cells #[.int .u8 0] T_uint8 (0, 0))
  have c6 : CellsAt (m.set b6 (.cells #[.int .u8 0] T_uint8 (0, 0))) (some ⟨b6, 0, none⟩) (u8s [0]) := cells_at (set_same _ _ _) rfl
  generalize m.set b6 (.cells #[.int .u8 0] T_uint8 (0, 0)) = m1 at hle1 c6 ⊢
  refine made_rx (ps := [0]) (d := 0) (Le.refl m1) c6 (by simp) (by decide) ?_
  intro m3 a l c hle3 hv
  have e : (prx 0 [0]).1 = st (psS []) := by unfold prx; rfl
  rw [e] at hv ⊢
  have hm : may (st (psS [])) = 0 := may_st (psS_some _)
  have hn : nodes (st (psS [])) = 1 := by unfold st; rw [nodes, nodesL]
  refine ContRx.mk ?_
  refine Of_spec hv (by rw [hn]; decide) ?_
  intro m4 A hle4 hp
  rw [ofP_ok hm, plc_st]
  refine ContPl.mk ?_
  refine own5 ?_
  intro b1 m10 hb1 hle10 h1
  have e2 : may rx0 = 2 := by decide +kernel
  refine Of_rx0 ?_
  intro m11 A2 hle11 _
  rw [ofP_no (by rw [e2]; decide), e2]
  refine ContPl.mk ?_
  refine own5 ?_
  intro b3 m17 hb3 hle17 h3
  have h17 := (hle11.trans hle17) _ _ h1
  refine BrEt rfl ?_
  refine LdV.s0 h17 (UnS.mk ?_)
  refine BrEt rfl ?_
  refine LdV.s1 h17 (UnS.mk ?_)
  refine BrEt rfl ?_
  refine LdV.s3 h17 (UnS.mk ?_)
  refine BrEt rfl ?_
  refine LdV.s4 h17 (UnB.mk ?_)
  refine Br.t rfl ?_
  exact k m17 ((((hle1.trans hle3).trans hle4).trans hle10).trans (hle11.trans hle17))
end Go.E.Pl
set_option linter.unusedVariables false
set_option linter.unusedSimpArgs false
set_option maxRecDepth 20000
namespace Go.E.Pl
open Go.H Go.E Go.E.Rg
attribute [local irreducible] BiN MkS ConvN LookN MapUpN CallV HC limb dbTab
def Fine (m : Mem) : Ending → Mem → Prop := fun e m' => e = .returned (.bool true) ∧ Le m m'
theorem four_len (S : Nat → Bool) : (four S).length = 4 := rfl
/-- A set is read from its row. -/
theorem IxS.set4 {m : Mem} {a : Option Addr} {l : List (Nat → Bool)} (hc : CellsAt m a (l.flatMap four)) {j : Nat} (hj : j < l.length) {i : Int} (hi : i = (j : Int)) {n : Nat} (hn : n = l.length) {K : Int → Int → Int → Int → Prop} (q : K (L l[j] 0) (L l[j] 1) (L l[j] 2) (L l[j] 3)) :
    IxS a n i 4 fun b o => LdV m b o fun v => UnI v .u64 fun x0 => LdV m b (o + 1) fun v => UnI v .u64 fun x1 => LdV m b (o + 2) fun v => UnI v .u64 fun x2 => LdV m b (o + 3) fun v => UnI v .u64 fun x3 => K x0 x1 x2 x3 := by
  subst hi hn
  have hg := List.getElem?_eq_getElem hj
  refine IxS.rows four_len (by decide) hc rfl (by omega) (by omega) ?_
  intro b o x hx hcell
  rw [Int.toNat_natCast, hg] at hx
  cases hx
  exact LdV.mk (hcell 0 _ rfl) (LdV.mk (hcell 1 _ rfl) (LdV.mk (hcell 2 _ rfl) (LdV.mk (hcell 3 _ rfl) q)))
/-- A list of numbers is read from its row. -/
theorem IxS.row {m : Mem} {a : Option Addr} {fv : List Value} {V : Mem} {fol : List (List Nat)} (hc : CellsAt m a fv) (hr : RowsOK V fol fv) {j : Nat} (hj : j < fol.length) {i : Int} (hi : i = (j : Int)) {n : Nat} (hn : n = fol.length) {K : Option Addr → Nat → Nat → Prop} (q : ∀ a' c', CellsAt V a' (ints (ns fol[j])) → K a' fol[j].length c') :
    IxS a n i 1 fun b o => LdV m b o fun v => UnS v fun xa xl xc => K xa xl xc := by
  subst hi hn
  obtain ⟨a', c', h1, h2⟩ := hr.2 j _ (List.getElem?_eq_getElem hj)
  refine IxS.ld hc (by rw [hr.1]) (by omega) (by omega) ?_
  intro v hv
  rw [Int.toNat_natCast, h1] at hv
  cases hv
  exact q a' c' h2
/-- A number is read. -/
theorem IxS.num {m : Mem} {a : Option Addr} {l : List Nat} (hc : CellsAt m a (ints (ns l))) {j : Nat} (hj : j < l.length) {i : Int} (hi : i = (j : Int)) {n : Nat} (hn : n = l.length) {K : Int → Prop} (q : K ((l[j] : Nat) : Int)) : IxS a n i 1 fun b o => LdV m b o fun v => UnI v .i64 K := by
  subst hi hn
  refine IxS.ints (xs := ns l) hc (ns_len _) (by omega) (by omega) ?_
  intro v hv
  have : (ns l)[j]? = some ((l[j] : Nat) : Int) := by unfold ns; rw [List.getElem?_map, List.getElem?_eq_getElem hj]; rfl
  rw [Int.toNat_natCast, this] at hv
  cases hv
  exact q
theorem PlOK.kla {r : Rx} {p : Plc} (h : PlOK r p) : Ok (cnt r) p.la := ⟨h.rla, h.la_lt⟩
theorem PlOK.kfo {r : Rx} {p : Plc} (h : PlOK r p) {j : Nat} (hj : j < p.fol.length) : Ok (cnt r) p.fol[j] := ⟨h.rfo _ (List.getElem_mem _), h.fo_lt _ (List.getElem_mem _)⟩
theorem PlOK.slen {r : Rx} {p : Plc} (h : PlOK r p) : p.sets.length = cnt r := by rw [h.sets]; rfl
theorem PlOK.fo_at {r : Rx} {p : Plc} (h : PlOK r p) {i : Nat} (hi : i < p.fol.length) (j : Nat) : j ∈ p.fol[i] ↔ Fo 0 r i j := by
  have := h.fo i j
  rw [List.getD_eq_getElem?_getD, List.getElem?_eq_getElem hi] at this
  exact this
end Go.E.Pl
set_option linter.unusedVariables false
set_option linter.unusedSimpArgs false
set_option maxRecDepth 20000
namespace Go.E.Pl
open Go.H Go.E Go.E.Rg
attribute [local irreducible] BiN MkS ConvN LookN MapUpN CallV HC limb dbTab
theorem ins_len {x : Nat} : ∀ {l : List Nat}, x ∉ l → (ins x l).length = l.length + 1 := by
  intro l
  induction l with
  | nil => intro _; rfl
  | cons y ys ih =>
    intro h
    rw [List.mem_cons, not_or] at h
    unfold ins
    split
    · rfl
    · rw [if_neg h.1, List.length_cons, ih h.2, List.length_cons]
theorem nodup_len {n : Nat} {l : List Nat} (h : l.Nodup) (hb : ∀ x ∈ l, x < n) : l.length ≤ n := by
  have e : (rise l).length = l.length := by
    clear hb
    induction l with
    | nil => rfl
    | cons x l ih =>
      have h1 := List.nodup_cons.mp h
      show (ins x (rise l)).length = _
      rw [ins_len (fun e => h1.1 (rise_mem.mp e)), ih h1.2, List.length_cons]
  rw [← e]
  exact rz_short (rise_rz l) (fun x hx => hb x (rise_mem.mp hx))
theorem Rz.nodup {l : List Nat} (h : Rz l) : l.Nodup := h.imp (fun h => by omega)
theorem ns_snoc (l : List Nat) (x : Nat) : ints (ns (l ++ [x])) = ints (ns l) ++ [.int .i64 (x : Int)] := by rw [ns_append]; unfold ints; rw [List.map_append]; rfl
theorem join_spec {m : Mem} {a : Option Addr} {ca : Nat} {b : Option Addr} {cb : Nat} {xs ys : List Nat} (h1 : CellsAt m a (ints (ns xs))) (h2 : CellsAt m b (ints (ns ys))) (hl1 : xs.length ≤ 10000) (hl2 : ys.length ≤ 10000) {R : Ending → Mem → Prop}
    (k : ∀ m' a' c' zs, Le m m' → CellsAt m' a' (ints (ns zs)) → (∀ x, x ∈ zs ↔ x ∈ xs ∨ x ∈ ys) → (xs.Nodup → zs.Nodup) → R (.returned (.slice a' zs.length c')) m') : HC P eyotlaw10_join.id #[.slice a xs.length ca, .slice b ys.length cb] m R := by
  refine eyotlaw10_join.ok _ _ _ _ _ _ _ _ ?_
  refine clone_gen eInt (by decide) h1 (by rw [ints_len, ns_len]; omega) (by intro v hv; unfold ints at hv; rw [List.mem_map] at hv; obtain ⟨z, _, rfl⟩ := hv; rfl) (by omega) (by omega) ?_
  intro a2 c2 m2 hle2 ho2 hf2
  refine UnS.mk ?_
  refine ⟨fun N ba bl bc oa ol oc i mm => ba = b ∧ bl = ys.length ∧ ∃ (j : Nat) (zs : List Nat), i = (j : Int) ∧ j ≤ ys.length ∧ N = ys.length - j ∧ Le m mm ∧ ol = zs.length ∧ Own mm T_int 1 oa zs.length oc (ints (ns zs)) ∧ Fresh m oa ∧ (∀ x, x ∈ zs ↔ x ∈ xs ∨ x ∈ ys.take j) ∧ (xs.Nodup → zs.Nodup) ∧ zs.length ≤ xs.length + j, ys.length,
    ⟨rfl, rfl, 0, xs, rfl, by omega, by omega, hle2, rfl, ho2, hf2, by simp, id, by omega⟩, ?_⟩
  rintro N ba bl bc oa ol oc i mm ⟨rfl, rfl, j, zs, rfl, hj, rfl, hlm, rfl, hown, hfr, hmem, hnd, hzl⟩
  unfold eyotlaw10_join.l1B
  refine BrD (fun hlt => ?_) (fun hge => ?_)
  rotate_left
  · have e : ys.take j = ys := List.take_of_length_le (by omega)
    rw [e] at hmem
    exact k mm oa oc zs hlm hown.cells hmem hnd
  have hjl : j < ys.length := by omega
  refine ⟨fun N ba' bl' bc' oa' ol' oc' i z t mm' => ba' = ba ∧ bl' = ys.length ∧ oa' = oa ∧ ol' = zs.length ∧ oc' = oc ∧ i = (j : Int) ∧ mm' = mm ∧ ∃ y : Nat, t = (y : Int) ∧ y ≤ zs.length ∧ N = zs.length - y ∧ (z = true ↔ ys[j] ∈ zs.take y), zs.length,
    ⟨rfl, rfl, rfl, rfl, rfl, rfl, rfl, 0, rfl, by omega, by omega, by simp⟩, ?_⟩
  rintro N ba' bl' bc' oa' ol' oc' i z t mm' ⟨rfl, rfl, rfl, rfl, rfl, rfl, rfl, y, rfl, hy, rfl, hz⟩
  unfold eyotlaw10_join.l2B
  have nexty : ∀ z', (z' = true ↔ ys[j] ∈ zs.take (y + 1)) → y < zs.length → ∃ N1, N1 < zs.length - y ∧ (ba' = ba' ∧ ys.length = ys.length ∧ oa' = oa' ∧ zs.length = zs.length ∧ oc' = oc' ∧ (j : Int) = (j : Int) ∧ mm' = mm' ∧ ∃ y' : Nat, IntKind.i64.wrap ((y : Int) + 1) = (y' : Int) ∧ y' ≤ zs.length ∧ N1 = zs.length - y' ∧ (z' = true ↔ ys[j] ∈ zs.take y')) := by
    intro z' hz' hyl
    refine ⟨zs.length - (y + 1), by omega, rfl, rfl, rfl, rfl, rfl, rfl, rfl, y + 1, ?_, by omega, rfl, hz'⟩
    rw [wi (by omega) (by omega)]; omega
  refine BrD (fun hlt2 => ?_) (fun hge2 => ?_)
  · have hyl : y < zs.length := by omega
    have htk : zs.take (y + 1) = zs.take y ++ [zs[y]] := by rw [List.take_add_one, List.getElem?_eq_getElem hyl]; rfl
    refine Sub.all ?_
    refine Br.mk (fun e => ?_) (fun e => ?_)
    · refine nexty true ?_ hyl
      rw [htk, List.mem_append]
      exact ⟨fun _ => .inl (hz.mp e), fun _ => rfl⟩
    · refine IxS.num hown.cells hyl rfl rfl ?_
      refine IxS.num (h2.le hlm) hjl rfl rfl ?_
      refine nexty _ ?_ hyl
      rw [htk, List.mem_append, List.mem_singleton, beq_iff_eq]
      constructor
      · intro h; right; omega
      · rintro (h | h)
        · rw [hz.mpr h] at e; cases e
        · omega
  · have e : zs.take y = zs := List.take_of_length_le (by omega)
    rw [e] at hz
    have htk : ys.take (j + 1) = ys.take j ++ [ys[j]] := by rw [List.take_add_one, List.getElem?_eq_getElem hjl]; rfl
    unfold eyotlaw10_join.k3
    refine Br.mk (fun e => ?_) (fun e => ?_)
    · have hn : ys[j] ∉ zs := fun h => by rw [hz.mpr h] at e; cases e
      refine IxS.num (h2.le hlm) hjl rfl rfl ?_
      refine push_one eInt hown (v := .int .i64 (ys[j] : Int)) rfl (by omega) (by decide) ?_
      intro a' c' m' hch ho' hfr'
      refine UnS.mk ?_
      have el : (zs ++ [ys[j]]).length = zs.length + 1 := by simp
      refine ⟨ys.length - (j + 1), by omega, rfl, rfl, j + 1, zs ++ [ys[j]], ?_, by omega, rfl, hch.to_le hlm (fun b e => hfr b e), el.symm, ?_, ?_, fun x => ?_, fun h => ?_, by rw [el]; omega⟩
      · rw [wi (by omega) (by omega)]; omega
      · rw [el, ns_snoc]; exact ho'
      · rcases hfr' with e2 | e2
        · intro b hb; rw [e2] at hb; exact hfr b hb
        · exact Fresh.le hlm e2
      · rw [List.mem_append, hmem, htk, List.mem_append, or_assoc]
      · rw [List.nodup_append]
        refine ⟨hnd h, by simp, fun a ha b hb => ?_⟩
        rw [List.mem_singleton] at hb
        subst hb
        rintro rfl
        exact hn ha
    · have hy' : ys[j] ∈ zs := hz.mp (by simpa using e)
      refine ⟨ys.length - (j + 1), by omega, rfl, rfl, j + 1, zs, ?_, by omega, rfl, hlm, rfl, hown, hfr, fun x => ?_, hnd, by omega⟩
      · rw [wi (by omega) (by omega)]; omega
      · rw [hmem, htk, List.mem_append, List.mem_singleton]
        constructor
        · rintro (h | h)
          · exact .inl h
          · exact .inr (.inl h)
        · rintro (h | h | rfl)
          · exact .inl h
          · exact .inr h
          · exact (hmem _).mp hy'
end Go.E.Pl
set_option linter.unusedVariables false
set_option maxRecDepth 100000
namespace Go.E
open Go.H
noncomputable section
/-! ### eyot/eyotlaw10.PlaceSpells -/
namespace eyotlaw10_PlaceSpells
noncomputable def fn : Func := Go.Proofs.Try.f4
noncomputable def body : Code := fn.body.getD .skip
def od : Nat → Ord := fun | 20 => ordL [(0, 3), (1, 3), (2, 3), (3, 0), (4, 3), (5, 3), (6, 3), (7, 3), (8, 3), (9, 1), (10, 3), (11, 0), (12, 3), (13, 3), (14, 3)] .done | 22 => ordL [(0, 3), (1, 1), (2, 3), (3, 3), (4, 3), (5, 1), (6, 3), (7, 1), (8, 3), (9, 3), (10, 3), (11, 0), (12, 2)] .done | 31 => ordL [(0, 3), (1, 3), (2, 3), (3, 1), (4, 3), (5, 3), (6, 1), (7, 3), (8, 3), (9, 3), (10, 0), (11, 3), (12, 3), (13, 3)] .done | 32 => ordL [(0, 3), (1, 3), (2, 1), (3, 3), (4, 3), (5, 3), (6, 0), (7, 3), (8, 2), (9, 2), (10, 3)] .done | _ => .done
def tb : Nat → Tab := fun | 20 => (0, [0, 0, 3, 7, 15, 31, 63, 63, 255, 511, 63, 1087, 3135, 8191, 16383], [(0, 256, 59), (0, 4096, 60), (3, 864691128455135232, 61), (4, 1152921504606846976, 62), (8, 2305843009213693952, 63), (16, 4611686018427387904, 64), (32, 9223372036854776064, 65), (32, 9223372036854779904, 66), (224, 64563604257983430656, 67), (288, 83010348331692982272, 68), (32, 9223372036854775872, 69), (1056, 304371277216207601664, 70), (2080, 599519182395560427520, 71), (4640, 1337388945343942492160, 72), (8224, 2370406613471677382656, 73)]) | 22 => (4096, [0, 1, 0, 0, 12, 28, 63, 127, 0, 0, 768, 1792, 4095], [(0, 64, 74), (1, 9444732965739290427392, 75), (0, 256, 76), (0, 4096, 77), (12, 113336795588871485128704, 78), (16, 151115727451828646838272, 79), (34, 321120920835135874531328, 80), (64, 604462909807314587353088, 81), (0, 2, 82), (0, 1024, 83), (768, 7253554917687775048237056, 84), (1024, 9671406556917033397649408, 85), (2176, 20551738933448695970004992, 86)]) | 31 => (0, [0, 1, 3, 7, 3, 31, 63, 3, 3, 387, 899, 2047, 4095, 8191], [(0, 512, 107), (1, 81129638414606681695789005144064, 108), (2, 162259276829213363391578010288192, 109), (6, 486777830487640090174734030864384, 110), (2, 162259276829213363391578010304512, 111), (26, 2109370598779773724090514133745664, 112), (34, 2758407706096627177656826174898176, 113), (2, 162259276829213363391578010290176, 114), (2, 162259276829213363391578010296320, 115), (386, 31316040428038179134574555985608704, 116), (514, 41700634145107834391635548644048896, 117), (1090, 88431305871921283048410015607029760, 118), (2050, 166315758749943697476367460545331200, 119), (8191, 332306998946228968225951765070086144, 10)]) | 32 => (768, [0, 0, 2, 0, 0, 24, 56, 126, 254, 511, 1023], [(0, 256, 120), (0, 64, 121), (2, 1329227995784915872903807060280344576, 122), (0, 2048, 123), (0, 8192, 124), (24, 15950735949418990474845684723364134912, 125), (32, 21267647932558653966460912964485513216, 126), (68, 45193751856687139678729440049531715584, 127), (128, 85070591730234615865843651857942052864, 128), (257, 170805797458361689668139207246024278016, 129), (1023, 340282366920938463463374607431768211456, 9)]) | _ => (0, [], [])
def k6E (K : Option Addr → Nat → Nat → Nat → Nat → Nat → Nat → Option Addr → Nat → Nat → Bool → Int → Option Addr → Nat → Nat → Int → Mem → Prop) : Env → Mem → Prop := fun ρ m => UnS (ρ 1) fun w_1a w_1l w_1c => UnPA (ρ 5) fun r_5b r_5o => UnPA (ρ 6) fun p_6b p_6o => UnS (ρ 8) fun now_8a now_8l now_8c => UnB (ρ 9) fun is_9 => UnI (ρ 10) .i64 fun i_10 => UnS (ρ 11) fun at_11a at_11l at_11c => UnI (ρ 13) .i64 fun k_13 => K w_1a w_1l w_1c r_5b r_5o p_6b p_6o now_8a now_8l now_8c is_9 i_10 at_11a at_11l at_11c k_13 m
def k6 (K1 : Option Addr → Nat → Nat → Nat → Nat → Nat → Nat → Option Addr → Nat → Nat → Bool → Int → Mem → Prop) (K4 : Option Addr → Nat → Nat → Nat → Nat → Nat → Nat → Option Addr → Nat → Nat → Bool → Int → Option Addr → Nat → Nat → Int → Mem → Prop) (w_1a : Option Addr) (w_1l : Nat) (w_1c : Nat) (r_5b : Nat) (r_5o : Nat) (p_6b : Nat) (p_6o : Nat) (now_8a : Option Addr) (now_8l : Nat) (now_8c : Nat) (is_9 : Bool) (i_10 : Int) (at_11a : Option Addr) (at_11l : Nat) (at_11c : Nat) (k_13 : Int) (R : Ending → Mem → Prop) (m : Mem) : Prop :=
 Sub m fun r1 =>
 LdV r1 p_6b (p_6o + 3) fun v =>
 UnS v fun x121a x121l x121c =>
 IxS at_11a at_11l k_13 1 fun x124b x124o =>
 LdV m x124b x124o fun v =>
 UnI v .i64 fun x125 =>
 IxS x121a x121l x125 1 fun x126b x126o =>
 LdV m x126b x126o fun v =>
 UnS v fun x127a x127l x127c =>
 HC P eyotlaw10_join.id #[.slice now_8a now_8l now_8c, .slice x127a x127l x127c] m (Cont (fun v m2 =>
   UnS v fun x128a x128l x128c =>
   K4 w_1a w_1l w_1c r_5b r_5o p_6b p_6o x128a x128l x128c is_9 i_10 at_11a at_11l at_11c (IntKind.i64.wrap (k_13 + 1)) m2) (panicR R))
noncomputable def k6A (K1 : Option Addr → Nat → Nat → Nat → Nat → Nat → Nat → Option Addr → Nat → Nat → Bool → Int → Mem → Prop) (K4 : Option Addr → Nat → Nat → Nat → Nat → Nat → Nat → Option Addr → Nat → Nat → Bool → Int → Option Addr → Nat → Nat → Int → Mem → Prop) (R : Ending → Mem → Prop) : ACode := (.code (sR (bB (sL (sR (lP (bB (sR (sR (sR (sR (bB (sL (sR (lP (bB (sR (sL (sR (sR (sR (sR (sR (sR (sR (sR (sR (body))))))))))))))))))))))))))))
def l5E (K : Option Addr → Nat → Nat → Nat → Nat → Nat → Nat → Option Addr → Nat → Nat → Bool → Int → Option Addr → Nat → Nat → Int → Int → Mem → Prop) : Env → Mem → Prop := fun ρ m => UnS (ρ 1) fun w_1a w_1l w_1c => UnPA (ρ 5) fun r_5b r_5o => UnPA (ρ 6) fun p_6b p_6o => UnS (ρ 8) fun now_8a now_8l now_8c => UnB (ρ 9) fun is_9 => UnI (ρ 10) .i64 fun i_10 => UnS (ρ 11) fun at_11a at_11l at_11c => UnI (ρ 13) .i64 fun k_13 => UnI (ρ 14) .i64 fun m_14 => K w_1a w_1l w_1c r_5b r_5o p_6b p_6o now_8a now_8l now_8c is_9 i_10 at_11a at_11l at_11c k_13 m_14 m
def l5B (K1 : Option Addr → Nat → Nat → Nat → Nat → Nat → Nat → Option Addr → Nat → Nat → Bool → Int → Mem → Prop) (K4 : Option Addr → Nat → Nat → Nat → Nat → Nat → Nat → Option Addr → Nat → Nat → Bool → Int → Option Addr → Nat → Nat → Int → Mem → Prop) (K5 : Option Addr → Nat → Nat → Nat → Nat → Nat → Nat → Option Addr → Nat → Nat → Bool → Int → Option Addr → Nat → Nat → Int → Int → Mem → Prop) (w_1a : Option Addr) (w_1l : Nat) (w_1c : Nat) (r_5b : Nat) (r_5o : Nat) (p_6b : Nat) (p_6o : Nat) (now_8a : Option Addr) (now_8l : Nat) (now_8c : Nat) (is_9 : Bool) (i_10 : Int) (at_11a : Option Addr) (at_11l : Nat) (at_11c : Nat) (k_13 : Int) (m_14 : Int) (R : Ending → Mem → Prop) (m : Mem) : Prop :=
 LdV m p_6b (p_6o + 2) fun v =>
 UnS v fun x101a x101l x101c =>
 Br (decide (m_14 < ((x101l : Nat) : Int))) (
  Sub m fun r1 =>
  Br is_9 (
   K5 w_1a w_1l w_1c r_5b r_5o p_6b p_6o now_8a now_8l now_8c true i_10 at_11a at_11l at_11c k_13 (IntKind.i64.wrap (m_14 + 1)) m) (
   LdV r1 p_6b (p_6o + 2) fun v =>
   UnS v fun x109a x109l x109c =>
   IxS x109a x109l m_14 1 fun x111b x111o =>
   LdV r1 x111b x111o fun v =>
   UnI v .i64 fun x112 =>
   IxS at_11a at_11l k_13 1 fun x115b x115o =>
   LdV m x115b x115o fun v =>
   UnI v .i64 fun x116 =>
   K5 w_1a w_1l w_1c r_5b r_5o p_6b p_6o now_8a now_8l now_8c (x112 == x116) i_10 at_11a at_11l at_11c k_13 (IntKind.i64.wrap (m_14 + 1)) m)) (
  k6 K1 K4 w_1a w_1l w_1c r_5b r_5o p_6b p_6o now_8a now_8l now_8c is_9 i_10 at_11a at_11l at_11c k_13 R m)
def l5 (K1 : Option Addr → Nat → Nat → Nat → Nat → Nat → Nat → Option Addr → Nat → Nat → Bool → Int → Mem → Prop) (K4 : Option Addr → Nat → Nat → Nat → Nat → Nat → Nat → Option Addr → Nat → Nat → Bool → Int → Option Addr → Nat → Nat → Int → Mem → Prop) (w_1a : Option Addr) (w_1l : Nat) (w_1c : Nat) (r_5b : Nat) (r_5o : Nat) (p_6b : Nat) (p_6o : Nat) (now_8a : Option Addr) (now_8l : Nat) (now_8c : Nat) (is_9 : Bool) (i_10 : Int) (at_11a : Option Addr) (at_11l : Nat) (at_11c : Nat) (k_13 : Int) (m_14 : Int) (R : Ending → Mem → Prop) (m : Mem) : Prop :=
  ∃ (I : Nat → Option Addr → Nat → Nat → Nat → Nat → Nat → Nat → Option Addr → Nat → Nat → Bool → Int → Option Addr → Nat → Nat → Int → Int → Mem → Prop) (N : Nat), I N w_1a w_1l w_1c r_5b r_5o p_6b p_6o now_8a now_8l now_8c is_9 i_10 at_11a at_11l at_11c k_13 m_14 m ∧ ∀ N w_1a w_1l w_1c r_5b r_5o p_6b p_6o now_8a now_8l now_8c is_9 i_10 at_11a at_11l at_11c k_13 m_14 m, I N w_1a w_1l w_1c r_5b r_5o p_6b p_6o now_8a now_8l now_8c is_9 i_10 at_11a at_11l at_11c k_13 m_14 m → l5B K1 K4 (fun w_1a w_1l w_1c r_5b r_5o p_6b p_6o now_8a now_8l now_8c is_9 i_10 at_11a at_11l at_11c k_13 m_14 m => ∃ N1, N1 < N ∧ I N1 w_1a w_1l w_1c r_5b r_5o p_6b p_6o now_8a now_8l now_8c is_9 i_10 at_11a at_11l at_11c k_13 m_14 m) w_1a w_1l w_1c r_5b r_5o p_6b p_6o now_8a now_8l now_8c is_9 i_10 at_11a at_11l at_11c k_13 m_14 R m
noncomputable def l5A (K1 : Option Addr → Nat → Nat → Nat → Nat → Nat → Nat → Option Addr → Nat → Nat → Bool → Int → Mem → Prop) (K4 : Option Addr → Nat → Nat → Nat → Nat → Nat → Nat → Option Addr → Nat → Nat → Bool → Int → Option Addr → Nat → Nat → Int → Mem → Prop) (K5 : Option Addr → Nat → Nat → Nat → Nat → Nat → Nat → Option Addr → Nat → Nat → Bool → Int → Option Addr → Nat → Nat → Int → Int → Mem → Prop) (R : Ending → Mem → Prop) : ACode := (.code (lP (bB (sR (sL (bB (sL (sR (lP (bB (sR (sR (sR (sR (bB (sL (sR (lP (bB (sR (sL (sR (sR (sR (sR (sR (sR (sR (sR (sR (body)))))))))))))))))))))))))))))))
def l4E (K : Option Addr → Nat → Nat → Nat → Nat → Nat → Nat → Option Addr → Nat → Nat → Bool → Int → Option Addr → Nat → Nat → Int → Mem → Prop) : Env → Mem → Prop := fun ρ m => UnS (ρ 1) fun w_1a w_1l w_1c => UnPA (ρ 5) fun r_5b r_5o => UnPA (ρ 6) fun p_6b p_6o => UnS (ρ 8) fun now_8a now_8l now_8c => UnB (ρ 9) fun is_9 => UnI (ρ 10) .i64 fun i_10 => UnS (ρ 11) fun at_11a at_11l at_11c => UnI (ρ 13) .i64 fun k_13 => K w_1a w_1l w_1c r_5b r_5o p_6b p_6o now_8a now_8l now_8c is_9 i_10 at_11a at_11l at_11c k_13 m
def l4B (K1 : Option Addr → Nat → Nat → Nat → Nat → Nat → Nat → Option Addr → Nat → Nat → Bool → Int → Mem → Prop) (K4 : Option Addr → Nat → Nat → Nat → Nat → Nat → Nat → Option Addr → Nat → Nat → Bool → Int → Option Addr → Nat → Nat → Int → Mem → Prop) (w_1a : Option Addr) (w_1l : Nat) (w_1c : Nat) (r_5b : Nat) (r_5o : Nat) (p_6b : Nat) (p_6o : Nat) (now_8a : Option Addr) (now_8l : Nat) (now_8c : Nat) (is_9 : Bool) (i_10 : Int) (at_11a : Option Addr) (at_11l : Nat) (at_11c : Nat) (k_13 : Int) (R : Ending → Mem → Prop) (m : Mem) : Prop :=
 Br (decide (k_13 < ((at_11l : Nat) : Int))) (
  l5 K1 K4 w_1a w_1l w_1c r_5b r_5o p_6b p_6o now_8a now_8l now_8c is_9 i_10 at_11a at_11l at_11c k_13 0 R m) (
  K1 w_1a w_1l w_1c r_5b r_5o p_6b p_6o now_8a now_8l now_8c is_9 (IntKind.i64.wrap (i_10 + 1)) m)
def l4 (K1 : Option Addr → Nat → Nat → Nat → Nat → Nat → Nat → Option Addr → Nat → Nat → Bool → Int → Mem → Prop) (w_1a : Option Addr) (w_1l : Nat) (w_1c : Nat) (r_5b : Nat) (r_5o : Nat) (p_6b : Nat) (p_6o : Nat) (now_8a : Option Addr) (now_8l : Nat) (now_8c : Nat) (is_9 : Bool) (i_10 : Int) (at_11a : Option Addr) (at_11l : Nat) (at_11c : Nat) (k_13 : Int) (R : Ending → Mem → Prop) (m : Mem) : Prop :=
  ∃ (I : Nat → Option Addr → Nat → Nat → Nat → Nat → Nat → Nat → Option Addr → Nat → Nat → Bool → Int → Option Addr → Nat → Nat → Int → Mem → Prop) (N : Nat), I N w_1a w_1l w_1c r_5b r_5o p_6b p_6o now_8a now_8l now_8c is_9 i_10 at_11a at_11l at_11c k_13 m ∧ ∀ N w_1a w_1l w_1c r_5b r_5o p_6b p_6o now_8a now_8l now_8c is_9 i_10 at_11a at_11l at_11c k_13 m, I N w_1a w_1l w_1c r_5b r_5o p_6b p_6o now_8a now_8l now_8c is_9 i_10 at_11a at_11l at_11c k_13 m → l4B K1 (fun w_1a w_1l w_1c r_5b r_5o p_6b p_6o now_8a now_8l now_8c is_9 i_10 at_11a at_11l at_11c k_13 m => ∃ N1, N1 < N ∧ I N1 w_1a w_1l w_1c r_5b r_5o p_6b p_6o now_8a now_8l now_8c is_9 i_10 at_11a at_11l at_11c k_13 m) w_1a w_1l w_1c r_5b r_5o p_6b p_6o now_8a now_8l now_8c is_9 i_10 at_11a at_11l at_11c k_13 R m
noncomputable def l4A (K1 : Option Addr → Nat → Nat → Nat → Nat → Nat → Nat → Option Addr → Nat → Nat → Bool → Int → Mem → Prop) (K4 : Option Addr → Nat → Nat → Nat → Nat → Nat → Nat → Option Addr → Nat → Nat → Bool → Int → Option Addr → Nat → Nat → Int → Mem → Prop) (R : Ending → Mem → Prop) : ACode := (.seq (.code (sL (lP (bB (sR (sR (sR (sR (bB (sL (sR (lP (bB (sR (sL (sR (sR (sR (sR (sR (sR (sR (sR (sR (body))))))))))))))))))))))))) (.seq (.block 5 (.seq (.seq (.code (sL (sL (bB (sL (sR (lP (bB (sR (sR (sR (sR (bB (sL (sR (lP (bB (sR (sL (sR (sR (sR (sR (sR (sR (sR (sR (sR (body))))))))))))))))))))))))))))) (.block 6 (.cut (l5E fun w_1a w_1l w_1c r_5b r_5o p_6b p_6o now_8a now_8l now_8c is_9 i_10 at_11a at_11l at_11c k_13 m_14 m => l5 K1 K4 w_1a w_1l w_1c r_5b r_5o p_6b p_6o now_8a now_8l now_8c is_9 i_10 at_11a at_11l at_11c k_13 m_14 R m) (.loop (lP (bB (sR (sL (bB (sL (sR (lP (bB (sR (sR (sR (sR (bB (sL (sR (lP (bB (sR (sL (sR (sR (sR (sR (sR (sR (sR (sR (sR (body)))))))))))))))))))))))))))))))))) (.cut (k6E fun w_1a w_1l w_1c r_5b r_5o p_6b p_6o now_8a now_8l now_8c is_9 i_10 at_11a at_11l at_11c k_13 m => k6 K1 K4 w_1a w_1l w_1c r_5b r_5o p_6b p_6o now_8a now_8l now_8c is_9 i_10 at_11a at_11l at_11c k_13 R m) (sR (bB (sL (sR (lP (bB (sR (sR (sR (sR (bB (sL (sR (lP (bB (sR (sL (sR (sR (sR (sR (sR (sR (sR (sR (sR (body)))))))))))))))))))))))))))))) (.code (sR (sR (lP (bB (sR (sR (sR (sR (bB (sL (sR (lP (bB (sR (sL (sR (sR (sR (sR (sR (sR (sR (sR (sR (body))))))))))))))))))))))))))))
def k3E (K : Option Addr → Nat → Nat → Nat → Nat → Nat → Nat → Int → Option Addr → Nat → Nat → Mem → Prop) : Env → Mem → Prop := fun ρ m => UnS (ρ 1) fun w_1a w_1l w_1c => UnPA (ρ 5) fun r_5b r_5o => UnPA (ρ 6) fun p_6b p_6o => UnI (ρ 10) .i64 fun i_10 => UnS (ρ 11) fun at_11a at_11l at_11c => K w_1a w_1l w_1c r_5b r_5o p_6b p_6o i_10 at_11a at_11l at_11c m
def k3 (K1 : Option Addr → Nat → Nat → Nat → Nat → Nat → Nat → Option Addr → Nat → Nat → Bool → Int → Mem → Prop) (w_1a : Option Addr) (w_1l : Nat) (w_1c : Nat) (r_5b : Nat) (r_5o : Nat) (p_6b : Nat) (p_6o : Nat) (i_10 : Int) (at_11a : Option Addr) (at_11l : Nat) (at_11c : Nat) (R : Ending → Mem → Prop) (m : Mem) : Prop :=
 l4 K1 w_1a w_1l w_1c r_5b r_5o p_6b p_6o none 0 0 false i_10 at_11a at_11l at_11c 0 R m
noncomputable def k3A (K1 : Option Addr → Nat → Nat → Nat → Nat → Nat → Nat → Option Addr → Nat → Nat → Bool → Int → Mem → Prop) (R : Ending → Mem → Prop) : ACode := (.seq (.code (sL (sR (sR (bB (sL (sR (lP (bB (sR (sL (sR (sR (sR (sR (sR (sR (sR (sR (sR (body))))))))))))))))))))) (.seq (.code (sL (sR (sR (sR (bB (sL (sR (lP (bB (sR (sL (sR (sR (sR (sR (sR (sR (sR (sR (sR (body)))))))))))))))))))))) (.block 4 (.cut (l4E fun w_1a w_1l w_1c r_5b r_5o p_6b p_6o now_8a now_8l now_8c is_9 i_10 at_11a at_11l at_11c k_13 m => l4 K1 w_1a w_1l w_1c r_5b r_5o p_6b p_6o now_8a now_8l now_8c is_9 i_10 at_11a at_11l at_11c k_13 R m) (.loop (lP (bB (sR (sR (sR (sR (bB (sL (sR (lP (bB (sR (sL (sR (sR (sR (sR (sR (sR (sR (sR (sR (body))))))))))))))))))))))))))))
def l2E (K : Option Addr → Nat → Nat → Nat → Nat → Nat → Nat → Option Addr → Nat → Nat → Int → Option Addr → Nat → Nat → Int → Mem → Prop) : Env → Mem → Prop := fun ρ m => UnS (ρ 1) fun w_1a w_1l w_1c => UnPA (ρ 5) fun r_5b r_5o => UnPA (ρ 6) fun p_6b p_6o => UnS (ρ 8) fun now_8a now_8l now_8c => UnI (ρ 10) .i64 fun i_10 => UnS (ρ 11) fun at_11a at_11l at_11c => UnI (ρ 12) .i64 fun k_12 => K w_1a w_1l w_1c r_5b r_5o p_6b p_6o now_8a now_8l now_8c i_10 at_11a at_11l at_11c k_12 m
def l2B (K1 : Option Addr → Nat → Nat → Nat → Nat → Nat → Nat → Option Addr → Nat → Nat → Bool → Int → Mem → Prop) (K2 : Option Addr → Nat → Nat → Nat → Nat → Nat → Nat → Option Addr → Nat → Nat → Int → Option Addr → Nat → Nat → Int → Mem → Prop) (w_1a : Option Addr) (w_1l : Nat) (w_1c : Nat) (r_5b : Nat) (r_5o : Nat) (p_6b : Nat) (p_6o : Nat) (now_8a : Option Addr) (now_8l : Nat) (now_8c : Nat) (i_10 : Int) (at_11a : Option Addr) (at_11l : Nat) (at_11c : Nat) (k_12 : Int) (R : Ending → Mem → Prop) (m : Mem) : Prop :=
 Br (decide (k_12 < ((now_8l : Nat) : Int))) (
  Sub m fun r1 =>
  IxS now_8a now_8l k_12 1 fun x60b x60o =>
  LdV m x60b x60o fun v =>
  UnI v .i64 fun x61 =>
  Br (decide (x61 < 0)) (
   R (.returned (.bool false)) m) (
   IxS now_8a now_8l k_12 1 fun x66b x66o =>
   LdV r1 x66b x66o fun v =>
   UnI v .i64 fun x67 =>
   LdV m p_6b p_6o fun v =>
   UnS v fun x69a x69l x69c =>
   Br (decide (x67 ≥ ((x69l : Nat) : Int))) (
    R (.returned (.bool false)) m) (
    Sub m fun r2 =>
    LdV r2 p_6b p_6o fun v =>
    UnS v fun x74a x74l x74c =>
    IxS now_8a now_8l k_12 1 fun x77b x77o =>
    LdV r2 x77b x77o fun v =>
    UnI v .i64 fun x78 =>
    IxS x74a x74l x78 4 fun x79b x79o =>
    LdV r2 x79b x79o fun v =>
    UnI v .u64 fun x80_0 =>
    LdV r2 x79b (x79o + 1) fun v =>
    UnI v .u64 fun x80_1 =>
    LdV r2 x79b (x79o + 2) fun v =>
    UnI v .u64 fun x80_2 =>
    LdV r2 x79b (x79o + 3) fun v =>
    UnI v .u64 fun x80_3 =>
    IxS w_1a w_1l i_10 1 fun x83b x83o =>
    LdV m x83b x83o fun v =>
    UnI v .u8 fun x84 =>
    HC P eyotref8_Has.id #[.agg #[.int .u64 x80_0, .int .u64 x80_1, .int .u64 x80_2, .int .u64 x80_3], .int .u8 x84] m (Cont (fun v m3 =>
      UnB v fun x85 =>
      Br x85 (
       IxS now_8a now_8l k_12 1 fun x89b x89o =>
       LdV m3 x89b x89o fun v =>
       UnI v .i64 fun x90 =>
       NewC m3 #[.int .i64 x90] T_int fun b91 m4 =>
       BiN P .append #[T_sl_int, T_sl_int] T_sl_int #[false, false] #[.slice at_11a at_11l at_11c, .slice (some ⟨b91, 0, none⟩) 1 1] m4 (fun w m5 =>
        UnS w fun x92a x92l x92c =>
        K2 w_1a w_1l w_1c r_5b r_5o p_6b p_6o now_8a now_8l now_8c i_10 x92a x92l x92c (IntKind.i64.wrap (k_12 + 1)) m5) (panicR R)) (
       K2 w_1a w_1l w_1c r_5b r_5o p_6b p_6o now_8a now_8l now_8c i_10 at_11a at_11l at_11c (IntKind.i64.wrap (k_12 + 1)) m3)) (panicR R))))) (
  k3 K1 w_1a w_1l w_1c r_5b r_5o p_6b p_6o i_10 at_11a at_11l at_11c R m)
def l2 (K1 : Option Addr → Nat → Nat → Nat → Nat → Nat → Nat → Option Addr → Nat → Nat → Bool → Int → Mem → Prop) (w_1a : Option Addr) (w_1l : Nat) (w_1c : Nat) (r_5b : Nat) (r_5o : Nat) (p_6b : Nat) (p_6o : Nat) (now_8a : Option Addr) (now_8l : Nat) (now_8c : Nat) (i_10 : Int) (at_11a : Option Addr) (at_11l : Nat) (at_11c : Nat) (k_12 : Int) (R : Ending → Mem → Prop) (m : Mem) : Prop :=
  ∃ (I : Nat → Option Addr → Nat → Nat → Nat → Nat → Nat → Nat → Option Addr → Nat → Nat → Int → Option Addr → Nat → Nat → Int → Mem → Prop) (N : Nat), I N w_1a w_1l w_1c r_5b r_5o p_6b p_6o now_8a now_8l now_8c i_10 at_11a at_11l at_11c k_12 m ∧ ∀ N w_1a w_1l w_1c r_5b r_5o p_6b p_6o now_8a now_8l now_8c i_10 at_11a at_11l at_11c k_12 m, I N w_1a w_1l w_1c r_5b r_5o p_6b p_6o now_8a now_8l now_8c i_10 at_11a at_11l at_11c k_12 m → l2B K1 (fun w_1a w_1l w_1c r_5b r_5o p_6b p_6o now_8a now_8l now_8c i_10 at_11a at_11l at_11c k_12 m => ∃ N1, N1 < N ∧ I N1 w_1a w_1l w_1c r_5b r_5o p_6b p_6o now_8a now_8l now_8c i_10 at_11a at_11l at_11c k_12 m) w_1a w_1l w_1c r_5b r_5o p_6b p_6o now_8a now_8l now_8c i_10 at_11a at_11l at_11c k_12 R m
noncomputable def l2A (K1 : Option Addr → Nat → Nat → Nat → Nat → Nat → Nat → Option Addr → Nat → Nat → Bool → Int → Mem → Prop) (K2 : Option Addr → Nat → Nat → Nat → Nat → Nat → Nat → Option Addr → Nat → Nat → Int → Option Addr → Nat → Nat → Int → Mem → Prop) (R : Ending → Mem → Prop) : ACode := (.code (lP (bB (sR (sL (sR (bB (sL (sR (lP (bB (sR (sL (sR (sR (sR (sR (sR (sR (sR (sR (sR (body)))))))))))))))))))))))
def k7E (K : Option Addr → Nat → Nat → Nat → Nat → Bool → Mem → Prop) : Env → Mem → Prop := fun ρ m => UnS (ρ 1) fun w_1a w_1l w_1c => UnPA (ρ 5) fun r_5b r_5o => UnB (ρ 9) fun is_9 => K w_1a w_1l w_1c r_5b r_5o is_9 m
def k7  (w_1a : Option Addr) (w_1l : Nat) (w_1c : Nat) (r_5b : Nat) (r_5o : Nat) (is_9 : Bool) (R : Ending → Mem → Prop) (m : Mem) : Prop :=
 LdV m r_5b r_5o fun v =>
 UnI v .i64 fun x130_0 =>
 LdV m r_5b (r_5o + 1) fun v =>
 UnI v .u64 fun x130_1 =>
 LdV m r_5b (r_5o + 2) fun v =>
 UnI v .u64 fun x130_2 =>
 LdV m r_5b (r_5o + 3) fun v =>
 UnI v .u64 fun x130_3 =>
 LdV m r_5b (r_5o + 4) fun v =>
 UnI v .u64 fun x130_4 =>
 LdV m r_5b (r_5o + 5) fun v =>
 UnS v fun x130_5a x130_5l x130_5c =>
 HC P eyotref8_In.id #[.agg #[.int .i64 x130_0, .int .u64 x130_1, .int .u64 x130_2, .int .u64 x130_3, .int .u64 x130_4, .slice x130_5a x130_5l x130_5c], .slice w_1a w_1l w_1c] m (Cont (fun v m1 =>
   UnB v fun x132 =>
   R (.returned (.bool (is_9 == x132))) m1) (panicR R))
noncomputable def k7A  (R : Ending → Mem → Prop) : ACode := (.code (sR (sR (sR (sR (sR (sR (sR (sR (sR (sR (body))))))))))))
def l1E (K : Option Addr → Nat → Nat → Nat → Nat → Nat → Nat → Option Addr → Nat → Nat → Bool → Int → Mem → Prop) : Env → Mem → Prop := fun ρ m => UnS (ρ 1) fun w_1a w_1l w_1c => UnPA (ρ 5) fun r_5b r_5o => UnPA (ρ 6) fun p_6b p_6o => UnS (ρ 8) fun now_8a now_8l now_8c => UnB (ρ 9) fun is_9 => UnI (ρ 10) .i64 fun i_10 => K w_1a w_1l w_1c r_5b r_5o p_6b p_6o now_8a now_8l now_8c is_9 i_10 m
def l1B  (K1 : Option Addr → Nat → Nat → Nat → Nat → Nat → Nat → Option Addr → Nat → Nat → Bool → Int → Mem → Prop) (w_1a : Option Addr) (w_1l : Nat) (w_1c : Nat) (r_5b : Nat) (r_5o : Nat) (p_6b : Nat) (p_6o : Nat) (now_8a : Option Addr) (now_8l : Nat) (now_8c : Nat) (is_9 : Bool) (i_10 : Int) (R : Ending → Mem → Prop) (m : Mem) : Prop :=
 Br (decide (i_10 < ((w_1l : Nat) : Int))) (
  l2 K1 w_1a w_1l w_1c r_5b r_5o p_6b p_6o now_8a now_8l now_8c i_10 none 0 0 0 R m) (
  k7  w_1a w_1l w_1c r_5b r_5o is_9 R m)
def l1  (w_1a : Option Addr) (w_1l : Nat) (w_1c : Nat) (r_5b : Nat) (r_5o : Nat) (p_6b : Nat) (p_6o : Nat) (now_8a : Option Addr) (now_8l : Nat) (now_8c : Nat) (is_9 : Bool) (i_10 : Int) (R : Ending → Mem → Prop) (m : Mem) : Prop :=
  ∃ (I : Nat → Option Addr → Nat → Nat → Nat → Nat → Nat → Nat → Option Addr → Nat → Nat → Bool → Int → Mem → Prop) (N : Nat), I N w_1a w_1l w_1c r_5b r_5o p_6b p_6o now_8a now_8l now_8c is_9 i_10 m ∧ ∀ N w_1a w_1l w_1c r_5b r_5o p_6b p_6o now_8a now_8l now_8c is_9 i_10 m, I N w_1a w_1l w_1c r_5b r_5o p_6b p_6o now_8a now_8l now_8c is_9 i_10 m → l1B  (fun w_1a w_1l w_1c r_5b r_5o p_6b p_6o now_8a now_8l now_8c is_9 i_10 m => ∃ N1, N1 < N ∧ I N1 w_1a w_1l w_1c r_5b r_5o p_6b p_6o now_8a now_8l now_8c is_9 i_10 m) w_1a w_1l w_1c r_5b r_5o p_6b p_6o now_8a now_8l now_8c is_9 i_10 R m
noncomputable def l1A  (K1 : Option Addr → Nat → Nat → Nat → Nat → Nat → Nat → Option Addr → Nat → Nat → Bool → Int → Mem → Prop) (R : Ending → Mem → Prop) : ACode := (.seq (.code (sL (lP (bB (sR (sL (sR (sR (sR (sR (sR (sR (sR (sR (sR (body)))))))))))))))) (.seq (.block 1 (.seq (.code (sL (bB (sL (sR (lP (bB (sR (sL (sR (sR (sR (sR (sR (sR (sR (sR (sR (body))))))))))))))))))) (.seq (.seq (.code (sL (sL (sR (bB (sL (sR (lP (bB (sR (sL (sR (sR (sR (sR (sR (sR (sR (sR (sR (body))))))))))))))))))))) (.block 2 (.cut (l2E fun w_1a w_1l w_1c r_5b r_5o p_6b p_6o now_8a now_8l now_8c i_10 at_11a at_11l at_11c k_12 m => l2 K1 w_1a w_1l w_1c r_5b r_5o p_6b p_6o now_8a now_8l now_8c i_10 at_11a at_11l at_11c k_12 R m) (.loop (lP (bB (sR (sL (sR (bB (sL (sR (lP (bB (sR (sL (sR (sR (sR (sR (sR (sR (sR (sR (sR (body)))))))))))))))))))))))))) (.cut (k3E fun w_1a w_1l w_1c r_5b r_5o p_6b p_6o i_10 at_11a at_11l at_11c m => k3 K1 w_1a w_1l w_1c r_5b r_5o p_6b p_6o i_10 at_11a at_11l at_11c R m) (sR (sR (bB (sL (sR (lP (bB (sR (sL (sR (sR (sR (sR (sR (sR (sR (sR (sR (body))))))))))))))))))))))) (.code (sR (sR (lP (bB (sR (sL (sR (sR (sR (sR (sR (sR (sR (sR (sR (body)))))))))))))))))))
def e0 (picks_0a : Option Addr) (picks_0l : Nat) (picks_0c : Nat) (w_1a : Option Addr) (w_1l : Nat) (w_1c : Nat) (R : Ending → Mem → Prop) (m : Mem) : Prop :=
 HC P eyotlaw10_begun.id #[] m (Cont (fun v m1 =>
   UnB v fun x15 =>
   Br (!x15) (
    R (.returned (.bool false)) m1) (
    Br (decide (((picks_0l : Nat) : Int) > 30)) (
     R (.returned (.bool true)) m1) (
     Br (decide (((w_1l : Nat) : Int) > 10)) (
      R (.returned (.bool true)) m1) (
      HC P eyotplay_Made.id #[.slice picks_0a picks_0l picks_0c] m1 (Cont (fun v m2 =>
        UnP v fun x26 =>
        HC P eyotplay_Picks_Rx.id #[.pointer x26, .int .i64 3] m2 (Cont (fun v m3 =>
        UnAgg v fun l =>
        UnCons l fun v l =>
        UnI v .i64 fun x27_0 =>
        UnCons l fun v l =>
        UnI v .u64 fun x27_1 =>
        UnCons l fun v l =>
        UnI v .u64 fun x27_2 =>
        UnCons l fun v l =>
        UnI v .u64 fun x27_3 =>
        UnCons l fun v l =>
        UnI v .u64 fun x27_4 =>
        UnCons l fun v l =>
        UnS v fun x27_5a x27_5l x27_5c =>
        UnNil l (
        NewC m3 #[.int .i64 0, .int .u64 0, .int .u64 0, .int .u64 0, .int .u64 0, .slice none 0 0] T_api_Rx fun b_r_5 m4 =>
        St1 m4 b_r_5 0 (.int .i64 x27_0) fun m5 =>
        St1 m5 b_r_5 1 (.int .u64 x27_1) fun m6 =>
        St1 m6 b_r_5 2 (.int .u64 x27_2) fun m7 =>
        St1 m7 b_r_5 3 (.int .u64 x27_3) fun m8 =>
        St1 m8 b_r_5 4 (.int .u64 x27_4) fun m9 =>
        St1 m9 b_r_5 5 (.slice x27_5a x27_5l x27_5c) fun m10 =>
        LdV m10 b_r_5 0 fun v =>
        UnI v .i64 fun x29_0 =>
        LdV m10 b_r_5 1 fun v =>
        UnI v .u64 fun x29_1 =>
        LdV m10 b_r_5 2 fun v =>
        UnI v .u64 fun x29_2 =>
        LdV m10 b_r_5 3 fun v =>
        UnI v .u64 fun x29_3 =>
        LdV m10 b_r_5 4 fun v =>
        UnI v .u64 fun x29_4 =>
        LdV m10 b_r_5 5 fun v =>
        UnS v fun x29_5a x29_5l x29_5c =>
        HC P place_Of.id #[.agg #[.int .i64 x29_0, .int .u64 x29_1, .int .u64 x29_2, .int .u64 x29_3, .int .u64 x29_4, .slice x29_5a x29_5l x29_5c]] m10 (Cont (fun v m11 =>
        UnTup v fun us0 =>
        UnCons us0 fun w us1 =>
        UnAgg w fun l =>
        UnCons l fun v l =>
        UnS v fun x30_0_0a x30_0_0l x30_0_0c =>
        UnCons l fun v l =>
        UnS v fun x30_0_1a x30_0_1l x30_0_1c =>
        UnCons l fun v l =>
        UnS v fun x30_0_2a x30_0_2l x30_0_2c =>
        UnCons l fun v l =>
        UnS v fun x30_0_3a x30_0_3l x30_0_3c =>
        UnCons l fun v l =>
        UnB v fun x30_0_4 =>
        UnNil l (
        UnCons us1 fun w us2 =>
        UnI w .i64 fun x30_1 =>
        UnNil us2 (
        NewC m11 #[.slice none 0 0, .slice none 0 0, .slice none 0 0, .slice none 0 0, .bool false] T_place_Places fun b_p_6 m12 =>
        St1 m12 b_p_6 0 (.slice x30_0_0a x30_0_0l x30_0_0c) fun m13 =>
        St1 m13 b_p_6 1 (.slice x30_0_1a x30_0_1l x30_0_1c) fun m14 =>
        St1 m14 b_p_6 2 (.slice x30_0_2a x30_0_2l x30_0_2c) fun m15 =>
        St1 m15 b_p_6 3 (.slice x30_0_3a x30_0_3l x30_0_3c) fun m16 =>
        St1 m16 b_p_6 4 (.bool x30_0_4) fun m17 =>
        Br (x30_1 != 0) (
        R (.returned (.bool true)) m17) (
        LdV m17 b_p_6 3 fun v =>
        UnS v fun x36a x36l x36c =>
        LdV m17 b_p_6 0 fun v =>
        UnS v fun x39a x39l x39c =>
        Br (((x36l : Nat) : Int) != ((x39l : Nat) : Int)) (
        R (.returned (.bool false)) m17) (
        LdV m17 b_p_6 1 fun v =>
        UnS v fun x43a x43l x43c =>
        LdV m17 b_p_6 4 fun v =>
        UnB v fun x45 =>
        l1  w_1a w_1l w_1c b_r_5 0 b_p_6 0 x43a x43l x43c x45 0 R m17))))) (panicR R)))) (panicR R))) (panicR R)))))) (panicR R))
noncomputable def e0A (R : Ending → Mem → Prop) : ACode := (.seq (.code (sL (body))) (.seq (.code (sL (sR (body)))) (.seq (.code (sL (sR (sR (body))))) (.seq (.code (sL (sR (sR (sR (body)))))) (.seq (.code (sL (sR (sR (sR (sR (body))))))) (.seq (.code (sL (sR (sR (sR (sR (sR (body)))))))) (.seq (.code (sL (sR (sR (sR (sR (sR (sR (body))))))))) (.seq (.code (sL (sR (sR (sR (sR (sR (sR (sR (body)))))))))) (.seq (.code (sL (sR (sR (sR (sR (sR (sR (sR (sR (body))))))))))) (.seq (.seq (.code (sL (sL (sR (sR (sR (sR (sR (sR (sR (sR (sR (body))))))))))))) (.block 0 (.cut (l1E fun w_1a w_1l w_1c r_5b r_5o p_6b p_6o now_8a now_8l now_8c is_9 i_10 m => l1  w_1a w_1l w_1c r_5b r_5o p_6b p_6o now_8a now_8l now_8c is_9 i_10 R m) (.loop (lP (bB (sR (sL (sR (sR (sR (sR (sR (sR (sR (sR (sR (body)))))))))))))))))) (.cut (k7E fun w_1a w_1l w_1c r_5b r_5o is_9 m => k7  w_1a w_1l w_1c r_5b r_5o is_9 R m) (sR (sR (sR (sR (sR (sR (sR (sR (sR (sR (body))))))))))))))))))))))
abbrev k7Q  (R : Ending → Mem → Prop) : Exit → Env → Mem → Prop := (bodyQ P fn R)
abbrev l1Q  (R : Ending → Mem → Prop) : Exit → Env → Mem → Prop := (blockQ 0 (thenQ (acpt P od (panicR R) (.cut (k7E fun w_1a w_1l w_1c r_5b r_5o is_9 m => k7  w_1a w_1l w_1c r_5b r_5o is_9 R m) (sR (sR (sR (sR (sR (sR (sR (sR (sR (sR (body)))))))))))) (bodyQ P fn R)) (bodyQ P fn R)))
abbrev k3Q (K1 : Option Addr → Nat → Nat → Nat → Nat → Nat → Nat → Option Addr → Nat → Nat → Bool → Int → Mem → Prop) (R : Ending → Mem → Prop) : Exit → Env → Mem → Prop := (blockQ 1 (thenQ (acpt P od (panicR R) (.code (sR (sR (lP (bB (sR (sL (sR (sR (sR (sR (sR (sR (sR (sR (sR (body))))))))))))))))) (thenQ (l1E K1) (l1Q  R))) (thenQ (l1E K1) (l1Q  R))))
abbrev l2Q (K1 : Option Addr → Nat → Nat → Nat → Nat → Nat → Nat → Option Addr → Nat → Nat → Bool → Int → Mem → Prop) (R : Ending → Mem → Prop) : Exit → Env → Mem → Prop := (blockQ 2 (thenQ (acpt P od (panicR R) (.cut (k3E fun w_1a w_1l w_1c r_5b r_5o p_6b p_6o i_10 at_11a at_11l at_11c m => k3 K1 w_1a w_1l w_1c r_5b r_5o p_6b p_6o i_10 at_11a at_11l at_11c R m) (sR (sR (bB (sL (sR (lP (bB (sR (sL (sR (sR (sR (sR (sR (sR (sR (sR (sR (body)))))))))))))))))))) (blockQ 1 (thenQ (acpt P od (panicR R) (.code (sR (sR (lP (bB (sR (sL (sR (sR (sR (sR (sR (sR (sR (sR (sR (body))))))))))))))))) (thenQ (l1E K1) (l1Q  R))) (thenQ (l1E K1) (l1Q  R))))) (blockQ 1 (thenQ (acpt P od (panicR R) (.code (sR (sR (lP (bB (sR (sL (sR (sR (sR (sR (sR (sR (sR (sR (sR (body))))))))))))))))) (thenQ (l1E K1) (l1Q  R))) (thenQ (l1E K1) (l1Q  R))))))
abbrev l4Q (K1 : Option Addr → Nat → Nat → Nat → Nat → Nat → Nat → Option Addr → Nat → Nat → Bool → Int → Mem → Prop) (R : Ending → Mem → Prop) : Exit → Env → Mem → Prop := (blockQ 4 (k3Q K1 R))
abbrev k6Q (K1 : Option Addr → Nat → Nat → Nat → Nat → Nat → Nat → Option Addr → Nat → Nat → Bool → Int → Mem → Prop) (K4 : Option Addr → Nat → Nat → Nat → Nat → Nat → Nat → Option Addr → Nat → Nat → Bool → Int → Option Addr → Nat → Nat → Int → Mem → Prop) (R : Ending → Mem → Prop) : Exit → Env → Mem → Prop := (blockQ 5 (thenQ (acpt P od (panicR R) (.code (sR (sR (lP (bB (sR (sR (sR (sR (bB (sL (sR (lP (bB (sR (sL (sR (sR (sR (sR (sR (sR (sR (sR (sR (body)))))))))))))))))))))))))) (thenQ (l4E K4) (l4Q K1 R))) (thenQ (l4E K4) (l4Q K1 R))))
abbrev l5Q (K1 : Option Addr → Nat → Nat → Nat → Nat → Nat → Nat → Option Addr → Nat → Nat → Bool → Int → Mem → Prop) (K4 : Option Addr → Nat → Nat → Nat → Nat → Nat → Nat → Option Addr → Nat → Nat → Bool → Int → Option Addr → Nat → Nat → Int → Mem → Prop) (R : Ending → Mem → Prop) : Exit → Env → Mem → Prop := (blockQ 6 (thenQ (acpt P od (panicR R) (.cut (k6E fun w_1a w_1l w_1c r_5b r_5o p_6b p_6o now_8a now_8l now_8c is_9 i_10 at_11a at_11l at_11c k_13 m => k6 K1 K4 w_1a w_1l w_1c r_5b r_5o p_6b p_6o now_8a now_8l now_8c is_9 i_10 at_11a at_11l at_11c k_13 R m) (sR (bB (sL (sR (lP (bB (sR (sR (sR (sR (bB (sL (sR (lP (bB (sR (sL (sR (sR (sR (sR (sR (sR (sR (sR (sR (body)))))))))))))))))))))))))))) (blockQ 5 (thenQ (acpt P od (panicR R) (.code (sR (sR (lP (bB (sR (sR (sR (sR (bB (sL (sR (lP (bB (sR (sL (sR (sR (sR (sR (sR (sR (sR (sR (sR (body)))))))))))))))))))))))))) (thenQ (l4E K4) (l4Q K1 R))) (thenQ (l4E K4) (l4Q K1 R))))) (blockQ 5 (thenQ (acpt P od (panicR R) (.code (sR (sR (lP (bB (sR (sR (sR (sR (bB (sL (sR (lP (bB (sR (sL (sR (sR (sR (sR (sR (sR (sR (sR (sR (body)))))))))))))))))))))))))) (thenQ (l4E K4) (l4Q K1 R))) (thenQ (l4E K4) (l4Q K1 R))))))
theorem k6_eq (K1 : Option Addr → Nat → Nat → Nat → Nat → Nat → Nat → Option Addr → Nat → Nat → Bool → Int → Mem → Prop) (K4 : Option Addr → Nat → Nat → Nat → Nat → Nat → Nat → Option Addr → Nat → Nat → Bool → Int → Option Addr → Nat → Nat → Int → Mem → Prop) (R : Ending → Mem → Prop) (w_1a : Option Addr) (w_1l : Nat) (w_1c : Nat) (r_5b : Nat) (r_5o : Nat) (p_6b : Nat) (p_6o : Nat) (now_8a : Option Addr) (now_8l : Nat) (now_8c : Nat) (is_9 : Bool) (i_10 : Int) (at_11a : Option Addr) (at_11l : Nat) (at_11c : Nat) (k_13 : Int) (ρ : Env) (m : Mem) : k6 K1 K4 w_1a w_1l w_1c r_5b r_5o p_6b p_6o now_8a now_8l now_8c is_9 i_10 at_11a at_11l at_11c k_13 R m = acpt P od (panicR R) (k6A K1 K4 R) (k6Q K1 K4 R) (upd (upd (upd (upd (upd (upd (upd (upd ρ 13 (.int .i64 k_13)) 11 (.slice at_11a at_11l at_11c)) 10 (.int .i64 i_10)) 9 (.bool is_9)) 8 (.slice now_8a now_8l now_8c)) 6 (.pointer (some ⟨p_6b, p_6o, none⟩))) 5 (.pointer (some ⟨r_5b, r_5o, none⟩))) 1 (.slice w_1a w_1l w_1c)) m := by kernel_rfl
theorem k6_er (K1 : Option Addr → Nat → Nat → Nat → Nat → Nat → Nat → Option Addr → Nat → Nat → Bool → Int → Mem → Prop) (K4 : Option Addr → Nat → Nat → Nat → Nat → Nat → Nat → Option Addr → Nat → Nat → Bool → Int → Option Addr → Nat → Nat → Int → Mem → Prop) (R : Ending → Mem → Prop) : (k6A K1 K4 R).erase = sR (bB (sL (sR (lP (bB (sR (sR (sR (sR (bB (sL (sR (lP (bB (sR (sL (sR (sR (sR (sR (sR (sR (sR (sR (sR (body)))))))))))))))))))))))))) := by kernel_rfl
theorem k6_ok (K1 : Option Addr → Nat → Nat → Nat → Nat → Nat → Nat → Option Addr → Nat → Nat → Bool → Int → Mem → Prop) (K4 : Option Addr → Nat → Nat → Nat → Nat → Nat → Nat → Option Addr → Nat → Nat → Bool → Int → Option Addr → Nat → Nat → Int → Mem → Prop) (R : Ending → Mem → Prop) (ρ : Env) (m : Mem) (h : (k6E fun w_1a w_1l w_1c r_5b r_5o p_6b p_6o now_8a now_8l now_8c is_9 i_10 at_11a at_11l at_11c k_13 m => k6 K1 K4 w_1a w_1l w_1c r_5b r_5o p_6b p_6o now_8a now_8l now_8c is_9 i_10 at_11a at_11l at_11c k_13 R m) ρ m) : cpt P od (panicR R) (sR (bB (sL (sR (lP (bB (sR (sR (sR (sR (bB (sL (sR (lP (bB (sR (sL (sR (sR (sR (sR (sR (sR (sR (sR (sR (body))))))))))))))))))))))))))) (k6Q K1 K4 R) ρ m := by
  unfold k6E at h
  obtain ⟨w_1a, w_1l, w_1c, e1, h⟩ := h.ex
  obtain ⟨r_5b, r_5o, e5, h⟩ := h.ex
  obtain ⟨p_6b, p_6o, e6, h⟩ := h.ex
  obtain ⟨now_8a, now_8l, now_8c, e8, h⟩ := h.ex
  obtain ⟨is_9, e9, h⟩ := h.ex
  obtain ⟨i_10, e10, h⟩ := h.ex
  obtain ⟨at_11a, at_11l, at_11c, e11, h⟩ := h.ex
  obtain ⟨k_13, e13, h⟩ := h.ex
  rw [← upd_self e1, ← upd_self e5, ← upd_self e6, ← upd_self e8, ← upd_self e9, ← upd_self e10, ← upd_self e11, ← upd_self e13]
  rw [← k6_er K1 K4 R]
  refine acpt_sound (P := P) (k6A K1 K4 R) _ _ _ True.intro ?_
  exact Eq.mp (k6_eq K1 K4 R w_1a w_1l w_1c r_5b r_5o p_6b p_6o now_8a now_8l now_8c is_9 i_10 at_11a at_11l at_11c k_13 ρ m) h
theorem l5_eq (K1 : Option Addr → Nat → Nat → Nat → Nat → Nat → Nat → Option Addr → Nat → Nat → Bool → Int → Mem → Prop) (K4 : Option Addr → Nat → Nat → Nat → Nat → Nat → Nat → Option Addr → Nat → Nat → Bool → Int → Option Addr → Nat → Nat → Int → Mem → Prop) (K5 : Option Addr → Nat → Nat → Nat → Nat → Nat → Nat → Option Addr → Nat → Nat → Bool → Int → Option Addr → Nat → Nat → Int → Int → Mem → Prop) (R : Ending → Mem → Prop) (w_1a : Option Addr) (w_1l : Nat) (w_1c : Nat) (r_5b : Nat) (r_5o : Nat) (p_6b : Nat) (p_6o : Nat) (now_8a : Option Addr) (now_8l : Nat) (now_8c : Nat) (is_9 : Bool) (i_10 : Int) (at_11a : Option Addr) (at_11l : Nat) (at_11c : Nat) (k_13 : Int) (m_14 : Int) (ρ : Env) (m : Mem) : l5B K1 K4 K5 w_1a w_1l w_1c r_5b r_5o p_6b p_6o now_8a now_8l now_8c is_9 i_10 at_11a at_11l at_11c k_13 m_14 R m = acpt P od (panicR R) (l5A K1 K4 K5 R) (thenQ (l5E K5) (l5Q K1 K4 R)) (upd (upd (upd (upd (upd (upd (upd (upd (upd ρ 14 (.int .i64 m_14)) 13 (.int .i64 k_13)) 11 (.slice at_11a at_11l at_11c)) 10 (.int .i64 i_10)) 9 (.bool is_9)) 8 (.slice now_8a now_8l now_8c)) 6 (.pointer (some ⟨p_6b, p_6o, none⟩))) 5 (.pointer (some ⟨r_5b, r_5o, none⟩))) 1 (.slice w_1a w_1l w_1c)) m := by kernel_rfl
theorem l5_er (K1 : Option Addr → Nat → Nat → Nat → Nat → Nat → Nat → Option Addr → Nat → Nat → Bool → Int → Mem → Prop) (K4 : Option Addr → Nat → Nat → Nat → Nat → Nat → Nat → Option Addr → Nat → Nat → Bool → Int → Option Addr → Nat → Nat → Int → Mem → Prop) (K5 : Option Addr → Nat → Nat → Nat → Nat → Nat → Nat → Option Addr → Nat → Nat → Bool → Int → Option Addr → Nat → Nat → Int → Int → Mem → Prop) (R : Ending → Mem → Prop) : (l5A K1 K4 K5 R).erase = lP (bB (sR (sL (bB (sL (sR (lP (bB (sR (sR (sR (sR (bB (sL (sR (lP (bB (sR (sL (sR (sR (sR (sR (sR (sR (sR (sR (sR (body))))))))))))))))))))))))))))) := by kernel_rfl
theorem l5_ok (K1 : Option Addr → Nat → Nat → Nat → Nat → Nat → Nat → Option Addr → Nat → Nat → Bool → Int → Mem → Prop) (K4 : Option Addr → Nat → Nat → Nat → Nat → Nat → Nat → Option Addr → Nat → Nat → Bool → Int → Option Addr → Nat → Nat → Int → Mem → Prop) (R : Ending → Mem → Prop) (ρ : Env) (m : Mem) (h : (l5E fun w_1a w_1l w_1c r_5b r_5o p_6b p_6o now_8a now_8l now_8c is_9 i_10 at_11a at_11l at_11c k_13 m_14 m => l5 K1 K4 w_1a w_1l w_1c r_5b r_5o p_6b p_6o now_8a now_8l now_8c is_9 i_10 at_11a at_11l at_11c k_13 m_14 R m) ρ m) : cpt P od (panicR R) (.loop (lP (bB (sR (sL (bB (sL (sR (lP (bB (sR (sR (sR (sR (bB (sL (sR (lP (bB (sR (sL (sR (sR (sR (sR (sR (sR (sR (sR (sR (body))))))))))))))))))))))))))))))) (l5Q K1 K4 R) ρ m := by
  unfold l5E at h
  obtain ⟨w_1a, w_1l, w_1c, e1, h⟩ := h.ex
  obtain ⟨r_5b, r_5o, e5, h⟩ := h.ex
  obtain ⟨p_6b, p_6o, e6, h⟩ := h.ex
  obtain ⟨now_8a, now_8l, now_8c, e8, h⟩ := h.ex
  obtain ⟨is_9, e9, h⟩ := h.ex
  obtain ⟨i_10, e10, h⟩ := h.ex
  obtain ⟨at_11a, at_11l, at_11c, e11, h⟩ := h.ex
  obtain ⟨k_13, e13, h⟩ := h.ex
  obtain ⟨m_14, e14, h⟩ := h.ex
  obtain ⟨I, N, h0, hs⟩ := h
  refine ⟨fun N => l5E (I N), N, (by show l5E (I N) ρ m; unfold l5E; rw [e1, e5, e6, e8, e9, e10, e11, e13, e14]; exact h0), ?_⟩
  clear h0 e1 e5 e6 e8 e9 e10 e11 e13 e14
  intro N ρ m h
  unfold l5E at h
  obtain ⟨w_1a, w_1l, w_1c, e1, h⟩ := h.ex
  obtain ⟨r_5b, r_5o, e5, h⟩ := h.ex
  obtain ⟨p_6b, p_6o, e6, h⟩ := h.ex
  obtain ⟨now_8a, now_8l, now_8c, e8, h⟩ := h.ex
  obtain ⟨is_9, e9, h⟩ := h.ex
  obtain ⟨i_10, e10, h⟩ := h.ex
  obtain ⟨at_11a, at_11l, at_11c, e11, h⟩ := h.ex
  obtain ⟨k_13, e13, h⟩ := h.ex
  obtain ⟨m_14, e14, h⟩ := h.ex
  refine cpt_mono (P := P) (lP (bB (sR (sL (bB (sL (sR (lP (bB (sR (sR (sR (sR (bB (sL (sR (lP (bB (sR (sL (sR (sR (sR (sR (sR (sR (sR (sR (sR (body)))))))))))))))))))))))))))))) (Q := thenQ (l5E fun w_1a w_1l w_1c r_5b r_5o p_6b p_6o now_8a now_8l now_8c is_9 i_10 at_11a at_11l at_11c k_13 m_14 m => ∃ N1, N1 < N ∧ I N1 w_1a w_1l w_1c r_5b r_5o p_6b p_6o now_8a now_8l now_8c is_9 i_10 at_11a at_11l at_11c k_13 m_14 m) (l5Q K1 K4 R)) (fun e ρ m h => ?_) ρ m ?_
  · cases e with
    | normal =>
      have h : l5E (fun w_1a w_1l w_1c r_5b r_5o p_6b p_6o now_8a now_8l now_8c is_9 i_10 at_11a at_11l at_11c k_13 m_14 m => ∃ N1, N1 < N ∧ I N1 w_1a w_1l w_1c r_5b r_5o p_6b p_6o now_8a now_8l now_8c is_9 i_10 at_11a at_11l at_11c k_13 m_14 m) ρ m := h
      unfold l5E at h
      obtain ⟨w_1a, w_1l, w_1c, e1, h⟩ := h.ex
      obtain ⟨r_5b, r_5o, e5, h⟩ := h.ex
      obtain ⟨p_6b, p_6o, e6, h⟩ := h.ex
      obtain ⟨now_8a, now_8l, now_8c, e8, h⟩ := h.ex
      obtain ⟨is_9, e9, h⟩ := h.ex
      obtain ⟨i_10, e10, h⟩ := h.ex
      obtain ⟨at_11a, at_11l, at_11c, e11, h⟩ := h.ex
      obtain ⟨k_13, e13, h⟩ := h.ex
      obtain ⟨m_14, e14, h⟩ := h.ex
      obtain ⟨N1, hlt, h⟩ := h
      exact ⟨N1, hlt, (by show l5E (I N1) ρ m; unfold l5E; rw [e1, e5, e6, e8, e9, e10, e11, e13, e14]; exact h)⟩
    | _ => exact h
  have hh := hs N w_1a w_1l w_1c r_5b r_5o p_6b p_6o now_8a now_8l now_8c is_9 i_10 at_11a at_11l at_11c k_13 m_14 m h
  generalize (fun w_1a w_1l w_1c r_5b r_5o p_6b p_6o now_8a now_8l now_8c is_9 i_10 at_11a at_11l at_11c k_13 m_14 m => ∃ N1, N1 < N ∧ I N1 w_1a w_1l w_1c r_5b r_5o p_6b p_6o now_8a now_8l now_8c is_9 i_10 at_11a at_11l at_11c k_13 m_14 m : Option Addr → Nat → Nat → Nat → Nat → Nat → Nat → Option Addr → Nat → Nat → Bool → Int → Option Addr → Nat → Nat → Int → Int → Mem → Prop) = K5 at hh ⊢
  rw [← upd_self e1, ← upd_self e5, ← upd_self e6, ← upd_self e8, ← upd_self e9, ← upd_self e10, ← upd_self e11, ← upd_self e13, ← upd_self e14]
  rw [← l5_er K1 K4 K5 R]
  refine acpt_sound (P := P) (l5A K1 K4 K5 R) _ _ _ True.intro ?_
  exact Eq.mp (l5_eq K1 K4 K5 R w_1a w_1l w_1c r_5b r_5o p_6b p_6o now_8a now_8l now_8c is_9 i_10 at_11a at_11l at_11c k_13 m_14 ρ m) hh
theorem l4_eq (K1 : Option Addr → Nat → Nat → Nat → Nat → Nat → Nat → Option Addr → Nat → Nat → Bool → Int → Mem → Prop) (K4 : Option Addr → Nat → Nat → Nat → Nat → Nat → Nat → Option Addr → Nat → Nat → Bool → Int → Option Addr → Nat → Nat → Int → Mem → Prop) (R : Ending → Mem → Prop) (w_1a : Option Addr) (w_1l : Nat) (w_1c : Nat) (r_5b : Nat) (r_5o : Nat) (p_6b : Nat) (p_6o : Nat) (now_8a : Option Addr) (now_8l : Nat) (now_8c : Nat) (is_9 : Bool) (i_10 : Int) (at_11a : Option Addr) (at_11l : Nat) (at_11c : Nat) (k_13 : Int) (ρ : Env) (m : Mem) : l4B K1 K4 w_1a w_1l w_1c r_5b r_5o p_6b p_6o now_8a now_8l now_8c is_9 i_10 at_11a at_11l at_11c k_13 R m = acpt P od (panicR R) (l4A K1 K4 R) (thenQ (l4E K4) (l4Q K1 R)) (upd (upd (upd (upd (upd (upd (upd (upd ρ 13 (.int .i64 k_13)) 11 (.slice at_11a at_11l at_11c)) 10 (.int .i64 i_10)) 9 (.bool is_9)) 8 (.slice now_8a now_8l now_8c)) 6 (.pointer (some ⟨p_6b, p_6o, none⟩))) 5 (.pointer (some ⟨r_5b, r_5o, none⟩))) 1 (.slice w_1a w_1l w_1c)) m := by kernel_rfl
theorem l4_er (K1 : Option Addr → Nat → Nat → Nat → Nat → Nat → Nat → Option Addr → Nat → Nat → Bool → Int → Mem → Prop) (K4 : Option Addr → Nat → Nat → Nat → Nat → Nat → Nat → Option Addr → Nat → Nat → Bool → Int → Option Addr → Nat → Nat → Int → Mem → Prop) (R : Ending → Mem → Prop) : (l4A K1 K4 R).erase = lP (bB (sR (sR (sR (sR (bB (sL (sR (lP (bB (sR (sL (sR (sR (sR (sR (sR (sR (sR (sR (sR (body)))))))))))))))))))))) := by kernel_rfl
theorem l4_ok (K1 : Option Addr → Nat → Nat → Nat → Nat → Nat → Nat → Option Addr → Nat → Nat → Bool → Int → Mem → Prop) (R : Ending → Mem → Prop) (ρ : Env) (m : Mem) (h : (l4E fun w_1a w_1l w_1c r_5b r_5o p_6b p_6o now_8a now_8l now_8c is_9 i_10 at_11a at_11l at_11c k_13 m => l4 K1 w_1a w_1l w_1c r_5b r_5o p_6b p_6o now_8a now_8l now_8c is_9 i_10 at_11a at_11l at_11c k_13 R m) ρ m) : cpt P od (panicR R) (.loop (lP (bB (sR (sR (sR (sR (bB (sL (sR (lP (bB (sR (sL (sR (sR (sR (sR (sR (sR (sR (sR (sR (body)))))))))))))))))))))))) (l4Q K1 R) ρ m := by
  unfold l4E at h
  obtain ⟨w_1a, w_1l, w_1c, e1, h⟩ := h.ex
  obtain ⟨r_5b, r_5o, e5, h⟩ := h.ex
  obtain ⟨p_6b, p_6o, e6, h⟩ := h.ex
  obtain ⟨now_8a, now_8l, now_8c, e8, h⟩ := h.ex
  obtain ⟨is_9, e9, h⟩ := h.ex
  obtain ⟨i_10, e10, h⟩ := h.ex
  obtain ⟨at_11a, at_11l, at_11c, e11, h⟩ := h.ex
  obtain ⟨k_13, e13, h⟩ := h.ex
  obtain ⟨I, N, h0, hs⟩ := h
  refine ⟨fun N => l4E (I N), N, (by show l4E (I N) ρ m; unfold l4E; rw [e1, e5, e6, e8, e9, e10, e11, e13]; exact h0), ?_⟩
  clear h0 e1 e5 e6 e8 e9 e10 e11 e13
  intro N ρ m h
  unfold l4E at h
  obtain ⟨w_1a, w_1l, w_1c, e1, h⟩ := h.ex
  obtain ⟨r_5b, r_5o, e5, h⟩ := h.ex
  obtain ⟨p_6b, p_6o, e6, h⟩ := h.ex
  obtain ⟨now_8a, now_8l, now_8c, e8, h⟩ := h.ex
  obtain ⟨is_9, e9, h⟩ := h.ex
  obtain ⟨i_10, e10, h⟩ := h.ex
  obtain ⟨at_11a, at_11l, at_11c, e11, h⟩ := h.ex
  obtain ⟨k_13, e13, h⟩ := h.ex
  refine cpt_mono (P := P) (lP (bB (sR (sR (sR (sR (bB (sL (sR (lP (bB (sR (sL (sR (sR (sR (sR (sR (sR (sR (sR (sR (body))))))))))))))))))))))) (Q := thenQ (l4E fun w_1a w_1l w_1c r_5b r_5o p_6b p_6o now_8a now_8l now_8c is_9 i_10 at_11a at_11l at_11c k_13 m => ∃ N1, N1 < N ∧ I N1 w_1a w_1l w_1c r_5b r_5o p_6b p_6o now_8a now_8l now_8c is_9 i_10 at_11a at_11l at_11c k_13 m) (l4Q K1 R)) (fun e ρ m h => ?_) ρ m ?_
  · cases e with
    | normal =>
      have h : l4E (fun w_1a w_1l w_1c r_5b r_5o p_6b p_6o now_8a now_8l now_8c is_9 i_10 at_11a at_11l at_11c k_13 m => ∃ N1, N1 < N ∧ I N1 w_1a w_1l w_1c r_5b r_5o p_6b p_6o now_8a now_8l now_8c is_9 i_10 at_11a at_11l at_11c k_13 m) ρ m := h
      unfold l4E at h
      obtain ⟨w_1a, w_1l, w_1c, e1, h⟩ := h.ex
      obtain ⟨r_5b, r_5o, e5, h⟩ := h.ex
      obtain ⟨p_6b, p_6o, e6, h⟩ := h.ex
      obtain ⟨now_8a, now_8l, now_8c, e8, h⟩ := h.ex
      obtain ⟨is_9, e9, h⟩ := h.ex
      obtain ⟨i_10, e10, h⟩ := h.ex
      obtain ⟨at_11a, at_11l, at_11c, e11, h⟩ := h.ex
      obtain ⟨k_13, e13, h⟩ := h.ex
      obtain ⟨N1, hlt, h⟩ := h
      exact ⟨N1, hlt, (by show l4E (I N1) ρ m; unfold l4E; rw [e1, e5, e6, e8, e9, e10, e11, e13]; exact h)⟩
    | _ => exact h
  have hh := hs N w_1a w_1l w_1c r_5b r_5o p_6b p_6o now_8a now_8l now_8c is_9 i_10 at_11a at_11l at_11c k_13 m h
  generalize (fun w_1a w_1l w_1c r_5b r_5o p_6b p_6o now_8a now_8l now_8c is_9 i_10 at_11a at_11l at_11c k_13 m => ∃ N1, N1 < N ∧ I N1 w_1a w_1l w_1c r_5b r_5o p_6b p_6o now_8a now_8l now_8c is_9 i_10 at_11a at_11l at_11c k_13 m : Option Addr → Nat → Nat → Nat → Nat → Nat → Nat → Option Addr → Nat → Nat → Bool → Int → Option Addr → Nat → Nat → Int → Mem → Prop) = K4 at hh ⊢
  rw [← upd_self e1, ← upd_self e5, ← upd_self e6, ← upd_self e8, ← upd_self e9, ← upd_self e10, ← upd_self e11, ← upd_self e13]
  rw [← l4_er K1 K4 R]
  refine acpt_sound (P := P) (l4A K1 K4 R) _ _ _ ⟨⟨True.intro, ⟨(fun ρ m h => k6_ok K1 K4 R ρ m h), ⟨(fun ρ m h => l5_ok K1 K4 R ρ m h), True.intro⟩⟩⟩, True.intro⟩ ?_
  exact Eq.mp (l4_eq K1 K4 R w_1a w_1l w_1c r_5b r_5o p_6b p_6o now_8a now_8l now_8c is_9 i_10 at_11a at_11l at_11c k_13 ρ m) hh
theorem k3_eq (K1 : Option Addr → Nat → Nat → Nat → Nat → Nat → Nat → Option Addr → Nat → Nat → Bool → Int → Mem → Prop) (R : Ending → Mem → Prop) (w_1a : Option Addr) (w_1l : Nat) (w_1c : Nat) (r_5b : Nat) (r_5o : Nat) (p_6b : Nat) (p_6o : Nat) (i_10 : Int) (at_11a : Option Addr) (at_11l : Nat) (at_11c : Nat) (ρ : Env) (m : Mem) : k3 K1 w_1a w_1l w_1c r_5b r_5o p_6b p_6o i_10 at_11a at_11l at_11c R m = acpt P od (panicR R) (k3A K1 R) (k3Q K1 R) (upd (upd (upd (upd (upd ρ 11 (.slice at_11a at_11l at_11c)) 10 (.int .i64 i_10)) 6 (.pointer (some ⟨p_6b, p_6o, none⟩))) 5 (.pointer (some ⟨r_5b, r_5o, none⟩))) 1 (.slice w_1a w_1l w_1c)) m := by kernel_rfl
theorem k3_er (K1 : Option Addr → Nat → Nat → Nat → Nat → Nat → Nat → Option Addr → Nat → Nat → Bool → Int → Mem → Prop) (R : Ending → Mem → Prop) : (k3A K1 R).erase = sR (sR (bB (sL (sR (lP (bB (sR (sL (sR (sR (sR (sR (sR (sR (sR (sR (sR (body)))))))))))))))))) := by kernel_rfl
theorem k3_ok (K1 : Option Addr → Nat → Nat → Nat → Nat → Nat → Nat → Option Addr → Nat → Nat → Bool → Int → Mem → Prop) (R : Ending → Mem → Prop) (ρ : Env) (m : Mem) (h : (k3E fun w_1a w_1l w_1c r_5b r_5o p_6b p_6o i_10 at_11a at_11l at_11c m => k3 K1 w_1a w_1l w_1c r_5b r_5o p_6b p_6o i_10 at_11a at_11l at_11c R m) ρ m) : cpt P od (panicR R) (sR (sR (bB (sL (sR (lP (bB (sR (sL (sR (sR (sR (sR (sR (sR (sR (sR (sR (body))))))))))))))))))) (k3Q K1 R) ρ m := by
  unfold k3E at h
  obtain ⟨w_1a, w_1l, w_1c, e1, h⟩ := h.ex
  obtain ⟨r_5b, r_5o, e5, h⟩ := h.ex
  obtain ⟨p_6b, p_6o, e6, h⟩ := h.ex
  obtain ⟨i_10, e10, h⟩ := h.ex
  obtain ⟨at_11a, at_11l, at_11c, e11, h⟩ := h.ex
  rw [← upd_self e1, ← upd_self e5, ← upd_self e6, ← upd_self e10, ← upd_self e11]
  rw [← k3_er K1 R]
  refine acpt_sound (P := P) (k3A K1 R) _ _ _ ⟨⟨(fun ρ m h => l4_ok K1 R ρ m h), True.intro⟩, True.intro⟩ ?_
  exact Eq.mp (k3_eq K1 R w_1a w_1l w_1c r_5b r_5o p_6b p_6o i_10 at_11a at_11l at_11c ρ m) h
theorem l2_eq (K1 : Option Addr → Nat → Nat → Nat → Nat → Nat → Nat → Option Addr → Nat → Nat → Bool → Int → Mem → Prop) (K2 : Option Addr → Nat → Nat → Nat → Nat → Nat → Nat → Option Addr → Nat → Nat → Int → Option Addr → Nat → Nat → Int → Mem → Prop) (R : Ending → Mem → Prop) (w_1a : Option Addr) (w_1l : Nat) (w_1c : Nat) (r_5b : Nat) (r_5o : Nat) (p_6b : Nat) (p_6o : Nat) (now_8a : Option Addr) (now_8l : Nat) (now_8c : Nat) (i_10 : Int) (at_11a : Option Addr) (at_11l : Nat) (at_11c : Nat) (k_12 : Int) (ρ : Env) (m : Mem) : l2B K1 K2 w_1a w_1l w_1c r_5b r_5o p_6b p_6o now_8a now_8l now_8c i_10 at_11a at_11l at_11c k_12 R m = acpt P od (panicR R) (l2A K1 K2 R) (thenQ (l2E K2) (l2Q K1 R)) (upd (upd (upd (upd (upd (upd (upd ρ 12 (.int .i64 k_12)) 11 (.slice at_11a at_11l at_11c)) 10 (.int .i64 i_10)) 8 (.slice now_8a now_8l now_8c)) 6 (.pointer (some ⟨p_6b, p_6o, none⟩))) 5 (.pointer (some ⟨r_5b, r_5o, none⟩))) 1 (.slice w_1a w_1l w_1c)) m := by kernel_rfl
theorem l2_er (K1 : Option Addr → Nat → Nat → Nat → Nat → Nat → Nat → Option Addr → Nat → Nat → Bool → Int → Mem → Prop) (K2 : Option Addr → Nat → Nat → Nat → Nat → Nat → Nat → Option Addr → Nat → Nat → Int → Option Addr → Nat → Nat → Int → Mem → Prop) (R : Ending → Mem → Prop) : (l2A K1 K2 R).erase = lP (bB (sR (sL (sR (bB (sL (sR (lP (bB (sR (sL (sR (sR (sR (sR (sR (sR (sR (sR (sR (body))))))))))))))))))))) := by kernel_rfl
theorem l2_ok (K1 : Option Addr → Nat → Nat → Nat → Nat → Nat → Nat → Option Addr → Nat → Nat → Bool → Int → Mem → Prop) (R : Ending → Mem → Prop) (ρ : Env) (m : Mem) (h : (l2E fun w_1a w_1l w_1c r_5b r_5o p_6b p_6o now_8a now_8l now_8c i_10 at_11a at_11l at_11c k_12 m => l2 K1 w_1a w_1l w_1c r_5b r_5o p_6b p_6o now_8a now_8l now_8c i_10 at_11a at_11l at_11c k_12 R m) ρ m) : cpt P od (panicR R) (.loop (lP (bB (sR (sL (sR (bB (sL (sR (lP (bB (sR (sL (sR (sR (sR (sR (sR (sR (sR (sR (sR (body))))))))))))))))))))))) (l2Q K1 R) ρ m := by
  unfold l2E at h
  obtain ⟨w_1a, w_1l, w_1c, e1, h⟩ := h.ex
  obtain ⟨r_5b, r_5o, e5, h⟩ := h.ex
  obtain ⟨p_6b, p_6o, e6, h⟩ := h.ex
  obtain ⟨now_8a, now_8l, now_8c, e8, h⟩ := h.ex
  obtain ⟨i_10, e10, h⟩ := h.ex
  obtain ⟨at_11a, at_11l, at_11c, e11, h⟩ := h.ex
  obtain ⟨k_12, e12, h⟩ := h.ex
  obtain ⟨I, N, h0, hs⟩ := h
  refine ⟨fun N => l2E (I N), N, (by show l2E (I N) ρ m; unfold l2E; rw [e1, e5, e6, e8, e10, e11, e12]; exact h0), ?_⟩
  clear h0 e1 e5 e6 e8 e10 e11 e12
  intro N ρ m h
  unfold l2E at h
  obtain ⟨w_1a, w_1l, w_1c, e1, h⟩ := h.ex
  obtain ⟨r_5b, r_5o, e5, h⟩ := h.ex
  obtain ⟨p_6b, p_6o, e6, h⟩ := h.ex
  obtain ⟨now_8a, now_8l, now_8c, e8, h⟩ := h.ex
  obtain ⟨i_10, e10, h⟩ := h.ex
  obtain ⟨at_11a, at_11l, at_11c, e11, h⟩ := h.ex
  obtain ⟨k_12, e12, h⟩ := h.ex
  refine cpt_mono (P := P) (lP (bB (sR (sL (sR (bB (sL (sR (lP (bB (sR (sL (sR (sR (sR (sR (sR (sR (sR (sR (sR (body)))))))))))))))))))))) (Q := thenQ (l2E fun w_1a w_1l w_1c r_5b r_5o p_6b p_6o now_8a now_8l now_8c i_10 at_11a at_11l at_11c k_12 m => ∃ N1, N1 < N ∧ I N1 w_1a w_1l w_1c r_5b r_5o p_6b p_6o now_8a now_8l now_8c i_10 at_11a at_11l at_11c k_12 m) (l2Q K1 R)) (fun e ρ m h => ?_) ρ m ?_
  · cases e with
    | normal =>
      have h : l2E (fun w_1a w_1l w_1c r_5b r_5o p_6b p_6o now_8a now_8l now_8c i_10 at_11a at_11l at_11c k_12 m => ∃ N1, N1 < N ∧ I N1 w_1a w_1l w_1c r_5b r_5o p_6b p_6o now_8a now_8l now_8c i_10 at_11a at_11l at_11c k_12 m) ρ m := h
      unfold l2E at h
      obtain ⟨w_1a, w_1l, w_1c, e1, h⟩ := h.ex
      obtain ⟨r_5b, r_5o, e5, h⟩ := h.ex
      obtain ⟨p_6b, p_6o, e6, h⟩ := h.ex
      obtain ⟨now_8a, now_8l, now_8c, e8, h⟩ := h.ex
      obtain ⟨i_10, e10, h⟩ := h.ex
      obtain ⟨at_11a, at_11l, at_11c, e11, h⟩ := h.ex
      obtain ⟨k_12, e12, h⟩ := h.ex
      obtain ⟨N1, hlt, h⟩ := h
      exact ⟨N1, hlt, (by show l2E (I N1) ρ m; unfold l2E; rw [e1, e5, e6, e8, e10, e11, e12]; exact h)⟩
    | _ => exact h
  have hh := hs N w_1a w_1l w_1c r_5b r_5o p_6b p_6o now_8a now_8l now_8c i_10 at_11a at_11l at_11c k_12 m h
  generalize (fun w_1a w_1l w_1c r_5b r_5o p_6b p_6o now_8a now_8l now_8c i_10 at_11a at_11l at_11c k_12 m => ∃ N1, N1 < N ∧ I N1 w_1a w_1l w_1c r_5b r_5o p_6b p_6o now_8a now_8l now_8c i_10 at_11a at_11l at_11c k_12 m : Option Addr → Nat → Nat → Nat → Nat → Nat → Nat → Option Addr → Nat → Nat → Int → Option Addr → Nat → Nat → Int → Mem → Prop) = K2 at hh ⊢
  rw [← upd_self e1, ← upd_self e5, ← upd_self e6, ← upd_self e8, ← upd_self e10, ← upd_self e11, ← upd_self e12]
  rw [← l2_er K1 K2 R]
  refine acpt_sound (P := P) (l2A K1 K2 R) _ _ _ True.intro ?_
  exact Eq.mp (l2_eq K1 K2 R w_1a w_1l w_1c r_5b r_5o p_6b p_6o now_8a now_8l now_8c i_10 at_11a at_11l at_11c k_12 ρ m) hh
theorem k7_eq  (R : Ending → Mem → Prop) (w_1a : Option Addr) (w_1l : Nat) (w_1c : Nat) (r_5b : Nat) (r_5o : Nat) (is_9 : Bool) (ρ : Env) (m : Mem) : k7  w_1a w_1l w_1c r_5b r_5o is_9 R m = acpt P od (panicR R) (k7A  R) (k7Q  R) (upd (upd (upd ρ 9 (.bool is_9)) 5 (.pointer (some ⟨r_5b, r_5o, none⟩))) 1 (.slice w_1a w_1l w_1c)) m := by kernel_rfl
theorem k7_er  (R : Ending → Mem → Prop) : (k7A  R).erase = sR (sR (sR (sR (sR (sR (sR (sR (sR (sR (body)))))))))) := by kernel_rfl
theorem k7_ok  (R : Ending → Mem → Prop) (ρ : Env) (m : Mem) (h : (k7E fun w_1a w_1l w_1c r_5b r_5o is_9 m => k7  w_1a w_1l w_1c r_5b r_5o is_9 R m) ρ m) : cpt P od (panicR R) (sR (sR (sR (sR (sR (sR (sR (sR (sR (sR (body))))))))))) (k7Q  R) ρ m := by
  unfold k7E at h
  obtain ⟨w_1a, w_1l, w_1c, e1, h⟩ := h.ex
  obtain ⟨r_5b, r_5o, e5, h⟩ := h.ex
  obtain ⟨is_9, e9, h⟩ := h.ex
  rw [← upd_self e1, ← upd_self e5, ← upd_self e9]
  rw [← k7_er  R]
  refine acpt_sound (P := P) (k7A  R) _ _ _ True.intro ?_
  exact Eq.mp (k7_eq  R w_1a w_1l w_1c r_5b r_5o is_9 ρ m) h
theorem l1_eq  (K1 : Option Addr → Nat → Nat → Nat → Nat → Nat → Nat → Option Addr → Nat → Nat → Bool → Int → Mem → Prop) (R : Ending → Mem → Prop) (w_1a : Option Addr) (w_1l : Nat) (w_1c : Nat) (r_5b : Nat) (r_5o : Nat) (p_6b : Nat) (p_6o : Nat) (now_8a : Option Addr) (now_8l : Nat) (now_8c : Nat) (is_9 : Bool) (i_10 : Int) (ρ : Env) (m : Mem) : l1B  K1 w_1a w_1l w_1c r_5b r_5o p_6b p_6o now_8a now_8l now_8c is_9 i_10 R m = acpt P od (panicR R) (l1A  K1 R) (thenQ (l1E K1) (l1Q  R)) (upd (upd (upd (upd (upd (upd ρ 10 (.int .i64 i_10)) 9 (.bool is_9)) 8 (.slice now_8a now_8l now_8c)) 6 (.pointer (some ⟨p_6b, p_6o, none⟩))) 5 (.pointer (some ⟨r_5b, r_5o, none⟩))) 1 (.slice w_1a w_1l w_1c)) m := by kernel_rfl
theorem l1_er  (K1 : Option Addr → Nat → Nat → Nat → Nat → Nat → Nat → Option Addr → Nat → Nat → Bool → Int → Mem → Prop) (R : Ending → Mem → Prop) : (l1A  K1 R).erase = lP (bB (sR (sL (sR (sR (sR (sR (sR (sR (sR (sR (sR (body))))))))))))) := by kernel_rfl
theorem l1_ok  (R : Ending → Mem → Prop) (ρ : Env) (m : Mem) (h : (l1E fun w_1a w_1l w_1c r_5b r_5o p_6b p_6o now_8a now_8l now_8c is_9 i_10 m => l1  w_1a w_1l w_1c r_5b r_5o p_6b p_6o now_8a now_8l now_8c is_9 i_10 R m) ρ m) : cpt P od (panicR R) (.loop (lP (bB (sR (sL (sR (sR (sR (sR (sR (sR (sR (sR (sR (body))))))))))))))) (l1Q  R) ρ m := by
  unfold l1E at h
  obtain ⟨w_1a, w_1l, w_1c, e1, h⟩ := h.ex
  obtain ⟨r_5b, r_5o, e5, h⟩ := h.ex
  obtain ⟨p_6b, p_6o, e6, h⟩ := h.ex
  obtain ⟨now_8a, now_8l, now_8c, e8, h⟩ := h.ex
  obtain ⟨is_9, e9, h⟩ := h.ex
  obtain ⟨i_10, e10, h⟩ := h.ex
  obtain ⟨I, N, h0, hs⟩ := h
  refine ⟨fun N => l1E (I N), N, (by show l1E (I N) ρ m; unfold l1E; rw [e1, e5, e6, e8, e9, e10]; exact h0), ?_⟩
  clear h0 e1 e5 e6 e8 e9 e10
  intro N ρ m h
  unfold l1E at h
  obtain ⟨w_1a, w_1l, w_1c, e1, h⟩ := h.ex
  obtain ⟨r_5b, r_5o, e5, h⟩ := h.ex
  obtain ⟨p_6b, p_6o, e6, h⟩ := h.ex
  obtain ⟨now_8a, now_8l, now_8c, e8, h⟩ := h.ex
  obtain ⟨is_9, e9, h⟩ := h.ex
  obtain ⟨i_10, e10, h⟩ := h.ex
  refine cpt_mono (P := P) (lP (bB (sR (sL (sR (sR (sR (sR (sR (sR (sR (sR (sR (body)))))))))))))) (Q := thenQ (l1E fun w_1a w_1l w_1c r_5b r_5o p_6b p_6o now_8a now_8l now_8c is_9 i_10 m => ∃ N1, N1 < N ∧ I N1 w_1a w_1l w_1c r_5b r_5o p_6b p_6o now_8a now_8l now_8c is_9 i_10 m) (l1Q  R)) (fun e ρ m h => ?_) ρ m ?_
  · cases e with
    | normal =>
      have h : l1E (fun w_1a w_1l w_1c r_5b r_5o p_6b p_6o now_8a now_8l now_8c is_9 i_10 m => ∃ N1, N1 < N ∧ I N1 w_1a w_1l w_1c r_5b r_5o p_6b p_6o now_8a now_8l now_8c is_9 i_10 m) ρ m := h
      unfold l1E at h
      obtain ⟨w_1a, w_1l, w_1c, e1, h⟩ := h.ex
      obtain ⟨r_5b, r_5o, e5, h⟩ := h.ex
      obtain ⟨p_6b, p_6o, e6, h⟩ := h.ex
      obtain ⟨now_8a, now_8l, now_8c, e8, h⟩ := h.ex
      obtain ⟨is_9, e9, h⟩ := h.ex
      obtain ⟨i_10, e10, h⟩ := h.ex
      obtain ⟨N1, hlt, h⟩ := h
      exact ⟨N1, hlt, (by show l1E (I N1) ρ m; unfold l1E; rw [e1, e5, e6, e8, e9, e10]; exact h)⟩
    | _ => exact h
  have hh := hs N w_1a w_1l w_1c r_5b r_5o p_6b p_6o now_8a now_8l now_8c is_9 i_10 m h
  generalize (fun w_1a w_1l w_1c r_5b r_5o p_6b p_6o now_8a now_8l now_8c is_9 i_10 m => ∃ N1, N1 < N ∧ I N1 w_1a w_1l w_1c r_5b r_5o p_6b p_6o now_8a now_8l now_8c is_9 i_10 m : Option Addr → Nat → Nat → Nat → Nat → Nat → Nat → Option Addr → Nat → Nat → Bool → Int → Mem → Prop) = K1 at hh ⊢
  rw [← upd_self e1, ← upd_self e5, ← upd_self e6, ← upd_self e8, ← upd_self e9, ← upd_self e10]
  rw [← l1_er  K1 R]
  refine acpt_sound (P := P) (l1A  K1 R) _ _ _ ⟨⟨True.intro, ⟨⟨(fun ρ m h => k3_ok K1 R ρ m h), ⟨(fun ρ m h => l2_ok K1 R ρ m h), True.intro⟩⟩, True.intro⟩⟩, True.intro⟩ ?_
  exact Eq.mp (l1_eq  K1 R w_1a w_1l w_1c r_5b r_5o p_6b p_6o now_8a now_8l now_8c is_9 i_10 ρ m) hh
theorem e0_eq (picks_0a : Option Addr) (picks_0l : Nat) (picks_0c : Nat) (w_1a : Option Addr) (w_1l : Nat) (w_1c : Nat) (R : Ending → Mem → Prop) (m : Mem) : e0 picks_0a picks_0l picks_0c w_1a w_1l w_1c R m = acpt P od (panicR R) (e0A R) (bodyQ P fn R) (argE (#[.slice picks_0a picks_0l picks_0c, .slice w_1a w_1l w_1c] : Array Value).toList) m := by kernel_rfl
theorem ok (picks_0a : Option Addr) (picks_0l : Nat) (picks_0c : Nat) (w_1a : Option Addr) (w_1l : Nat) (w_1c : Nat) (R : Ending → Mem → Prop) (m : Mem) (h : e0 picks_0a picks_0l picks_0c w_1a w_1l w_1c R m) : HC P id #[.slice picks_0a picks_0l picks_0c, .slice w_1a w_1l w_1c] m R := by
  refine HC_of (fn := fn) (c := body) (od := od) (tb := tb) Go.Proofs.Try.func4 (by kernel_rfl) (by kernel_rfl) follows (by kernel_rfl) (of_decide_eq_true (by kernel_rfl)) ?_
  have he : (e0A R).erase = body := by kernel_rfl
  rw [← he]
  refine acpt_sound (P := P) (e0A R) _ _ _ ⟨⟨⟨⟨⟨⟨⟨⟨⟨⟨(fun ρ m h => k7_ok  R ρ m h), ⟨(fun ρ m h => l1_ok  R ρ m h), True.intro⟩⟩, True.intro⟩, True.intro⟩, True.intro⟩, True.intro⟩, True.intro⟩, True.intro⟩, True.intro⟩, True.intro⟩, True.intro⟩ ?_
  exact Eq.mp (e0_eq picks_0a picks_0l picks_0c w_1a w_1l w_1c R m) h
end eyotlaw10_PlaceSpells
end
end Go.E
set_option linter.unusedVariables false
set_option linter.unusedSimpArgs false
set_option maxRecDepth 20000
namespace Go.E.Pl
open Go.H Go.E Go.E.Rg
attribute [local irreducible] BiN MkS ConvN LookN MapUpN CallV HC limb dbTab
section
variable {r : Rx} {p : Plc} {A : Ads} {mB mm : Mem} {wa : Option Addr} {wc : Nat} {w : List UInt8} {b5 b6 : Nat} {t6 : TypeId} {i : Int} {aa : Option Addr} {ac : Nat} {as_ zs : List Nat} {R : Ending → Mem → Prop}
variable {K1 : Option Addr → Nat → Nat → Nat → Nat → Nat → Nat → Option Addr → Nat → Nat → Bool → Int → Mem → Prop}
variable {K4 : Option Addr → Nat → Nat → Nat → Nat → Nat → Nat → Option Addr → Nat → Nat → Bool → Int → Option Addr → Nat → Nat → Int → Mem → Prop}
theorem spell_l5 (ok : PlOK r p) (hcn : cnt r ≤ 40) (h6 : mm b6 = some (.cells (lO A p) t6 (0, 0))) (vp : PlV mm p A) (ha : CellsAt mm aa (ints (ns as_))) (hab : ∀ x ∈ as_, x < cnt r) {k : Nat} (hk : k < as_.length) {na : Option Addr} {nc : Nat} (hz : CellsAt mm na (ints (ns zs))) (hzl : zs.length ≤ 40) {is0 : Bool}
    (hK : ∀ {m' : Mem} {na' : Option Addr} {nc' : Nat} {zs' : List Nat} {is' : Bool}, Le mm m' → CellsAt m' na' (ints (ns zs')) → (∀ x, x ∈ zs' ↔ x ∈ zs ∨ Fo 0 r as_[k] x) → (zs.Nodup → zs'.Nodup) → (is' = true ↔ is0 = true ∨ La 0 r as_[k]) → K4 wa w.length wc b5 0 b6 0 na' zs'.length nc' is' i aa as_.length ac (IntKind.i64.wrap ((k : Int) + 1)) m') :
    eyotlaw10_PlaceSpells.l5 K1 K4 wa w.length wc b5 0 b6 0 na zs.length nc is0 i aa as_.length ac (k : Int) 0 R mm := by
  obtain ⟨fv, hfv, hrows⟩ := vp.co
  have ll := ok.kla.len
  have hx := hab _ (List.getElem_mem hk)
  refine ⟨fun N a1 a2 a3 a4 a5 a6 a7 n1 n2 n3 z a8 a9 a10 a11 a12 t mm' => a1 = wa ∧ a2 = w.length ∧ a3 = wc ∧ a4 = b5 ∧ a5 = 0 ∧ a6 = b6 ∧ a7 = 0 ∧ n1 = na ∧ n2 = zs.length ∧ n3 = nc ∧ a8 = i ∧ a9 = aa ∧ a10 = as_.length ∧ a11 = ac ∧ a12 = (k : Int) ∧ mm' = mm ∧ ∃ y : Nat, t = (y : Int) ∧ y ≤ p.la.length ∧ N = p.la.length - y ∧ (z = true ↔ is0 = true ∨ as_[k] ∈ p.la.take y), p.la.length,
    ⟨rfl, rfl, rfl, rfl, rfl, rfl, rfl, rfl, rfl, rfl, rfl, rfl, rfl, rfl, rfl, rfl, 0, rfl, by omega, by omega, by simp⟩, ?_⟩
  rintro N a1 a2 a3 a4 a5 a6 a7 n1 n2 n3 z a8 a9 a10 a11 a12 t mm' ⟨rfl, rfl, rfl, rfl, rfl, rfl, rfl, rfl, rfl, rfl, rfl, rfl, rfl, rfl, rfl, rfl, y, rfl, hy, rfl, hzz⟩
  unfold eyotlaw10_PlaceSpells.l5B
  refine LdV.s2 h6 (UnS.mk ?_)
  refine BrD (fun hlt => ?_) (fun hge => ?_)
  · have hyl : y < p.la.length := by omega
    have htk : p.la.take (y + 1) = p.la.take y ++ [p.la[y]] := by rw [List.take_add_one, List.getElem?_eq_getElem hyl]; rfl
    refine Sub.all ?_
    refine Br.mk (fun e => ?_) (fun e => ?_)
    · refine ⟨p.la.length - (y + 1), by omega, rfl, rfl, rfl, rfl, rfl, rfl, rfl, rfl, rfl, rfl, rfl, rfl, rfl, rfl, rfl, rfl, y + 1, ?_, by omega, rfl, ?_⟩
      · rw [wi (by omega) (by omega)]; omega
      · rw [htk, List.mem_append]
        constructor
        · intro _
          rcases hzz.mp e with h | h
          · exact .inl h
          · exact .inr (.inl h)
        · intro _; rfl
    · refine LdV.s2 h6 (UnS.mk ?_)
      refine IxS.num vp.cl hyl rfl rfl ?_
      refine IxS.num ha hk rfl rfl ?_
      refine ⟨p.la.length - (y + 1), by omega, rfl, rfl, rfl, rfl, rfl, rfl, rfl, rfl, rfl, rfl, rfl, rfl, rfl, rfl, rfl, rfl, y + 1, ?_, by omega, rfl, ?_⟩
      · rw [wi (by omega) (by omega)]; omega
      · rw [htk, List.mem_append, List.mem_singleton, beq_iff_eq]
        constructor
        · intro h; right; right; omega
        · rintro (h | h | h)
          · rw [hzz.mpr (.inl h)] at e; cases e
          · rw [hzz.mpr (.inr h)] at e; cases e
          · omega
  · have e : p.la.take y = p.la := List.take_of_length_le (by omega)
    rw [e] at hzz
    unfold eyotlaw10_PlaceSpells.k6
    refine Sub.all ?_
    refine LdV.s3 h6 (UnS.mk ?_)
    refine IxS.num ha hk rfl rfl ?_
    have hxf : as_[k] < p.fol.length := by rw [ok.len]; exact hx
    refine IxS.row hfv hrows hxf rfl rfl ?_
    intro fa fc hf
    have hfl := (ok.kfo hxf).len
    refine join_spec hz hf (by omega) (by omega) ?_
    intro m' a' c' zs' hle' hc' hmem hnd
    dsimp only [Cont]
    refine UnS.mk ?_
    refine hK hle' hc' (fun x => ?_) hnd ?_
    · rw [hmem, ok.fo_at hxf]
    · rw [hzz, ok.la]
theorem spell_l4 (ok : PlOK r p) (hcn : cnt r ≤ 40) (h6 : mm b6 = some (.cells (lO A p) t6 (0, 0))) (vp : PlV mm p A) (ha : CellsAt mm aa (ints (ns as_))) (hab : ∀ x ∈ as_, x < cnt r) (hal : as_.length ≤ 40)
    (hK : ∀ {m' : Mem} {na' : Option Addr} {nc' : Nat} {zs' : List Nat} {is' : Bool}, Le mm m' → CellsAt m' na' (ints (ns zs')) → (∀ x, x ∈ zs' ↔ ∃ a ∈ as_, Fo 0 r a x) → zs'.Nodup → (is' = true ↔ ∃ a ∈ as_, La 0 r a) → K1 wa w.length wc b5 0 b6 0 na' zs'.length nc' is' (IntKind.i64.wrap (i + 1)) m') :
    eyotlaw10_PlaceSpells.l4 K1 wa w.length wc b5 0 b6 0 none 0 0 false i aa as_.length ac 0 R mm := by
  refine ⟨fun N a1 a2 a3 a4 a5 a6 a7 n1 n2 n3 z a8 a9 a10 a11 t mm' => a1 = wa ∧ a2 = w.length ∧ a3 = wc ∧ a4 = b5 ∧ a5 = 0 ∧ a6 = b6 ∧ a7 = 0 ∧ a8 = i ∧ a9 = aa ∧ a10 = as_.length ∧ a11 = ac ∧ ∃ (k : Nat) (zs : List Nat), t = (k : Int) ∧ k ≤ as_.length ∧ N = as_.length - k ∧ n2 = zs.length ∧ Le mm mm' ∧ CellsAt mm' n1 (ints (ns zs)) ∧ (∀ x, x ∈ zs ↔ ∃ a ∈ as_.take k, Fo 0 r a x) ∧ zs.Nodup ∧ (z = true ↔ ∃ a ∈ as_.take k, La 0 r a), as_.length,
    ⟨rfl, rfl, rfl, rfl, rfl, rfl, rfl, rfl, rfl, rfl, rfl, 0, [], rfl, by omega, by omega, rfl, Le.refl _, CellsAt.empty _ _, by simp, List.nodup_nil, by simp⟩, ?_⟩
  rintro N a1 a2 a3 a4 a5 a6 a7 n1 n2 n3 z a8 a9 a10 a11 t mm' ⟨rfl, rfl, rfl, rfl, rfl, rfl, rfl, rfl, rfl, rfl, rfl, k, zs, rfl, hk, rfl, rfl, hle, hc, hmem, hnd, hz⟩
  unfold eyotlaw10_PlaceSpells.l4B
  refine BrD (fun hlt => ?_) (fun hge => ?_)
  · have hkl : k < as_.length := by omega
    have htk : as_.take (k + 1) = as_.take k ++ [as_[k]] := by rw [List.take_add_one, List.getElem?_eq_getElem hkl]; rfl
    have hzl : zs.length ≤ 40 := by
      have : zs.length ≤ cnt r := nodup_len hnd (fun x hx => by
        obtain ⟨a, _, hf⟩ := (hmem x).mp hx
        have := ((bounds r 0).2.2 _ _ hf).2.2
        omega)
      omega
    refine spell_l5 ok hcn (hle _ _ h6) (vp.le hle) (ha.le hle) hab hkl hc hzl ?_
    intro m' na' nc' zs' is' hle' hc' hmem' hnd' hz'
    refine ⟨as_.length - (k + 1), by omega, rfl, rfl, rfl, rfl, rfl, rfl, rfl, rfl, rfl, rfl, rfl, k + 1, zs', ?_, by omega, rfl, rfl, hle.trans hle', hc', fun x => ?_, hnd' hnd, ?_⟩
    · rw [wi (by omega) (by omega)]; omega
    · rw [hmem', hmem, htk]
      simp only [List.mem_append, List.mem_singleton]
      constructor
      · rintro (⟨a, h1, h2⟩ | h)
        · exact ⟨a, .inl h1, h2⟩
        · exact ⟨_, .inr rfl, h⟩
      · rintro ⟨a, h1 | rfl, h2⟩
        · exact .inl ⟨a, h1, h2⟩
        · exact .inr h2
    · rw [hz', hz, htk]
      simp only [List.mem_append, List.mem_singleton]
      constructor
      · rintro (⟨a, h1, h2⟩ | h)
        · exact ⟨a, .inl h1, h2⟩
        · exact ⟨_, .inr rfl, h⟩
      · rintro ⟨a, h1 | rfl, h2⟩
        · exact .inl ⟨a, h1, h2⟩
        · exact .inr h2
  · have e : as_.take k = as_ := List.take_of_length_le (by omega)
    rw [e] at hmem hz
    exact hK hle hc hmem hnd hz
theorem spell_l2 (ok : PlOK r p) (hcn : cnt r ≤ 40) (h6 : mm b6 = some (.cells (lO A p) t6 (0, 0))) (vp : PlV mm p A) (hw : CellsAt mm wa (u8s w)) {j : Nat} (hj : j < w.length) (hwl : w.length ≤ 10) {na : Option Addr} {nc : Nat} (hc : CellsAt mm na (ints (ns zs))) (hnd : zs.Nodup) (hzb : ∀ x ∈ zs, x < cnt r)
    (hK : ∀ {m' : Mem} {na' : Option Addr} {nc' : Nat} {zs' : List Nat} {is' : Bool}, Le mm m' → CellsAt m' na' (ints (ns zs')) → (∀ x, x ∈ zs' ↔ ∃ a ∈ zs, At (setsOf r) a w[j] ∧ Fo 0 r a x) → zs'.Nodup → (is' = true ↔ ∃ a ∈ zs, At (setsOf r) a w[j] ∧ La 0 r a) → K1 wa w.length wc b5 0 b6 0 na' zs'.length nc' is' (IntKind.i64.wrap ((j : Int) + 1)) m') :
    eyotlaw10_PlaceSpells.l2 K1 wa w.length wc b5 0 b6 0 na zs.length nc (j : Int) none 0 0 0 R mm := by
  have hzl := nodup_len hnd hzb
  refine ⟨fun N a1 a2 a3 a4 a5 a6 a7 n1 n2 n3 a8 a9 a10 a11 t mm' => a1 = wa ∧ a2 = w.length ∧ a3 = wc ∧ a4 = b5 ∧ a5 = 0 ∧ a6 = b6 ∧ a7 = 0 ∧ n1 = na ∧ n2 = zs.length ∧ n3 = nc ∧ a8 = (j : Int) ∧ ∃ (k : Nat) (as_ : List Nat), t = (k : Int) ∧ k ≤ zs.length ∧ N = zs.length - k ∧ a10 = as_.length ∧ Le mm mm' ∧ Own mm' T_int 1 a9 as_.length a11 (ints (ns as_)) ∧ Fresh mm a9 ∧ (∀ x, x ∈ as_ ↔ x ∈ zs.take k ∧ At (setsOf r) x w[j]) ∧ as_.length ≤ k, zs.length,
    ⟨rfl, rfl, rfl, rfl, rfl, rfl, rfl, rfl, rfl, rfl, rfl, 0, [], rfl, by omega, by omega, rfl, Le.refl _, Own.nil _ _ _, Fresh.none _, by simp, by simp⟩, ?_⟩
  rintro N a1 a2 a3 a4 a5 a6 a7 n1 n2 n3 a8 a9 a10 a11 t mm' ⟨rfl, rfl, rfl, rfl, rfl, rfl, rfl, rfl, rfl, rfl, rfl, k, as_, rfl, hk, rfl, rfl, hle, hown, hfr, hmem, hal⟩
  unfold eyotlaw10_PlaceSpells.l2B
  refine BrD (fun hlt => ?_) (fun hge => ?_)
  rotate_left
  · have e : zs.take k = zs := List.take_of_length_le (by omega)
    rw [e] at hmem
    unfold eyotlaw10_PlaceSpells.k3
    refine spell_l4 ok hcn (hle _ _ h6) (vp.le hle) hown.cells (fun x hx => hzb x ((hmem x).mp hx).1) (by omega) ?_
    intro m' na' nc' zs' is' hle' hc' hmem' hnd' hz'
    refine hK (hle.trans hle') hc' (fun x => ?_) hnd' ?_
    · rw [hmem']
      constructor
      · rintro ⟨a, h1, h2⟩; exact ⟨a, ((hmem a).mp h1).1, ((hmem a).mp h1).2, h2⟩
      · rintro ⟨a, h1, h2, h3⟩; exact ⟨a, (hmem a).mpr ⟨h1, h2⟩, h3⟩
    · rw [hz']
      constructor
      · rintro ⟨a, h1, h2⟩; exact ⟨a, ((hmem a).mp h1).1, ((hmem a).mp h1).2, h2⟩
      · rintro ⟨a, h1, h2, h3⟩; exact ⟨a, (hmem a).mpr ⟨h1, h2⟩, h3⟩
  have hkl : k < zs.length := by omega
  have htk : zs.take (k + 1) = zs.take k ++ [zs[k]] := by rw [List.take_add_one, List.getElem?_eq_getElem hkl]; rfl
  have hx := hzb _ (List.getElem_mem hkl)
  have hxs : zs[k] < p.sets.length := by rw [ok.slen]; exact hx
  have hc1 := hc.le hle
  have vp1 := vp.le hle
  have h61 := hle _ _ h6
  refine Sub.all ?_
  refine IxS.num hc1 hkl rfl rfl ?_
  refine BrDf (by omega) ?_
  refine IxS.num hc1 hkl rfl rfl ?_
  refine LdV.s0 h61 (UnS.mk ?_)
  refine BrDf (by omega) ?_
  refine Sub.all ?_
  refine LdV.s0 h61 (UnS.mk ?_)
  refine IxS.num hc1 hkl rfl rfl ?_
  refine IxS.set4 vp1.cs hxs rfl rfl ?_
  refine IxS.u8s (xs := w) (hw.le hle) rfl (by omega) (by omega) ?_
  intro v hv
  rw [Int.toNat_natCast] at hv
  have hwj : v = w[j] := by
    rw [List.getElem?_eq_getElem hj] at hv
    exact (Option.some.inj hv).symm
  subst hwj
  refine UnI.mk ?_
  have hlt256 : w[j].toNat < 256 := w[j].toNat_lt
  refine RHas_spec (f := p.sets[zs[k]]) hlt256 ?_
  intro m3 hle3
  dsimp only [Cont]
  refine UnB.mk ?_
  have hat : At (setsOf r) zs[k] w[j] ↔ p.sets[zs[k]] w[j].toNat = true := by
    unfold At
    rw [← ok.sets, List.getElem?_eq_getElem hxs]
    constructor
    · rintro ⟨S, h1, h2⟩; cases h1; exact h2
    · intro h; exact ⟨_, rfl, h⟩
  refine Br.mk (fun hb => ?_) (fun hb => ?_)
  · refine IxS.num (hc1.le hle3) hkl rfl rfl ?_
    refine push_one eInt (Own.le hle3 hown) (v := .int .i64 (zs[k] : Int)) rfl (by omega) (by decide) ?_
    intro a' c' m5 hch ho' hfr'
    refine UnS.mk ?_
    have el : (as_ ++ [zs[k]]).length = as_.length + 1 := by simp
    refine ⟨zs.length - (k + 1), by omega, rfl, rfl, rfl, rfl, rfl, rfl, rfl, rfl, rfl, rfl, rfl, k + 1, as_ ++ [zs[k]], ?_, by omega, rfl, el.symm, hch.to_le (hle.trans hle3) (fun b e => hfr b e), ?_, ?_, fun x => ?_, by rw [el]; omega⟩
    · rw [wi (by omega) (by omega)]; omega
    · rw [el, ns_snoc]; exact ho'
    · rcases hfr' with e2 | e2
      · intro b hb; rw [e2] at hb; exact hfr b hb
      · exact Fresh.le (hle.trans hle3) e2
    · rw [List.mem_append, hmem, htk, List.mem_append, List.mem_singleton]
      constructor
      · rintro (⟨h1, h2⟩ | rfl)
        · exact ⟨.inl h1, h2⟩
        · exact ⟨.inr rfl, hat.mpr hb⟩
      · rintro ⟨h1 | h1, h2⟩
        · exact .inl ⟨h1, h2⟩
        · exact .inr h1
  · refine ⟨zs.length - (k + 1), by omega, rfl, rfl, rfl, rfl, rfl, rfl, rfl, rfl, rfl, rfl, rfl, k + 1, as_, ?_, by omega, rfl, rfl, hle.trans hle3, Own.le hle3 hown, hfr, fun x => ?_, by omega⟩
    · rw [wi (by omega) (by omega)]; omega
    · rw [hmem, htk, List.mem_append, List.mem_singleton]
      constructor
      · rintro ⟨h1, h2⟩; exact ⟨.inl h1, h2⟩
      · rintro ⟨h1 | rfl, h2⟩
        · exact ⟨h1, h2⟩
        · rw [hat.mp h2] at hb; cases hb
end
theorem PlaceSpells_m {la : Option Addr} {c : Nat} {ps : List UInt8} {wa : Option Addr} {wc : Nat} {w : List UInt8} {m : Mem} (hc : CellsAt m la (u8s ps)) (hw : CellsAt m wa (u8s w)) : HC P eyotlaw10_PlaceSpells.id #[.slice la ps.length c, .slice wa w.length wc] m (Fine m) := by
  refine eyotlaw10_PlaceSpells.ok _ _ _ _ _ _ _ _ ?_
  refine begun_spec ?_
  intro m1 hle1
  dsimp only [Cont]
  refine UnB.mk ?_
  refine Br.f rfl ?_
  refine BrD (fun _ => ⟨rfl, hle1⟩) (fun hs => ?_)
  refine BrD (fun _ => ⟨rfl, hle1⟩) (fun hwl => ?_)
  refine made_rx (d := 3) hle1 hc (by omega) (by decide) ?_
  intro m3 a l c hle3 hv
  have hnod := prx_nodes 3 ps
  generalize (prx 3 ps).1 = r at hv hnod ⊢
  refine ContRx.mk ?_
  refine own6 ?_
  intro b5 m10 hb5 hle10 h10
  have hv10 := hv.le hle10
  have l10 := (hle1.trans hle3).trans hle10
  refine get6 h10 ?_
  refine Of_spec hv10 (by omega) ?_
  intro m11 A hle11 hp
  refine ContPl.mk ?_
  refine own5 ?_
  intro b6 m17 hb6 hle17 h17
  have u17 := hle11.trans hle17
  have l17 := l10.trans u17
  refine BrN (fun h0 => ⟨rfl, l17⟩) (fun h0 => ?_)
  have hm : may r = 0 := by
    by_cases e : may r = 0
    · exact e
    · rw [ofP_no e] at h0; exact h0
  rw [ofP_ok hm] at h17 hp
  change m17 b6 = some (Obj.cells (lO A (plc r)) T_place_Places (0, 0)) at h17
  change PlV m11 (plc r) A at hp
  have hf := (may_form hm).1
  have hcn := may_cnt hm
  have ok := plc_ok hf
  have vp := hp.le hle17
  generalize plc r = p at h17 hp vp ok
  refine LdV.s3 h17 (UnS.mk (LdV.s0 h17 (UnS.mk ?_)))
  refine BrNf (by rw [ok.len, ok.slen]) ?_
  refine LdV.s1 h17 (UnS.mk (LdV.s4 h17 (UnB.mk ?_)))
  let Q : Nat → Bool → Prop := fun j z => z = true ↔ (j = 0 ∧ null r = true) ∨ ∃ m q, j = m + 1 ∧ Rch w (At (setsOf r)) (Fo 0 r) (Fi 0 r) m q ∧ (∃ c, w[m]? = some c ∧ At (setsOf r) q c) ∧ La 0 r q
  refine ⟨fun N a1 a2 a3 a4 a5 a6 a7 n1 n2 n3 z t mm' => a1 = wa ∧ a2 = w.length ∧ a3 = wc ∧ a4 = b5 ∧ a5 = 0 ∧ a6 = b6 ∧ a7 = 0 ∧ ∃ (j : Nat) (zs : List Nat), t = (j : Int) ∧ j ≤ w.length ∧ N = w.length - j ∧ n2 = zs.length ∧ Le m17 mm' ∧ CellsAt mm' n1 (ints (ns zs)) ∧ zs.Nodup ∧ (∀ x, x ∈ zs ↔ Rch w (At (setsOf r)) (Fo 0 r) (Fi 0 r) j x) ∧ Q j z, w.length,
    ⟨rfl, rfl, rfl, rfl, rfl, rfl, rfl, 0, p.fi, rfl, by omega, by omega, rfl, Le.refl _, vp.cf, ok.rfi.nodup, fun x => ok.fi x, by show p.nu = true ↔ _; rw [ok.nu]; simp⟩, ?_⟩
  rintro N a1 a2 a3 a4 a5 a6 a7 n1 n2 n3 z t mm' ⟨rfl, rfl, rfl, rfl, rfl, rfl, rfl, j, zs, rfl, hj, rfl, rfl, hle, hcz, hnd, hmem, hQ⟩
  unfold eyotlaw10_PlaceSpells.l1B
  refine BrD (fun hlt => ?_) (fun hge => ?_)
  · have hjl : j < w.length := by omega
    have hzb : ∀ x ∈ zs, x < cnt r := by
      intro x hx
      have := (hmem x).mp hx
      cases j with
      | zero => have := ((bounds r 0).1 x this).2; omega
      | succ j =>
        obtain ⟨q, _, _, hfo⟩ := this
        have := ((bounds r 0).2.2 _ _ hfo).2.2
        omega
    have hwj : w[j]? = some w[j] := List.getElem?_eq_getElem hjl
    refine spell_l2 ok hcn (hle _ _ h17) (vp.le hle) ((hw.le l17).le hle) hjl (by omega) hcz hnd hzb ?_
    intro m' na' nc' zs' is' hle' hc' hmem' hnd' hz'
    refine ⟨w.length - (j + 1), by omega, rfl, rfl, rfl, rfl, rfl, rfl, rfl, j + 1, zs', ?_, by omega, rfl, rfl, hle.trans hle', hc', hnd', fun x => ?_, ?_⟩
    · rw [wi (by omega) (by omega)]; omega
    · rw [hmem']
      constructor
      · rintro ⟨q, h1, h2, h3⟩; exact ⟨q, (hmem q).mp h1, ⟨_, hwj, h2⟩, h3⟩
      · rintro ⟨q, h1, ⟨c, h2, h3⟩, h4⟩
        rw [hwj] at h2; cases h2
        exact ⟨q, (hmem q).mpr h1, h3, h4⟩
    · show is' = true ↔ _
      rw [hz']
      constructor
      · rintro ⟨q, h1, h2, h3⟩; exact .inr ⟨j, q, rfl, (hmem q).mp h1, ⟨_, hwj, h2⟩, h3⟩
      · rintro (⟨h, _⟩ | ⟨m', q, e, h1, ⟨c, h2, h3⟩, h4⟩)
        · omega
        · have e' : m' = j := by omega
          subst e'
          rw [hwj] at h2; cases h2
          exact ⟨q, (hmem q).mpr h1, h3, h4⟩
  · have e : j = w.length := by omega
    subst e
    unfold eyotlaw10_PlaceSpells.k7
    refine get6 ((u17.trans hle) _ _ h10) ?_
    refine RIn_spec (w := w) ((hv10.le u17).le hle) hf ((hw.le l17).le hle) (by omega) ?_
    intro m5 hle5
    dsimp only [Cont]
    refine UnB.mk ?_
    refine ⟨?_, (l17.trans hle).trans hle5⟩
    have hs := spells hm (w := w)
    have : z = isIn r w := by
      rw [Bool.eq_iff_iff, hs]
      have hQ' : z = true ↔ _ := hQ
      rw [hQ', List.length_eq_zero_iff]
    rw [this, ← mF_in hm]; simp
end Go.E.Pl
namespace Go.E
open Go.H Go.E.Rg Go.E.Pl
theorem PlaceSpells_arg {W : World} {v w : Value} (h : Arg P W T_sl_uint8 v) (h2 : Arg P W T_sl_uint8 w) : HC P eyotlaw10_PlaceSpells.id #[v, w] (heapM W) (Pl.Fine (heapM W)) := by
  obtain ⟨a, l, c, bs, rfl, hlc, hl2, _, hc⟩ := h.u8s (e := T_uint8) (by kernel_rfl) (by kernel_rfl)
  obtain ⟨a', l', c', bs', rfl, hlc', hl2', _, hc'⟩ := h2.u8s (e := T_uint8) (by kernel_rfl) (by kernel_rfl)
  have e : (bs.take l).length = l := by rw [List.length_take]; omega
  have e' : (bs'.take l').length = l' := by rw [List.length_take]; omega
  have := PlaceSpells_m (c := c) (wc := c') hc hc'
  rw [e, e'] at this
  exact this
end Go.E
