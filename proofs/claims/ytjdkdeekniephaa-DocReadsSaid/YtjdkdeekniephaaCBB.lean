/- The cache as an object: values of one kind. -/
import Derived.Test.YtjdkdeekniephaaCAB
set_option linter.unusedVariables false
set_option maxRecDepth 20000
set_option linter.unusedSimpArgs false
namespace Go.E.ZB
open Go.H Go.E
attribute [local irreducible] BiN MkS ConvN LookN MapUpN CallV HC

/-- A *Cache: its block, most, its entries. -/
structure Ca (m : Mem) (F : Nat → Prop) (bc : Nat) (most : Int) (es : List (Int × A)) : Prop where
  ex : ∃ la lc, m bc = some (.cells #[.int .i64 most, .slice la es.length lc] T_lru_Cache_byte (0, 0)) ∧ Own m T_lru_entry_byte 2 la es.length lc (ents es) ∧ F bc ∧ ∀ b, blk la = some b → F b
  lv : ∀ b, F b → m b ≠ none
section
variable {m m' : Mem} {F : Nat → Prop} {bc : Nat} {most : Int} {es : List (Int × A)}
theorem Ca.le (h : Le m m') (k : Ca m F bc most es) : Ca m' F bc most es := by
  obtain ⟨⟨la, lc, h1, h2, h3, h4⟩, lv⟩ := k
  exact ⟨⟨la, lc, h _ _ h1, Own.le h h2, h3, h4⟩, fun b hb => h.live (lv b hb)⟩
theorem Ca.chg {S : Nat → Prop} (h : Chg S m m') (k : Ca m F bc most es) (hn : ∀ b, F b → ¬ S b) : Ca m' F bc most es := by
  obtain ⟨⟨la, lc, h1, h2, h3, h4⟩, lv⟩ := k
  exact ⟨⟨la, lc, h.eq _ _ h1 (hn _ h3), h2.chg h (fun b e => hn _ (h4 b e)), h3, h4⟩, fun b hb => h.live b (lv b hb)⟩
/-- Another row. -/
theorem Ca.store (h : Ca m F bc most es) {m1 : Mem} (hch : Chg F m m1) {es0 es' : List (Int × A)} {la0 : Option Addr} {lc0 : Nat} (hb : m1 bc = some (.cells #[.int .i64 most, .slice la0 es0.length lc0] T_lru_Cache_byte (0, 0))) {la : Option Addr} {lc : Nat} (ho : Own m1 T_lru_entry_byte 2 la es'.length lc (ents es')) (hl : ∀ b, blk la = some b → F b ∨ m b = none) {K : Mem → Prop}
    (k : ∀ F' m', Chg F m m' → (∀ b, F' b → F b ∨ m b = none) → Ca m' F' bc most es' → K m') : St1 m1 bc (0 + 1) (.slice la es'.length lc) K := by
  obtain ⟨⟨la1, lc1, h1, h2, h3, h4⟩, lv⟩ := h
  refine St1.to #[.int .i64 most, .slice la es'.length lc] (o := 0 + 1) hb (by simp) rfl rfl ?_
  have hc := Chg.set m1 bc (.cells #[.int .i64 most, .slice la es'.length lc] T_lru_Cache_byte (0, 0))
  have hn : blk la ≠ some bc := own_ne ho hb (by decide)
  have ho' := ho.chg hc (fun b e hb => hn (hb ▸ e))
  refine k (fun b => b = bc ∨ blk la = some b) _ (hch.trans hc (fun b _ e => e ▸ h3)) ?_ ⟨⟨la, lc, set_same _ _ _, ho', .inl rfl, fun b e => .inr e⟩, ?_⟩
  · rintro b (rfl | e)
    · exact .inl h3
    · exact hl b e
  · rintro b (rfl | e)
    · rw [set_same]; simp
    · exact ho'.live b e

theorem at_nil {k : Int} {R : Ending → Mem → Prop} (h : ∀ m', Le m m' → R (.returned (.int .i64 (-1))) m') : HC P lru_Cache_s_byte_at.id #[.pointer none, .int .i64 k] m R := by
  refine lru_Cache_s_byte_at.ok _ _ _ _ ?_
  intro b hb
  exact Br.t rfl (h _ (Le.set hb _))
theorem at_spec (h : Ca m F bc most es) (hll : es.length ≤ 10000) {k : Int} {R : Ending → Mem → Prop} (r : ∀ m', Le m m' → R (.returned (.int .i64 (ixI (ixF k es 0)))) m') : HC P lru_Cache_s_byte_at.id #[.pointer (some ⟨bc, 0, none⟩), .int .i64 k] m R := by
  obtain ⟨⟨la, lc, h1, h2, h3, h4⟩, lv⟩ := h
  refine lru_Cache_s_byte_at.ok _ _ _ _ ?_
  intro b hb
  have hle := Le.set hb (.cells #[.int .i64 k] T_int (0, 0))
  refine Br.f rfl ?_
  refine LdV.s1 (hle _ _ h1) ?_
  refine idx_spec (h2.cells.le hle) rfl (by omega) (set_same _ _ _) ?_
  intro m' hle'
  exact r m' (hle.trans hle')
theorem front_spec (h : Ca m F bc most es) (hll : es.length ≤ 9000) (x : Int × A) {R : Ending → Mem → Prop}
    (k : ∀ F' m', Chg F m m' → (∀ b, F' b → F b ∨ m b = none) → Ca m' F' bc most (x :: es) → R (.returned (.tuple #[])) m') : HC P lru_Cache_s_byte_front.id #[.pointer (some ⟨bc, 0, none⟩), .agg (vf x).toArray] m R := by
  have h' := h
  obtain ⟨⟨la, lc, h1, h2, h3, h4⟩, lv⟩ := h
  obtain ⟨x, va, vl, vc⟩ := x
  refine lru_Cache_s_byte_front.ok _ _ _ _ _ _ _ ?_
  intro b3 hb3
  have hle1 := Le.set hb3 (.cells (vf (x, va, vl, vc)).toArray T_lru_entry_byte (0, 0))
  refine ⟨m, hle1, ?_⟩
  refine LdV.s1 h1 ?_
  refine LdV.s0 (set_same _ _ _) ?_
  refine LdV.s1 (set_same _ _ _) ?_
  intro b10 hb10
  have hle2 := hle1.trans (Le.set hb10 (.cells (vf (x, va, vl, vc)).toArray T_lru_entry_byte (0, 0)))
  refine ⟨m, Le.refl _, hle2, ?_⟩
  have hm10 : m b10 = none := hle1.new hb10
  refine insert_spec (x := (x, va, vl, vc)) (h2.le hle2) rfl (by omega) (set_same _ _ _) (fun e => h2.live b10 e hm10) ?_
  intro a' c' m' hch ho hb
  have hla : ∀ b, blk la = some b → F b := h4
  have hch' : Chg F m m' := (hle2.chg F).trans hch (fun b _ e => h4 b e)
  have hbc : blk la ≠ some bc := own_ne h2 h1 (by decide)
  refine h'.store (es' := (x, va, vl, vc) :: es) hch' (hch.eq bc _ (hle2 _ _ h1) (fun e => hbc e)) ho ?_ k
  intro b e
  rcases hb with hb | hb
  · exact .inl (h4 b (hb ▸ e))
  · exact .inr (hle2.new (hb b e))

theorem Drop_nil {k : Int} {R : Ending → Mem → Prop} (h : ∀ m', Le m m' → R (.returned (.bool false)) m') : HC P lru_Cache_s_byte_Drop.id #[.pointer none, .int .i64 k] m R := by
  refine lru_Cache_s_byte_Drop.ok _ _ _ _ ?_
  refine at_nil ?_
  intro m' hle
  exact BrDt (by decide) (h m' hle)
theorem Drop_spec (h : Ca m F bc most es) (hll : es.length ≤ 9000) (k : Int) {R : Ending → Mem → Prop}
    (r : ∀ F' m', Chg F m m' → (∀ b, F' b → F b ∨ m b = none) → Ca m' F' bc most (dropL k es) → R (.returned (.bool (ixF k es 0).isSome)) m') : HC P lru_Cache_s_byte_Drop.id #[.pointer (some ⟨bc, 0, none⟩), .int .i64 k] m R := by
  refine lru_Cache_s_byte_Drop.ok _ _ _ _ ?_
  refine at_spec h (by omega) ?_
  intro m1 hle1
  cases hx : ixF k es 0 with
  | none =>
    refine BrDt (by decide) ?_
    have := r F m1 (hle1.chg _) (fun b hb => .inl hb) (by unfold dropL; rw [hx]; exact h.le hle1)
    rw [hx] at this
    exact this
  | some i =>
    obtain ⟨_, hi2, _⟩ := ixF_some hx
    refine BrDf (p := ((i : Nat) : Int) < 0) (by omega) ?_
    have h' := h.le hle1
    have h'' := h'
    obtain ⟨⟨la, lc, h1, h2, h3, h4⟩, lv⟩ := h''
    refine LdV.s1 h1 ?_
    show HC P slices_Delete_s_lru_entry_s_byte_lru_entry_s_byte.id #[.slice la es.length lc, .int .i64 (i : Int), .int .i64 (IntKind.i64.wrap ((i : Int) + 1))] m1 _
    rw [wi (n := (i : Int) + 1) (by omega) (by omega)]
    refine delete_spec h2 rfl (by omega) (by omega) ?_
    intro m2 hch ho
    have hbc : blk la ≠ some bc := own_ne h2 h1 (by decide)
    have hdl : dropL k es = es.eraseIdx i := by unfold dropL; rw [hx]
    have hlen : es.length - 1 = (dropL k es).length := by rw [hdl, List.length_eraseIdx_of_lt (by omega)]
    rw [← hdl, hlen] at ho
    rw [hlen]
    have hch' : Chg F m1 m2 := hch.mono (fun b e => h4 b e)
    refine h'.store (es' := dropL k es) hch' (hch.eq bc _ h1 (fun e => hbc e)) ho (fun b e => .inl (h4 b e)) ?_
    intro F' m' hc hF hca
    have := r F' m' ((hle1.chg F).trans hc (fun _ _ h => h)) (fun b hb => (hF b hb).imp id hle1.new) hca
    rw [hx] at this
    exact this
theorem Get_nil {k : Int} {R : Ending → Mem → Prop} (h : ∀ m', Le m m' → R (.returned (.tuple #[.slice none 0 0, .bool false])) m') : HC P lru_Cache_s_byte_Get.id #[.pointer none, .int .i64 k] m R := by
  refine lru_Cache_s_byte_Get.ok _ _ _ _ ?_
  refine at_nil ?_
  intro m' hle
  exact BrDt (by decide) (h m' hle)
theorem Get_none (h : Ca m F bc most es) (hll : es.length ≤ 9000) {k : Int} (hk : ixF k es 0 = none) {R : Ending → Mem → Prop} (r : ∀ m', Le m m' → R (.returned (.tuple #[.slice none 0 0, .bool false])) m') : HC P lru_Cache_s_byte_Get.id #[.pointer (some ⟨bc, 0, none⟩), .int .i64 k] m R := by
  refine lru_Cache_s_byte_Get.ok _ _ _ _ ?_
  refine at_spec h (by omega) ?_
  intro m1 hle1
  rw [hk]
  exact BrDt (by decide) (r m1 hle1)
theorem Get_some (h : Ca m F bc most es) (hll : es.length ≤ 9000) {k : Int} {i : Nat} {x : Int × A} (hk : ixF k es 0 = some i) (hx : es[i]? = some x) {R : Ending → Mem → Prop}
    (r : ∀ F' m', Chg F m m' → (∀ b, F' b → F b ∨ m b = none) → Ca m' F' bc most (getL k es) → R (.returned (.tuple #[.slice x.2.1 x.2.2.1 x.2.2.2, .bool true])) m') : HC P lru_Cache_s_byte_Get.id #[.pointer (some ⟨bc, 0, none⟩), .int .i64 k] m R := by
  obtain ⟨_, hi2, _⟩ := ixF_some hk
  refine lru_Cache_s_byte_Get.ok _ _ _ _ ?_
  refine at_spec h (by omega) ?_
  intro m1 hle1
  rw [hk]
  refine BrDf (p := ((i : Nat) : Int) < 0) (by omega) ?_
  have h1 := h.le hle1
  have h1' := h1
  obtain ⟨⟨la, lc, g1, g2, g3, g4⟩, lv⟩ := h1'
  refine LdV.s1 g1 ?_
  refine IxS.rows vlen (by decide) g2.cells rfl (i := ((i : Nat) : Int)) (by omega) (by omega) ?_
  intro b o y hy hc
  rw [Int.toNat_natCast, hx] at hy
  cases hy
  refine LdV.mk (hc 0 _ rfl) ?_
  refine LdV.mk (hc 1 _ rfl) ?_
  intro b8 hb8
  refine St1.two (set_same _ _ _) rfl rfl ?_
  rw [set_set]
  have hle2 := Le.set hb8 (.cells (vf x).toArray T_lru_entry_byte (0, 0))
  have hb8' := set_same m1 b8 (.cells (vf x).toArray T_lru_entry_byte (0, 0))
  have h2 := h1.le hle2
  have h8F : ¬ F b8 := fun e => h1.lv b8 e hb8
  refine LdV.s1 (hle2 _ _ g1) (UnS.mk ?_)
  show HC P slices_Delete_s_lru_entry_s_byte_lru_entry_s_byte.id #[.slice la es.length lc, .int .i64 (i : Int), .int .i64 (IntKind.i64.wrap ((i : Int) + 1))] (m1.set b8 (.cells (vf x).toArray T_lru_entry_byte (0, 0))) _
  rw [wi (n := (i : Int) + 1) (by omega) (by omega)]
  refine delete_spec (g2.le hle2) rfl (by omega) (by omega) ?_
  intro m5 hch ho
  have hbc : blk la ≠ some bc := own_ne g2 g1 (by decide)
  have hlen : es.length - 1 = (es.eraseIdx i).length := by rw [List.length_eraseIdx_of_lt (by omega)]
  rw [hlen] at ho ⊢
  have hch' : Chg F (m1.set b8 (.cells (vf x).toArray T_lru_entry_byte (0, 0))) m5 := hch.mono (fun b e => g4 b e)
  refine h2.store (es' := es.eraseIdx i) hch' (hch.eq bc _ (hle2 _ _ g1) (fun e => hbc e)) ho (fun b e => .inl (g4 b e)) ?_
  intro F6 m6 hch6 hF6 hca6
  have hb6 := hch6.eq b8 _ hb8' h8F
  refine LdV.s0 hb6 ?_
  refine LdV.s1 hb6 ?_
  refine front_spec hca6 (by rw [← hlen]; omega) x ?_
  intro F7 m7 hch7 hF7 hca7
  have h8F6 : ¬ F6 b8 := fun e => by
    rcases hF6 b8 e with e | e
    · exact h8F e
    · rw [hb8'] at e; cases e
  refine LdV.s1 (hch7.eq b8 _ hb6 h8F6) ?_
  have hg : getL k es = x :: es.eraseIdx i := by unfold getL; rw [hk]; simp only [hx]
  rw [← hg] at hca7
  refine r F7 m7 ?_ ?_ hca7
  · have h12 := (hle1.trans hle2).chg F
    refine (h12.trans hch6 (fun _ _ h => h)).trans hch7 (fun b hb hf => ?_)
    rcases hF6 b hf with e | e
    · exact e
    · exact absurd ((hle1.trans hle2).new e) hb
  · intro b hb
    rcases hF7 b hb with e | e
    · rcases hF6 b e with e | e
      · exact .inl e
      · exact .inr ((hle1.trans hle2).new e)
    · exact .inr (((hle1.trans hle2).chg F).new (hch6.new e))
theorem Put_nil {k : Int} {v : A} {R : Ending → Mem → Prop} (h : R (.returned (.tuple #[.int .i64 0, .bool false])) m) : HC P lru_Cache_s_byte_Put.id #[.pointer none, .int .i64 k, .slice v.1 v.2.1 v.2.2] m R := by
  refine lru_Cache_s_byte_Put.ok _ _ _ _ _ _ _ ?_
  exact Br.t rfl h
theorem Put_spec (h : Ca m F bc most es) (hll : es.length ≤ 8000) (k : Int) (v : A) {R : Ending → Mem → Prop}
    (r : ∀ F' m', Chg F m m' → (∀ b, F' b → F b ∨ m b = none) → Ca m' F' bc most (putL most k v es) → R (.returned (.tuple #[.int .i64 (goneL most k v es).1, .bool (goneL most k v es).2])) m') : HC P lru_Cache_s_byte_Put.id #[.pointer (some ⟨bc, 0, none⟩), .int .i64 k, .slice v.1 v.2.1 v.2.2] m R := by
  refine lru_Cache_s_byte_Put.ok _ _ _ _ _ _ _ ?_
  refine Br.f rfl ?_
  refine Drop_spec h (by omega) k ?_
  intro F1 m1 hch1 hF1 h1
  have hdl := dropL_len k es
  refine front_spec h1 (by omega) (k, v) ?_
  intro F2 m2 hch2 hF2 h2
  have hch02 : Chg F m m2 := hch1.trans hch2 (fun b hb hf => (hF1 b hf).elim id (fun e => absurd e hb))
  have hF02 : ∀ b, F2 b → F b ∨ m b = none := fun b hb => (hF2 b hb).elim (fun e => hF1 b e) (fun e => .inr (hch1.new e))
  have h2' := h2
  obtain ⟨⟨la, lc, g1, g2, g3, g4⟩, lv⟩ := h2'
  refine LdV.s1 g1 (UnS.mk ?_)
  refine LdV.s0 g1 (UnI.mk ?_)
  have hcl : ((k, v) :: dropL k es).length = (dropL k es).length + 1 := rfl
  rw [wi (n := (((k, v) :: dropL k es).length : Nat) - 1) (by omega) (by omega)]
  have hmx : (if 1 > most then 1 else most) = max most 1 := by split <;> omega
  rw [hmx]
  refine BrD (fun hlt => ?_) (fun hge => ?_)
  · have hc : ((((k, v) :: dropL k es).length : Nat) : Int) ≤ max most 1 := by omega
    have := r F2 m2 hch02 hF02 (by unfold putL; rw [if_pos hc]; exact h2)
    unfold goneL at this
    rw [if_pos hc] at this
    exact this
  · have hc : ¬ ((((k, v) :: dropL k es).length : Nat) : Int) ≤ max most 1 := by omega
    refine LdV.s1 g1 ?_
    refine IxS.rows vlen (by decide) g2.cells rfl (by omega) (by omega) ?_
    intro b o y hy hcy
    refine LdV.mk (hcy 0 _ rfl) ?_
    refine LdV.s1 g1 ?_
    refine ⟨by omega, by omega, by have := g2.cap; omega, ?_⟩
    have hlast : ((k, v) :: dropL k es).getLast (by simp) = y := by
      rw [List.getLast_eq_getElem]
      have e : (((((k, v) :: dropL k es).length : Nat) : Int) - 1).toNat = ((k, v) :: dropL k es).length - 1 := by omega
      rw [e, List.getElem?_eq_getElem (by rw [hcl]; omega)] at hy
      exact Option.some.inj hy
    have hshf : shf la (0 : Int).toNat 2 lc = la := by
      obtain ⟨_, hx⟩ := g2
      rcases hx with ⟨rfl, _⟩ | ⟨b, _, rfl, _⟩
      · unfold shf; split <;> rfl
      · exact shf0 _ _ _ _
    rw [hshf]
    have e1 : (((((k, v) :: dropL k es).length : Nat) : Int) - 1).toNat - (0 : Int).toNat = ((k, v) :: dropL k es).dropLast.length := by rw [List.length_dropLast]; omega
    have e2 : lc - (0 : Int).toNat = lc := by omega
    rw [e1, e2]
    have ho : Own m2 T_lru_entry_byte 2 la ((k, v) :: dropL k es).dropLast.length lc (ents ((k, v) :: dropL k es).dropLast) := by
      have hdl2 : ((k, v) :: dropL k es).dropLast = ((k, v) :: dropL k es).take (dropL k es).length := by rw [List.dropLast_eq_take]; rfl
      have hr := rows_take vlen ((k, v) :: dropL k es) (dropL k es).length
      have hr : ents (((k, v) :: dropL k es).take (dropL k es).length) = (ents ((k, v) :: dropL k es)).take ((dropL k es).length * 2) := hr.symm
      have hl3 : ((k, v) :: dropL k es).dropLast.length = (dropL k es).length := by rw [List.length_dropLast]; rfl
      rw [hl3, hdl2, hr]
      exact g2.take (by rw [hcl]; omega)
    refine h2.store (es' := ((k, v) :: dropL k es).dropLast) (Chg.refl _ _) g1 ho (fun b e => .inl (g4 b e)) ?_
    intro F3 m3 hch3 hF3 h3
    have := r F3 m3 (hch02.trans hch3 (fun b hb hf => (hF02 b hf).elim id (fun e => absurd e hb))) (fun b hb => (hF3 b hb).elim (hF02 b) (fun e => .inr (hch02.new e))) (by unfold putL; rw [if_neg hc]; exact h3)
    unfold goneL at this
    rw [if_neg hc, hlast] at this
    exact this
theorem New_spec {n : Int} {R : Ending → Mem → Prop} (h : ∀ bc F m', Le m m' → (∀ b, F b → m b = none) → Ca m' F bc n [] → R (.returned (.pointer (some ⟨bc, 0, none⟩))) m') : HC P lru_New_s_byte.id #[.int .i64 n] m R := by
  refine lru_New_s_byte.ok _ _ _ ?_
  intro b hb
  refine h b (fun k => k = b) _ (Le.set hb _) (by rintro k rfl; exact hb) ⟨⟨none, 0, set_same _ _ _, Own.nil _ _ _, rfl, fun b e => by cases e⟩, ?_⟩
  rintro k rfl; rw [set_same]; simp
end
end Go.E.ZB
