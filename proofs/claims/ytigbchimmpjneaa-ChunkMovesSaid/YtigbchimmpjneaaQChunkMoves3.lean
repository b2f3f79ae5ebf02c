/- This project's own logic, printed forms and lemmas, as far as this claim needs them (part 3). -/
import Derived.Test.YtigbchimmpjneaaQChunkMoves2
set_option linter.unusedVariables false
set_option maxRecDepth 20000
set_option linter.unusedSimpArgs false
namespace Go.E.ZK
open Go.H Go.E
attribute [local irreducible] BiN MkS ConvN LookN MapUpN CallV HC
/-- A *Cache: its block, most, its entries. -/
structure Ca (m : Mem) (F : Nat → Prop) (bc : Nat) (most : Int) (es : List (Int × A)) : Prop where
  ex : ∃ la lc, m bc = some (.cells #[.int .i64 most, .slice la es.length lc] T_lru_Cache_chunk_Chunk (0, 0)) ∧ Own m T_lru_entry_chunk_Chunk 4 la es.length lc (ents es) ∧ F bc ∧ ∀ b, blk la = some b → F b
  lv : ∀ b, F b → m b ≠ none
section
variable {m m' : Mem} {F : Nat → Prop} {bc : Nat} {most : Int} {es : List (Int × A)}
theorem Ca.le (h : Le m m') (k : Ca m F bc most es) : Ca m' F bc most es := by
  obtain ⟨⟨la, lc, h1, h2, h3, h4⟩, lv⟩ := k
  exact ⟨⟨la, lc, h _ _ h1, Own.le h h2, h3, h4⟩, fun b hb => h.live (lv b hb)⟩
theorem Ca.chg {S : Nat → Prop} (h : Chg S m m') (k : Ca m F bc most es) (hn : ∀ b, F b → ¬ S b) : Ca m' F bc most es := by
  obtain ⟨⟨la, lc, h1, h2, h3, h4⟩, lv⟩ := k
  exact ⟨⟨la, lc, h.eq _ _ h1 (hn _ h3), h2.chg h (fun b e => hn _ (h4 b e)), h3, h4⟩, fun b hb => h.live b (lv b hb)⟩
/-- Another row. -/
theorem Ca.store (h : Ca m F bc most es) {m1 : Mem} (hch : Chg F m m1) {es0 es' : List (Int × A)} {la0 : Option Addr} {lc0 : Nat} (hb : m1 bc = some (.cells #[.int .i64 most, .slice la0 es0.length lc0] T_lru_Cache_chunk_Chunk (0, 0))) {la : Option Addr} {lc : Nat} (ho : Own m1 T_lru_entry_chunk_Chunk 4 la es'.length lc (ents es')) (hl : ∀ b, blk la = some b → F b ∨ m b = none) {K : Mem → Prop}
    (k : ∀ F' m', Chg F m m' → (∀ b, F' b → F b ∨ m b = none) → Ca m' F' bc most es' → K m') : St1 m1 bc (0 + 1) (.slice la es'.length lc) K := by
  obtain ⟨⟨la1, lc1, h1, h2, h3, h4⟩, lv⟩ := h
  refine St1.to #[.int .i64 most, .slice la es'.length lc] (o := 0 + 1) hb (by simp) rfl rfl ?_
  have hc := Chg.set m1 bc (.cells #[.int .i64 most, .slice la es'.length lc] T_lru_Cache_chunk_Chunk (0, 0))
  have hn : blk la ≠ some bc := own_ne ho hb (by decide)
  have ho' := ho.chg hc (fun b e hb => hn (hb ▸ e))
  refine k (fun b => b = bc ∨ blk la = some b) _ (hch.trans hc (fun b _ e => e ▸ h3)) ?_ ⟨⟨la, lc, set_same _ _ _, ho', .inl rfl, fun b e => .inr e⟩, ?_⟩
  · rintro b (rfl | e)
    · exact .inl h3
    · exact hl b e
  · rintro b (rfl | e)
    · rw [set_same]; simp
    · exact ho'.live b e
theorem at_spec (h : Ca m F bc most es) (hll : es.length ≤ 10000) {k : Int} {R : Ending → Mem → Prop} (r : ∀ m', Le m m' → R (.returned (.int .i64 (ixI (ixF k es 0)))) m') : HC P lru_Cache_chunk_Chunk_at.id #[.pointer (some ⟨bc, 0, none⟩), .int .i64 k] m R := by
  obtain ⟨⟨la, lc, h1, h2, h3, h4⟩, lv⟩ := h
  refine lru_Cache_chunk_Chunk_at.ok _ _ _ _ ?_
  intro b hb
  have hle := Le.set hb (.cells #[.int .i64 k] T_int (0, 0))
  refine Br.f rfl ?_
  refine LdV.s1 (hle _ _ h1) ?_
  refine idx_spec (h2.cells.le hle) rfl (by omega) (set_same _ _ _) ?_
  intro m' hle'
  exact r m' (hle.trans hle')
theorem front_spec (h : Ca m F bc most es) (hll : es.length ≤ 9000) (x : Int × A) {R : Ending → Mem → Prop}
    (k : ∀ F' m', Chg F m m' → (∀ b, F' b → F b ∨ m b = none) → Ca m' F' bc most (x :: es) → R (.returned (.tuple #[])) m') : HC P lru_Cache_chunk_Chunk_front.id #[.pointer (some ⟨bc, 0, none⟩), .agg (vf x).toArray] m R := by
  have h' := h
  obtain ⟨⟨la, lc, h1, h2, h3, h4⟩, lv⟩ := h
  obtain ⟨x, v, w, va, vl, vc⟩ := x
  refine lru_Cache_chunk_Chunk_front.ok _ _ _ _ _ _ _ _ _ ?_
  intro b3 hb3
  have hle1 := Le.set hb3 (.cells (vf (x, v, w, va, vl, vc)).toArray T_lru_entry_chunk_Chunk (0, 0))
  refine ⟨m, hle1, ?_⟩
  refine LdV.s1 h1 ?_
  refine LdV.s0 (set_same _ _ _) ?_
  refine LdV.s1 (set_same _ _ _) ?_
  refine LdV.s2 (set_same _ _ _) ?_
  refine LdV.s3 (set_same _ _ _) ?_
  intro b10 hb10
  have hle2 := hle1.trans (Le.set hb10 (.cells (vf (x, v, w, va, vl, vc)).toArray T_lru_entry_chunk_Chunk (0, 0)))
  refine ⟨m, Le.refl _, hle2, ?_⟩
  have hm10 : m b10 = none := hle1.new hb10
  refine insert_spec (x := (x, v, w, va, vl, vc)) (h2.le hle2) rfl (by omega) (set_same _ _ _) (fun e => h2.live b10 e hm10) ?_
  intro a' c' m' hch ho hb
  have hla : ∀ b, blk la = some b → F b := h4
  have hch' : Chg F m m' := (hle2.chg F).trans hch (fun b _ e => h4 b e)
  have hbc : blk la ≠ some bc := own_ne h2 h1 (by decide)
  refine h'.store (es' := (x, v, w, va, vl, vc) :: es) hch' (hch.eq bc _ (hle2 _ _ h1) (fun e => hbc e)) ho ?_ k
  intro b e
  rcases hb with hb | hb
  · exact .inl (h4 b (hb ▸ e))
  · exact .inr (hle2.new (hb b e))
theorem Drop_spec (h : Ca m F bc most es) (hll : es.length ≤ 9000) (k : Int) {R : Ending → Mem → Prop}
    (r : ∀ F' m', Chg F m m' → (∀ b, F' b → F b ∨ m b = none) → Ca m' F' bc most (dropL k es) → R (.returned (.bool (ixF k es 0).isSome)) m') : HC P lru_Cache_chunk_Chunk_Drop.id #[.pointer (some ⟨bc, 0, none⟩), .int .i64 k] m R := by
  refine lru_Cache_chunk_Chunk_Drop.ok _ _ _ _ ?_
  refine at_spec h (by omega) ?_
  intro m1 hle1
  cases hx : ixF k es 0 with
  | none =>
    refine BrDt (by decide) ?_
    have := r F m1 (hle1.chg _) (fun b hb => .inl hb) (by unfold dropL; rw [hx]; exact h.le hle1)
    rw [hx] at this
    exact this
  | some i =>
    obtain ⟨_, hi2, _⟩ := ixF_some hx
    refine BrDf (p := ((i : Nat) : Int) < 0) (by omega) ?_
    have h' := h.le hle1
    have h'' := h'
    obtain ⟨⟨la, lc, h1, h2, h3, h4⟩, lv⟩ := h''
    refine LdV.s1 h1 ?_
    show HC P slices_Delete_s_lru_entry_chunk_Chunk_lru_entry_chunk_Chunk.id #[.slice la es.length lc, .int .i64 (i : Int), .int .i64 (IntKind.i64.wrap ((i : Int) + 1))] m1 _
    rw [wi (n := (i : Int) + 1) (by omega) (by omega)]
    refine delete_spec h2 rfl (by omega) (by omega) ?_
    intro m2 hch ho
    have hbc : blk la ≠ some bc := own_ne h2 h1 (by decide)
    have hdl : dropL k es = es.eraseIdx i := by unfold dropL; rw [hx]
    have hlen : es.length - 1 = (dropL k es).length := by rw [hdl, List.length_eraseIdx_of_lt (by omega)]
    rw [← hdl, hlen] at ho
    rw [hlen]
    have hch' : Chg F m1 m2 := hch.mono (fun b e => h4 b e)
    refine h'.store (es' := dropL k es) hch' (hch.eq bc _ h1 (fun e => hbc e)) ho (fun b e => .inl (h4 b e)) ?_
    intro F' m' hc hF hca
    have := r F' m' ((hle1.chg F).trans hc (fun _ _ h => h)) (fun b hb => (hF b hb).imp id hle1.new) hca
    rw [hx] at this
    exact this
theorem Keys_spec (h : Ca m F bc most es) (hll : es.length ≤ 9000) {R : Ending → Mem → Prop}
    (r : ∀ a' c' m', Le m m' → Own m' T_int 1 a' es.length c' (ints (es.map (·.1))) → Fresh m a' → R (.returned (.slice a' es.length c')) m') : HC P lru_Cache_chunk_Chunk_Keys.id #[.pointer (some ⟨bc, 0, none⟩)] m R := by
  obtain ⟨⟨la, lc, h1, h2, h3, h4⟩, lv⟩ := h
  refine lru_Cache_chunk_Chunk_Keys.ok _ _ _ ?_
  refine Br.f rfl ?_
  refine LdV.s1 h1 ?_
  refine ⟨fun N oa ol oc a l c x12 i mm => a = la ∧ l = es.length ∧ c = lc ∧ x12 = (es.length : Nat) ∧ Le m mm ∧ Fresh m oa ∧ ∃ j : Nat, i = j ∧ j ≤ es.length ∧ j = ol ∧ N = es.length - j ∧ Own mm T_int 1 oa ol oc (ints ((es.take j).map (·.1))), es.length, ⟨rfl, rfl, rfl, rfl, Le.refl _, Fresh.none _, 0, rfl, by omega, rfl, by omega, by simpa [ints] using Own.nil m T_int 1⟩, ?_⟩
  rintro N oa ol oc a l c x12 i mm ⟨rfl, rfl, rfl, rfl, hle, hf, j, rfl, hj, rfl, rfl, ho⟩
  refine BrD (fun hlt => ?_) (fun hge => ?_)
  rotate_left
  · have e : j = es.length := by omega
    subst e
    rw [List.take_length] at ho
    exact r oa oc mm hle ho hf
  refine IxS.rows vlen (by decide) (h2.cells.le hle) rfl (by omega) (by omega) ?_
  intro b o x hx hc
  rw [Int.toNat_natCast] at hx
  refine LdV.mk (hc 0 _ rfl) ?_
  refine LdV.mk (hc 1 _ rfl) ?_
  refine LdV.mk (hc 2 _ rfl) ?_
  refine LdV.mk (hc 3 _ rfl) ?_
  intro b5 hb5
  refine St1.four (set_same _ _ _) rfl rfl rfl rfl ?_
  rw [set_set]
  have hle2 := Le.set hb5 (.cells (vf x).toArray T_lru_entry_chunk_Chunk (0, 0))
  refine LdV.s0 (set_same _ _ _) ?_
  refine push_one eInt (ho.le hle2) (v := .int .i64 x.1) rfl (by omega) (by decide) ?_
  intro a' c' m' hch ho' hb'
  refine ⟨es.length - (j + 1), by omega, rfl, rfl, rfl, rfl, hch.to_le (hle.trans hle2) hf, ?_, j + 1, ?_, by omega, rfl, rfl, ?_⟩
  · rcases hb' with e | e
    · intro b hb; exact hf b (e ▸ hb)
    · exact Fresh.le (hle.trans hle2) e
  · rw [wi (by omega) (by omega)]; omega
  · rw [List.take_add_one, hx, List.map_append]
    unfold ints at ho' ⊢
    rw [List.map_append]
    exact ho'
theorem Get_some (h : Ca m F bc most es) (hll : es.length ≤ 9000) {k : Int} {i : Nat} {x : Int × A} (hk : ixF k es 0 = some i) (hx : es[i]? = some x) {R : Ending → Mem → Prop}
    (r : ∀ F' m', Chg F m m' → (∀ b, F' b → F b ∨ m b = none) → Ca m' F' bc most (getL k es) → R (.returned (.tuple #[.agg #[.int .i64 x.2.1, .int .i64 x.2.2.1, .slice x.2.2.2.1 x.2.2.2.2.1 x.2.2.2.2.2], .bool true])) m') : HC P lru_Cache_chunk_Chunk_Get.id #[.pointer (some ⟨bc, 0, none⟩), .int .i64 k] m R := by
  obtain ⟨_, hi2, _⟩ := ixF_some hk
  refine lru_Cache_chunk_Chunk_Get.ok _ _ _ _ ?_
  intro b4 hb4
  have hle0 := Le.set hb4 (.cells #[.int .i64 0, .int .i64 0, .slice none 0 0] T_chunk_Chunk (0, 0))
  have hb4' := set_same m b4 (.cells #[.int .i64 0, .int .i64 0, .slice none 0 0] T_chunk_Chunk (0, 0))
  have h4F : ¬ F b4 := fun e => h.lv b4 e hb4
  refine at_spec (h.le hle0) (by omega) ?_
  intro m1 hle01
  rw [hk]
  refine BrDf (p := ((i : Nat) : Int) < 0) (by omega) ?_
  have hle1 := hle0.trans hle01
  have h1 := h.le hle1
  have hb41 := hle01 _ _ hb4'
  have h1' := h1
  obtain ⟨⟨la, lc, g1, g2, g3, g4⟩, lv⟩ := h1'
  refine LdV.s1 g1 ?_
  refine IxS.rows vlen (by decide) g2.cells rfl (i := ((i : Nat) : Int)) (by omega) (by omega) ?_
  intro b o y hy hc
  rw [Int.toNat_natCast, hx] at hy
  cases hy
  refine LdV.mk (hc 0 _ rfl) ?_
  refine LdV.mk (hc 1 _ rfl) ?_
  refine LdV.mk (hc 2 _ rfl) ?_
  refine LdV.mk (hc 3 _ rfl) ?_
  intro b8 hb8
  refine St1.four (set_same _ _ _) rfl rfl rfl rfl ?_
  rw [set_set]
  have hle2 := Le.set hb8 (.cells (vf x).toArray T_lru_entry_chunk_Chunk (0, 0))
  have hb8' := set_same m1 b8 (.cells (vf x).toArray T_lru_entry_chunk_Chunk (0, 0))
  have h2 := h1.le hle2
  have h8F : ¬ F b8 := fun e => h1.lv b8 e hb8
  refine LdV.s1 (hle2 _ _ g1) (UnS.mk ?_)
  show HC P slices_Delete_s_lru_entry_chunk_Chunk_lru_entry_chunk_Chunk.id #[.slice la es.length lc, .int .i64 (i : Int), .int .i64 (IntKind.i64.wrap ((i : Int) + 1))] (m1.set b8 (.cells (vf x).toArray T_lru_entry_chunk_Chunk (0, 0))) _
  rw [wi (n := (i : Int) + 1) (by omega) (by omega)]
  refine delete_spec (g2.le hle2) rfl (by omega) (by omega) ?_
  intro m5 hch ho
  have hbc : blk la ≠ some bc := own_ne g2 g1 (by decide)
  have hlen : es.length - 1 = (es.eraseIdx i).length := by rw [List.length_eraseIdx_of_lt (by omega)]
  rw [hlen] at ho ⊢
  have hch' : Chg F (m1.set b8 (.cells (vf x).toArray T_lru_entry_chunk_Chunk (0, 0))) m5 := hch.mono (fun b e => g4 b e)
  refine h2.store (es' := es.eraseIdx i) hch' (hch.eq bc _ (hle2 _ _ g1) (fun e => hbc e)) ho (fun b e => .inl (g4 b e)) ?_
  intro F6 m6 hch6 hF6 hca6
  have hb6 := hch6.eq b8 _ hb8' h8F
  have hb46 := hch6.eq b4 _ (hle2 _ _ hb41) h4F
  refine LdV.s0 hb6 ?_
  refine LdV.s1 hb6 ?_
  refine LdV.s2 hb6 ?_
  refine LdV.s3 hb6 ?_
  refine front_spec hca6 (by rw [← hlen]; omega) x ?_
  intro F7 m7 hch7 hF7 hca7
  have h8F6 : ¬ F6 b8 := fun e => by
    rcases hF6 b8 e with e | e
    · exact h8F e
    · rw [hb8'] at e; cases e
  have h4F6 : ¬ F6 b4 := fun e => by
    rcases hF6 b4 e with e | e
    · exact h4F e
    · rw [hle2 _ _ hb41] at e; cases e
  have hb47 := hch7.eq b4 _ hb46 h4F6
  have h4F7 : ¬ F7 b4 := fun e => by
    rcases hF7 b4 e with e | e
    · exact h4F6 e
    · rw [hb46] at e; cases e
  refine LdV.s1 (hch7.eq b8 _ hb6 h8F6) ?_
  refine LdV.s2 (hch7.eq b8 _ hb6 h8F6) ?_
  refine LdV.s3 (hch7.eq b8 _ hb6 h8F6) ?_
  refine St1.three hb47 rfl rfl rfl ?_
  refine LdV.s0 (set_same _ _ _) (LdV.s1 (set_same _ _ _) (LdV.s2 (set_same _ _ _) ?_))
  have hg : getL k es = x :: es.eraseIdx i := by unfold getL; rw [hk]; simp only [hx]
  rw [← hg] at hca7
  have hc9 := Chg.set m7 b4 (.cells #[.int .i64 x.2.1, .int .i64 x.2.2.1, .slice x.2.2.2.1 x.2.2.2.2.1 x.2.2.2.2.2] T_chunk_Chunk (0, 0))
  have hle02 := hle1.trans hle2
  have hchA : Chg F m m7 := ((hle02.chg F).trans hch6 (fun _ _ h => h)).trans hch7 (fun b hb hf => by
    rcases hF6 b hf with e | e
    · exact e
    · exact absurd (hle02.new e) hb)
  refine r F7 _ ?_ ?_ (hca7.chg hc9 (by rintro b e rfl; exact h4F7 e))
  · exact ⟨fun b o hb hn => by rw [set_other _ _ (by rintro rfl; rw [hb4] at hb; cases hb)]; exact hchA.eq b o hb hn, fun b hb => hc9.live b (hchA.live b hb)⟩
  · intro b hb
    rcases hF7 b hb with e | e
    · rcases hF6 b e with e | e
      · exact .inl e
      · exact .inr (hle02.new e)
    · exact .inr ((hle02.chg F).new (hch6.new e))
theorem Put_spec (h : Ca m F bc most es) (hll : es.length ≤ 8000) (k : Int) (v : A) {R : Ending → Mem → Prop}
    (r : ∀ F' m', Chg F m m' → (∀ b, F' b → F b ∨ m b = none) → Ca m' F' bc most (putL most k v es) → R (.returned (.tuple #[.int .i64 (goneL most k v es).1, .bool (goneL most k v es).2])) m') : HC P lru_Cache_chunk_Chunk_Put.id #[.pointer (some ⟨bc, 0, none⟩), .int .i64 k, .agg #[.int .i64 v.1, .int .i64 v.2.1, .slice v.2.2.1 v.2.2.2.1 v.2.2.2.2]] m R := by
  refine lru_Cache_chunk_Chunk_Put.ok _ _ _ _ _ _ _ _ _ ?_
  intro b5 hb5
  have hle0 := Le.set hb5 (.cells #[.int .i64 v.1, .int .i64 v.2.1, .slice v.2.2.1 v.2.2.2.1 v.2.2.2.2] T_chunk_Chunk (0, 0))
  have hb5' := set_same m b5 (.cells #[.int .i64 v.1, .int .i64 v.2.1, .slice v.2.2.1 v.2.2.2.1 v.2.2.2.2] T_chunk_Chunk (0, 0))
  have h5F : ¬ F b5 := fun e => h.lv b5 e hb5
  refine Br.f rfl ?_
  refine Drop_spec (h.le hle0) (by omega) k ?_
  intro F1 m1 hch1 hF1 h1
  have hdl := dropL_len k es
  have hb51 := hch1.eq b5 _ hb5' h5F
  refine LdV.s0 hb51 (LdV.s1 hb51 (LdV.s2 hb51 ?_))
  refine front_spec h1 (by omega) (k, v) ?_
  intro F2 m2 hch2 hF2 h2
  have hch02 : Chg F m m2 := ((hle0.chg F).trans hch1 (fun _ _ h => h)).trans hch2 (fun b hb hf => (hF1 b hf).elim id (fun e => absurd (hle0.new e) hb))
  have hF02 : ∀ b, F2 b → F b ∨ m b = none := fun b hb => (hF2 b hb).elim (fun e => (hF1 b e).imp id hle0.new) (fun e => .inr (hle0.new (hch1.new e)))
  have h2' := h2
  obtain ⟨⟨la, lc, g1, g2, g3, g4⟩, lv⟩ := h2'
  refine LdV.s1 g1 (UnS.mk ?_)
  refine LdV.s0 g1 (UnI.mk ?_)
  have hcl : ((k, v) :: dropL k es).length = (dropL k es).length + 1 := rfl
  rw [wi (n := (((k, v) :: dropL k es).length : Nat) - 1) (by omega) (by omega)]
  have hmx : (if 1 > most then 1 else most) = max most 1 := by split <;> omega
  rw [hmx]
  refine BrD (fun hlt => ?_) (fun hge => ?_)
  · have hc : ((((k, v) :: dropL k es).length : Nat) : Int) ≤ max most 1 := by omega
    have := r F2 m2 hch02 hF02 (by unfold putL; rw [if_pos hc]; exact h2)
    unfold goneL at this
    rw [if_pos hc] at this
    exact this
  · have hc : ¬ ((((k, v) :: dropL k es).length : Nat) : Int) ≤ max most 1 := by omega
    refine LdV.s1 g1 ?_
    refine IxS.rows vlen (by decide) g2.cells rfl (by omega) (by omega) ?_
    intro b o y hy hcy
    refine LdV.mk (hcy 0 _ rfl) ?_
    refine LdV.s1 g1 ?_
    refine ⟨by omega, by omega, by have := g2.cap; omega, ?_⟩
    have hlast : ((k, v) :: dropL k es).getLast (by simp) = y := by
      rw [List.getLast_eq_getElem]
      have e : (((((k, v) :: dropL k es).length : Nat) : Int) - 1).toNat = ((k, v) :: dropL k es).length - 1 := by omega
      rw [e, List.getElem?_eq_getElem (by rw [hcl]; omega)] at hy
      exact Option.some.inj hy
    have hshf : shf la (0 : Int).toNat 4 lc = la := by
      obtain ⟨_, hx⟩ := g2
      rcases hx with ⟨rfl, _⟩ | ⟨b, _, rfl, _⟩
      · unfold shf; split <;> rfl
      · exact shf0 _ _ _ _
    rw [hshf]
    have e1 : (((((k, v) :: dropL k es).length : Nat) : Int) - 1).toNat - (0 : Int).toNat = ((k, v) :: dropL k es).dropLast.length := by rw [List.length_dropLast]; omega
    have e2 : lc - (0 : Int).toNat = lc := by omega
    rw [e1, e2]
    have ho : Own m2 T_lru_entry_chunk_Chunk 4 la ((k, v) :: dropL k es).dropLast.length lc (ents ((k, v) :: dropL k es).dropLast) := by
      have hdl2 : ((k, v) :: dropL k es).dropLast = ((k, v) :: dropL k es).take (dropL k es).length := by rw [List.dropLast_eq_take]; rfl
      have hr := rows_take vlen ((k, v) :: dropL k es) (dropL k es).length
      have hr : ents (((k, v) :: dropL k es).take (dropL k es).length) = (ents ((k, v) :: dropL k es)).take ((dropL k es).length * 4) := hr.symm
      have hl3 : ((k, v) :: dropL k es).dropLast.length = (dropL k es).length := by rw [List.length_dropLast]; rfl
      rw [hl3, hdl2, hr]
      exact g2.take (by rw [hcl]; omega)
    refine h2.store (es' := ((k, v) :: dropL k es).dropLast) (Chg.refl _ _) g1 ho (fun b e => .inl (g4 b e)) ?_
    intro F3 m3 hch3 hF3 h3
    have := r F3 m3 (hch02.trans hch3 (fun b hb hf => (hF02 b hf).elim id (fun e => absurd e hb))) (fun b hb => (hF3 b hb).elim (hF02 b) (fun e => .inr (hch02.new e))) (by unfold putL; rw [if_neg hc]; exact h3)
    unfold goneL at this
    rw [if_neg hc, hlast] at this
    exact this
theorem New_spec {n : Int} {R : Ending → Mem → Prop} (h : ∀ bc F m', Le m m' → (∀ b, F b → m b = none) → Ca m' F bc n [] → R (.returned (.pointer (some ⟨bc, 0, none⟩))) m') : HC P lru_New_chunk_Chunk.id #[.int .i64 n] m R := by
  refine lru_New_chunk_Chunk.ok _ _ _ ?_
  intro b hb
  refine h b (fun k => k = b) _ (Le.set hb _) (by rintro k rfl; exact hb) ⟨⟨none, 0, set_same _ _ _, Own.nil _ _ _, rfl, fun b e => by cases e⟩, ?_⟩
  rintro k rfl; rw [set_same]; simp
end
end Go.E.ZK
set_option linter.unusedVariables false
set_option maxRecDepth 20000
set_option linter.unusedSimpArgs false
namespace Go.E.ZK
open Go.H Go.E
attribute [local irreducible] BiN MkS ConvN LookN MapUpN CallV HC
structure TC (ms mm : Mem) (F : Nat → Prop) (bc : Nat) (most : Int) (es : List (Int × A)) : Prop where
  le : Le ms mm
  ca : Ca mm F bc most es
  fr : ∀ b, F b → ms b = none
section
variable {ms mm m' : Mem} {F : Nat → Prop} {bc : Nat} {most : Int} {es : List (Int × A)}
theorem TC.up (h : TC ms mm F bc most es) (k : Le mm m') : TC ms m' F bc most es := ⟨h.le.trans k, h.ca.le k, h.fr⟩
theorem TC.side {S : Nat → Prop} (h : TC ms mm F bc most es) (hch : Chg S mm m') (hd : ∀ b, F b → ¬ S b) (hle : Le ms m') : TC ms m' F bc most es := ⟨hle, h.ca.chg hch hd, h.fr⟩
theorem TC.base {ms' : Mem} (h : TC ms mm F bc most es) (hle : Le ms' ms) : TC ms' mm F bc most es := ⟨hle.trans h.le, h.ca, fun b e => hle.new (h.fr b e)⟩
theorem TC.next {F' : Nat → Prop} {es' : List (Int × A)} (h : TC ms mm F bc most es) (hch : Chg F mm m') (hF : ∀ b, F' b → F b ∨ mm b = none) (hc : Ca m' F' bc most es') : TC ms m' F' bc most es' :=
  ⟨hch.to_le h.le h.fr, hc, fun b hb => (hF b hb).elim (h.fr b) (fun e => h.le.new e)⟩
theorem TC.new {n : Int} {R : Ending → Mem → Prop} (k : ∀ bc F m', TC ms m' F bc n [] → R (.returned (.pointer (some ⟨bc, 0, none⟩))) m') : HC P lru_New_chunk_Chunk.id #[.int .i64 n] ms R := by
  refine New_spec ?_
  intro bc F m' hle hF hc
  exact k bc F m' ⟨hle, hc, hF⟩
theorem TC.put (h : TC ms mm F bc most es) (hll : es.length ≤ 8000) (k : Int) (v : A) {R : Ending → Mem → Prop}
    (r : ∀ F' m', Chg F mm m' → (∀ b, F' b → F b ∨ mm b = none) → TC ms m' F' bc most (putL most k v es) → R (.returned (.tuple #[.int .i64 (goneL most k v es).1, .bool (goneL most k v es).2])) m') : HC P lru_Cache_chunk_Chunk_Put.id #[.pointer (some ⟨bc, 0, none⟩), .int .i64 k, .agg #[.int .i64 v.1, .int .i64 v.2.1, .slice v.2.2.1 v.2.2.2.1 v.2.2.2.2]] mm R := by
  refine Put_spec h.ca hll k v ?_
  intro F' m' hch hF hc
  exact r F' m' hch hF (h.next hch hF hc)
theorem TC.drop (h : TC ms mm F bc most es) (hll : es.length ≤ 9000) (k : Int) {R : Ending → Mem → Prop}
    (r : ∀ F' m', Chg F mm m' → (∀ b, F' b → F b ∨ mm b = none) → TC ms m' F' bc most (dropL k es) → R (.returned (.bool (ixF k es 0).isSome)) m') : HC P lru_Cache_chunk_Chunk_Drop.id #[.pointer (some ⟨bc, 0, none⟩), .int .i64 k] mm R := by
  refine Drop_spec h.ca hll k ?_
  intro F' m' hch hF hc
  exact r F' m' hch hF (h.next hch hF hc)
theorem TC.keys (h : TC ms mm F bc most es) (hll : es.length ≤ 9000) {R : Ending → Mem → Prop}
    (r : ∀ a' c' m', Le mm m' → TC ms m' F bc most es → Own m' T_int 1 a' es.length c' (ints (es.map (·.1))) → Fresh mm a' → R (.returned (.slice a' es.length c')) m') : HC P lru_Cache_chunk_Chunk_Keys.id #[.pointer (some ⟨bc, 0, none⟩)] mm R := by
  refine Keys_spec h.ca hll ?_
  intro a' c' m' hle ho hf
  exact r a' c' m' hle (h.up hle) ho hf
end
end Go.E.ZK
set_option linter.unusedVariables false
set_option linter.unusedSimpArgs false
set_option maxRecDepth 20000
namespace Go.E
variable {α β : Type}
/-- The same keys, other values. -/
def kmap (f : α → β) (es : List (Int × α)) : List (Int × β) := es.map fun e => (e.1, f e.2)
theorem kmap_keys (f : α → β) (es : List (Int × α)) : (kmap f es).map (·.1) = es.map (·.1) := by unfold kmap; rw [List.map_map]; rfl
theorem kmap_ix (f : α → β) (es : List (Int × α)) (k : Int) (o : Nat) : ixF k (kmap f es) o = ixF k es o := ixF_keys _ _ _ (kmap_keys f es)
theorem kmap_len (f : α → β) (es : List (Int × α)) : (kmap f es).length = es.length := by unfold kmap; rw [List.length_map]
theorem map_eraseIdx' {γ δ : Type} (g : γ → δ) : ∀ (l : List γ) (i : Nat), (l.map g).eraseIdx i = (l.eraseIdx i).map g
  | [], i => by simp
  | x :: l, 0 => by simp
  | x :: l, i + 1 => by simp [map_eraseIdx' g l i]
theorem kmap_drop (f : α → β) (es : List (Int × α)) (k : Int) : dropL k (kmap f es) = kmap f (dropL k es) := by
  unfold dropL
  rw [kmap_ix]
  split
  · unfold kmap; rw [map_eraseIdx']
  · rfl
theorem kmap_put (f : α → β) (most : Int) (es : List (Int × α)) (k : Int) (v : α) : putL most k (f v) (kmap f es) = kmap f (putL most k v es) := by
  unfold putL
  rw [kmap_drop]
  have hl : ((k, f v) :: kmap f (dropL k es)).length = ((k, v) :: dropL k es).length := by simp [kmap_len]
  rw [hl]
  split
  · rfl
  · show ((kmap f ((k, v) :: dropL k es))).dropLast = _
    unfold kmap; rw [List.map_dropLast]
theorem kmap_get (f : α → β) (es : List (Int × α)) (k : Int) : getL k (kmap f es) = kmap f (getL k es) := by
  unfold getL
  rw [kmap_ix]
  split
  · rename_i i hi
    have : (kmap f es)[i]? = (es[i]?).map fun e => (e.1, f e.2) := by unfold kmap; rw [List.getElem?_map]
    rw [this]
    cases es[i]? with
    | none => rfl
    | some e => simp only [Option.map_some]; unfold kmap; rw [map_eraseIdx']; rfl
  · rfl
theorem getL_mem' {k : Int} {es : List (Int × α)} {e : Int × α} (h : e ∈ getL k es) : e ∈ es := by
  unfold getL at h
  split at h
  · split at h
    · rename_i x hx
      rcases List.mem_cons.mp h with rfl | h
      · exact List.mem_of_getElem? hx
      · exact List.mem_of_mem_eraseIdx h
    · exact h
  · exact h
theorem putL_mem' {k most : Int} {v : α} {es : List (Int × α)} {e : Int × α} (h : e ∈ putL most k v es) : e = (k, v) ∨ e ∈ es := by
  have hd : ∀ e, e ∈ dropL k es → e ∈ es := by
    intro e he
    unfold dropL at he
    split at he
    · exact List.mem_of_mem_eraseIdx he
    · exact he
  have h' : e ∈ (k, v) :: dropL k es := by
    unfold putL at h
    split at h
    · exact h
    · exact List.dropLast_subset _ h
  rcases List.mem_cons.mp h' with h' | h'
  · exact .inl h'
  · exact .inr (hd e h')
end Go.E
namespace Go.E.Ck
open Go.H Go.E
attribute [local irreducible] BiN MkS ConvN LookN MapUpN CallV HC
def fA (e : Ck × Sl) : ZK.A := (e.1.1, e.1.2.1, e.2)
/-- What may be spoken of behind: what was spoken of, and what is new, but for what is written. -/
noncomputable def mkS (m' : Mem) (F' : Nat → Prop) (ms m : Mem) : Mem := m'.wo fun b => F' b ∨ ¬ (ms b ≠ none ∨ m b = none)
section
variable {m' ms m : Mem} {F' : Nat → Prop}
theorem mkS_le : Le (mkS m' F' ms m) m' := wo_le _ _
theorem mkS_fr {b : Nat} (h : F' b) : mkS m' F' ms m b = none := wo_out (.inl h)
theorem mkS_nw {b : Nat} (h : mkS m' F' ms m b ≠ none) : ms b ≠ none ∨ m b = none := by
  apply Classical.byContradiction
  intro hn
  exact h (wo_out (.inr hn))
theorem mkS_of {b : Nat} {o : Obj} (h1 : m' b = some o) (h2 : ¬ F' b) (h3 : ms b ≠ none ∨ m b = none) : mkS m' F' ms m b = some o := by
  unfold mkS
  rw [wo_in (by rintro (e | e); exact h2 e; exact e h3)]; exact h1
end
/-- From one memory to another, of which F' may be written from then on. -/
structure Step (F F' : Nat → Prop) (ms m ms' m' : Mem) : Prop where
  chg : Chg F m m'
  up : Le ms ms'
  nw : ∀ b, ms' b ≠ none → ms b ≠ none ∨ m b = none
  sub : ∀ b, F' b → F b ∨ m b = none
theorem Step.trans {F F1 F2 : Nat → Prop} {ms m ms1 m1 ms2 m2 : Mem} (h : Step F F1 ms m ms1 m1) (k : Step F1 F2 ms1 m1 ms2 m2) : Step F F2 ms m ms2 m2 :=
  ⟨h.chg.trans k.chg (fun b hb e => (h.sub b e).elim id (fun x => absurd x hb)), h.up.trans k.up,
   fun b hb => (k.nw b hb).elim (h.nw b) (fun e => .inr (h.chg.new e)), fun b hb => (k.sub b hb).elim (h.sub b) (fun e => .inr (h.chg.new e))⟩
theorem Step.le {F : Nat → Prop} {ms m m' : Mem} (h : Le m m') : Step F F ms m ms m' := ⟨h.chg _, Le.refl _, fun b hb => .inl hb, fun b hb => .inl hb⟩
/-- A *Store: its block, most, its chunks, who was used last first. -/
structure St (ms mm : Mem) (F : Nat → Prop) (bs : Nat) (most : Int) (lc : List (Int × Ck)) : Prop where
  ex : ∃ (bc : Nat) (Fc : Nat → Prop) (L : List (Int × (Ck × Sl))), mm bs = some (.cells #[.int .i64 most, .pointer (some ⟨bc, 0, none⟩)] T_chunk_Store (0, 0)) ∧ ZK.Ca mm Fc bc most (kmap fA L) ∧ kmap (·.1) L = lc ∧ (∀ e ∈ L, SpsAt ms e.2.2 e.2.1.2.2) ∧ F bs ∧ (∀ b, Fc b → F b) ∧ ¬ Fc bs
  le : Le ms mm
  fr : ∀ b, F b → ms b = none
  lv : ∀ b, F b → mm b ≠ none
section
variable {ms mm m m' ms' : Mem} {F : Nat → Prop} {bs : Nat} {most : Int} {lc : List (Int × Ck)}
theorem St.up (h : St ms mm F bs most lc) (k : Le mm m') : St ms m' F bs most lc := by
  obtain ⟨⟨bc, Fc, L, h1, h2, h3, h4, h5, h6, h7⟩, le, fr, lv⟩ := h
  exact ⟨⟨bc, Fc, L, k _ _ h1, h2.le k, h3, h4, h5, h6, h7⟩, le.trans k, fr, fun b hb => k.live (lv b hb)⟩
/-- Another one's step. -/
theorem St.side {G G' : Nat → Prop} (h : St ms mm F bs most lc) (s : Step G G' ms mm ms' m') (hd : ∀ b, F b → ¬ G b) (hle : Le ms' m') : St ms' m' F bs most lc := by
  obtain ⟨⟨bc, Fc, L, h1, h2, h3, h4, h5, h6, h7⟩, le, fr, lv⟩ := h
  refine ⟨⟨bc, Fc, L, s.chg.eq _ _ h1 (hd _ h5), h2.chg s.chg (fun b e => hd _ (h6 b e)), h3, fun e he => (h4 e he).le s.up, h5, h6, h7⟩, hle, fun b hb => ?_, fun b hb => s.chg.live b (lv b hb)⟩
  cases hm : ms' b with
  | none => rfl
  | some o =>
    rcases s.nw b (by rw [hm]; simp) with e | e
    · exact absurd (fr b hb) e
    · exact absurd e (lv b hb)
theorem New_spec {n : Int} (hle : Le ms m) {R : Ending → Mem → Prop} (k : ∀ bs F m', Le m m' → (∀ b, F b → m b = none) → St ms m' F bs n [] → R (.returned (.pointer (some ⟨bs, 0, none⟩))) m') : HC P chunk_New.id #[.int .i64 n] m R := by
  refine chunk_New.ok _ _ _ ?_
  refine ZK.New_spec ?_
  intro bc Fc m1 hle1 hFc hca
  dsimp only [Cont]
  refine UnP.mk ?_
  intro bs hbs
  have hle2 := Le.set hbs (.cells #[.int .i64 n, .pointer (some ⟨bc, 0, none⟩)] T_chunk_Store (0, 0))
  refine k bs (fun b => b = bs ∨ Fc b) _ (hle1.trans hle2) ?_ ⟨⟨bc, Fc, [], set_same _ _ _, hca.le hle2, rfl, (fun e he => by cases he), .inl rfl, fun b hb => .inr hb, fun e => hca.lv _ e hbs⟩, hle.trans (hle1.trans hle2), ?_, ?_⟩
  · rintro b (rfl | e)
    · exact hle1.new hbs
    · exact hFc b e
  · rintro b (rfl | e)
    · exact hle.new (hle1.new hbs)
    · exact hle.new (hFc b e)
  · rintro b (rfl | e)
    · rw [set_same]; simp
    · exact hle2.live (hca.lv b e)
/-- What the inner cache has become. -/
theorem St.inner {bc : Nat} {Fc : Nat → Prop} {L : List (Int × (Ck × Sl))} (h1 : m bs = some (.cells #[.int .i64 most, .pointer (some ⟨bc, 0, none⟩)] T_chunk_Store (0, 0))) (h5 : F bs) (h6 : ∀ b, Fc b → F b) (h7 : ¬ Fc bs) (le : Le ms m) (fr : ∀ b, F b → ms b = none) (lv : ∀ b, F b → m b ≠ none) (hcl : ∀ b, Fc b → m b ≠ none)
    {m1 m2 : Mem} {Fc' : Nat → Prop} {L' : List (Int × (Ck × Sl))} (hle : Le m m1) (hch : Chg Fc m1 m2) (hF : ∀ b, Fc' b → Fc b ∨ m1 b = none) (hca : ZK.Ca m2 Fc' bc most (kmap fA L'))
    (hL : ∀ e ∈ L', SpsAt ms e.2.2 e.2.1.2.2 ∨ SpsAt (nw m m1) e.2.2 e.2.1.2.2) :
    Step F (fun b => b = bs ∨ Fc' b) ms m (mkS m2 (fun b => b = bs ∨ Fc' b) ms m) m2 ∧ St (mkS m2 (fun b => b = bs ∨ Fc' b) ms m) m2 (fun b => b = bs ∨ Fc' b) bs most (kmap (·.1) L') ∧ Le (nw m m1) (mkS m2 (fun b => b = bs ∨ Fc' b) ms m) := by
  have hup : Le ms (mkS m2 (fun b => b = bs ∨ Fc' b) ms m) := fun b o hb => by
    have hF0 : ¬ F b := fun e => by rw [fr b e] at hb; cases hb
    refine mkS_of ?_ ?_ (.inl (by rw [hb]; simp))
    · exact hch.eq b o (hle _ _ (le _ _ hb)) (fun e => hF0 (h6 b e))
    · rintro (rfl | e)
      · exact hF0 h5
      · rcases hF b e with e | e
        · exact hF0 (h6 b e)
        · rw [hle _ _ (le _ _ hb)] at e; cases e
  have hnw : Le (nw m m1) (mkS m2 (fun b => b = bs ∨ Fc' b) ms m) := fun b o hb => by
    have hm : m b = none := nw_fresh (by rw [hb]; simp)
    have hb1 := nw_le _ _ _ _ hb
    refine mkS_of ?_ ?_ (.inr hm)
    · exact hch.eq b o hb1 (fun e => hcl b e hm)
    · rintro (rfl | e)
      · rw [h1] at hm; cases hm
      · rcases hF b e with e | e
        · exact hcl b e hm
        · rw [hb1] at e; cases e
  have hb1 : m2 bs = some (.cells #[.int .i64 most, .pointer (some ⟨bc, 0, none⟩)] T_chunk_Store (0, 0)) := hch.eq _ _ (hle _ _ h1) h7
  refine ⟨⟨((hle.chg F).trans hch (fun b _ e => h6 b e)), hup, fun b hb => mkS_nw hb, ?_⟩, ⟨⟨bc, Fc', L', hb1, hca, rfl, fun e he => (hL e he).elim (fun h => h.le hup) (fun h => h.le hnw), .inl rfl, fun b hb => .inr hb, ?_⟩, mkS_le, fun b hb => mkS_fr hb, ?_⟩, hnw⟩
  · rintro b (rfl | e)
    · exact .inl h5
    · exact (hF b e).imp (h6 b) hle.new
  · intro e
    rcases hF bs e with e | e
    · exact h7 e
    · rw [hle _ _ h1] at e; cases e
  · rintro b (rfl | e)
    · rw [hb1]; simp
    · exact hca.lv b e
theorem Put_spec (h : St ms m F bs most lc) (hll : lc.length ≤ 8000) {c : Ck} {v : Sl} (hv : SpsAt m v c.2.2) (hb : Bc 1000000000000000 c) {R : Ending → Mem → Prop}
    (k : ∀ F' ms' m', Step F F' ms m ms' m' → St ms' m' F' bs most (putL most c.1 c lc) → R (.returned (.tuple #[])) m') :
    HC P chunk_Store_Put.id #[.pointer (some ⟨bs, 0, none⟩), .agg #[.int .i64 c.1, .int .i64 c.2.1, .slice v.1 v.2.1 v.2.2]] m R := by
  obtain ⟨⟨bc, Fc, L, h1, h2, h3, h4, h5, h6, h7⟩, le, fr, lv⟩ := h
  refine chunk_Store_Put.ok _ _ _ _ _ _ _ _ ?_
  intro b3 hb3
  have hle3 := Le.set hb3 (.cells #[.int .i64 c.1, .int .i64 c.2.1, .slice v.1 v.2.1 v.2.2] T_chunk_Chunk (0, 0))
  have g3 := set_same m b3 (.cells #[.int .i64 c.1, .int .i64 c.2.1, .slice v.1 v.2.1 v.2.2] T_chunk_Chunk (0, 0))
  refine Br.f rfl ?_
  refine LdV.s1 (hle3 _ _ h1) (UnP.mk ?_)
  refine Br.f rfl ?_
  refine ⟨_, Le.refl _, ?_⟩
  refine LdV.s1 (hle3 _ _ h1) (UnP.mk ?_)
  refine LdV.s0 g3 (LdV.s0 g3 (LdV.s1 g3 (LdV.s2 g3 ?_)))
  refine move_spec (hv.le hle3) hb.2.2 hb.1 hb.2.1 (by unfold Bd; omega) ?_
  intro v' m2 hle2 hsp
  rw [Int.add_zero, Int.add_zero]
  refine ⟨_, Le.refl _, hle2, ?_⟩
  have hlen : (kmap fA L).length ≤ 8000 := by rw [kmap_len, ← kmap_len (·.1) L, h3]; exact hll
  refine ZK.Put_spec (h2.le (hle3.trans hle2)) hlen c.1 (fA (c, v')) ?_
  intro Fc' m4 hch hF hca
  rw [kmap_put] at hca
  have e0 : c.2.2.map (mvs 0) = c.2.2 := by have := congrArg (·.2.2) (mvc_zero c); exact this
  rw [e0] at hsp
  have := St.inner (L := L) (L' := putL most c.1 (c, v') L) h1 h5 h6 h7 le fr lv h2.lv (hle3.trans hle2) hch (fun b e => hF b e) hca (fun e he => by
    rcases putL_mem' he with rfl | he
    · exact .inr (hsp.le (nw_mono hle3 (Le.refl _)))
    · exact .inl (h4 e he))
  refine k _ _ m4 this.1 ?_
  have h9 := this.2.1
  rw [← kmap_put (fun e : Ck × Sl => e.1) most L c.1 (c, v'), h3] at h9
  exact h9
end
end Go.E.Ck
set_option linter.unusedVariables false
set_option linter.unusedSimpArgs false
namespace Go.E
variable {α : Type}
def keysOf (es : List (Int × α)) : List Int := es.map (·.1)
theorem ix_key {k : Int} {es : List (Int × α)} {i : Nat} (h : ixF k es 0 = some i) : (keysOf es)[i]? = some k := by
  obtain ⟨_, _, e, h1, h2⟩ := ixF_some h
  unfold keysOf
  rw [List.getElem?_map, Nat.sub_zero] at *
  rw [h1, ← h2]; rfl
theorem ix_mem {k : Int} {es : List (Int × α)} {i : Nat} (h : ixF k es 0 = some i) : k ∈ keysOf es := List.mem_of_getElem? (ix_key h)
theorem ix_not {k : Int} {es : List (Int × α)} (h : ixF k es 0 = none) : k ∉ keysOf es := by
  intro hm
  unfold keysOf at hm
  rw [List.mem_map] at hm
  obtain ⟨e, he, h1⟩ := hm
  exact ixF_none h e he h1
theorem ix_of_mem {k : Int} {es : List (Int × α)} (h : k ∈ keysOf es) : ∃ i, ixF k es 0 = some i := by
  cases hx : ixF k es 0 with
  | none => exact absurd h (ix_not hx)
  | some i => exact ⟨i, rfl⟩
theorem ix_of_not {k : Int} {es : List (Int × α)} (h : k ∉ keysOf es) : ixF k es 0 = none := by
  cases hx : ixF k es 0 with
  | none => rfl
  | some i => exact absurd (ix_mem hx) h
theorem keysOf_len (es : List (Int × α)) : (keysOf es).length = es.length := by simp [keysOf]
end Go.E
set_option linter.unusedVariables false
set_option linter.unusedSimpArgs false
set_option maxRecDepth 20000
namespace Go.E
variable {α β : Type}
theorem cons_erase_perm {γ : Type} : ∀ (l : List γ) (i : Nat) (h : i < l.length), (l[i] :: l.eraseIdx i).Perm l
  | x :: l, 0, h => List.Perm.refl _
  | x :: l, i + 1, h => by
    rw [List.eraseIdx_cons_succ, List.getElem_cons_succ]
    exact (List.Perm.swap _ _ _).trans (List.Perm.cons x (cons_erase_perm l i (by simpa using h)))
theorem getL_perm (k : Int) (es : List (Int × α)) : (getL k es).Perm es := by
  unfold getL
  split
  · rename_i i hi
    obtain ⟨_, h2, _⟩ := ixF_some hi
    have hlt : i < es.length := by omega
    rw [List.getElem?_eq_getElem hlt]
    exact cons_erase_perm es i hlt
  · exact List.Perm.refl _
theorem ix_entry {es : List (Int × α)} (hn : (keysOf es).Nodup) {e : Int × α} (he : e ∈ es) : ∃ i, ixF e.1 es 0 = some i ∧ es[i]? = some e := by
  obtain ⟨i, hi⟩ := ix_of_mem (es := es) (k := e.1) (List.mem_map_of_mem he)
  obtain ⟨_, h2, x, hx, hk⟩ := ixF_some hi
  rw [Nat.sub_zero] at hx
  refine ⟨i, hi, ?_⟩
  obtain ⟨j, hj, hje⟩ := List.getElem_of_mem he
  have e1 : (keysOf es)[i]? = some e.1 := ix_key hi
  have e2 : (keysOf es)[j]? = some e.1 := by unfold keysOf; rw [List.getElem?_map, List.getElem?_eq_getElem hj, hje]; rfl
  have hil : i < (keysOf es).length := by rw [keysOf_len]; omega
  have hjl : j < (keysOf es).length := by rw [keysOf_len]; omega
  rw [List.getElem?_eq_getElem hil] at e1
  rw [List.getElem?_eq_getElem hjl] at e2
  have heq := Option.some.inj (e1.trans e2.symm)
  have : i = j := by
    rcases Nat.lt_trichotomy i j with h | h | h
    · exact absurd heq (List.pairwise_iff_getElem.mp hn i j hil hjl h)
    · exact h
    · exact absurd heq.symm (List.pairwise_iff_getElem.mp hn j i hjl hil h)
  subst this
  rw [List.getElem?_eq_getElem hj, hje]
theorem keysOf_kmap (f : α → β) (es : List (Int × α)) : keysOf (kmap f es) = keysOf es := kmap_keys f es
end Go.E
namespace Go.E.Ck
open Go.H Go.E
attribute [local irreducible] BiN MkS ConvN LookN MapUpN CallV HC
section
variable {ms mm m m' ms' : Mem} {F : Nat → Prop} {bs : Nat} {most : Int} {lc : List (Int × Ck)}
theorem St.base (h : St ms mm F bs most lc) (k : Le ms ms') (hle : Le ms' mm) (hf : ∀ b, F b → ms' b = none) : St ms' mm F bs most lc := by
  obtain ⟨⟨bc, Fc, L, h1, h2, h3, h4, h5, h6, h7⟩, le, fr, lv⟩ := h
  exact ⟨⟨bc, Fc, L, h1, h2, h3, fun e he => (h4 e he).le k, h5, h6, h7⟩, hle, hf, lv⟩
/-- Of what is asked for, a copy. -/
theorem Get_some (h : St ms m F bs most lc) (hll : lc.length ≤ 8000) (hn : (keysOf lc).Nodup) {e : Int × Ck} (he : e ∈ lc) (hb : Bc 1000000000000000 e.2) {R : Ending → Mem → Prop}
    (k : ∀ F' m' v, Chg F m m' → (∀ b, F' b → F b ∨ m b = none) → St ms m' F' bs most (getL e.1 lc) → SpsAt (nws m m' F') v e.2.2.2 → R (.returned (.tuple #[.agg #[.int .i64 e.2.1, .int .i64 e.2.2.1, .slice v.1 v.2.1 v.2.2], .bool true])) m') :
    HC P chunk_Store_Get.id #[.pointer (some ⟨bs, 0, none⟩), .int .i64 e.1] m R := by
  obtain ⟨⟨bc, Fc, L, h1, h2, h3, h4, h5, h6, h7⟩, le, fr, lv⟩ := h
  subst h3
  obtain ⟨e, heL, rfl⟩ := List.mem_map.mp he
  obtain ⟨key, ⟨c, cv⟩⟩ := e
  dsimp only at hb k ⊢
  rw [keysOf_kmap] at hn
  rw [kmap_len] at hll
  obtain ⟨i, hi, hie⟩ := ix_entry hn heL
  dsimp only at hi hie
  refine chunk_Store_Get.ok _ _ _ _ ?_
  intro b4 hb4
  have hle4 := Le.set hb4 (.cells #[.int .i64 0, .int .i64 0, .slice none 0 0] T_chunk_Chunk (0, 0))
  have g4 := set_same m b4 (.cells #[.int .i64 0, .int .i64 0, .slice none 0 0] T_chunk_Chunk (0, 0))
  have h4F : ¬ Fc b4 := fun x => h2.lv b4 x hb4
  refine Br.f rfl ?_
  refine LdV.s1 (hle4 _ _ h1) (UnP.mk ?_)
  refine ZK.Get_some (h2.le hle4) (by rw [kmap_len]; omega) (k := key) (i := i) (x := (key, fA (c, cv))) (by rw [kmap_ix]; exact hi) (by unfold kmap; rw [List.getElem?_map, hie]; rfl) ?_
  intro Fc' m2 hch hF hca
  rw [kmap_get] at hca
  intro b6 hb6
  have hle6 := Le.set hb6 (.cells #[.int .i64 c.1, .int .i64 c.2.1, .slice cv.1 cv.2.1 cv.2.2] T_chunk_Chunk (0, 0))
  refine St1.three (set_same _ _ _) rfl rfl rfl ?_
  rw [set_set]
  have g6 := set_same m2 b6 (.cells #[.int .i64 c.1, .int .i64 c.2.1, .slice cv.1 cv.2.1 cv.2.2] T_chunk_Chunk (0, 0))
  refine LdV.s0 g6 (LdV.s1 g6 (LdV.s2 g6 ?_))
  have hmsF : ∀ b o, ms b = some o → m2 b = some o := fun b o hb => hch.eq b o (hle4 _ _ (le _ _ hb)) (fun x => by rw [fr b (h6 b x)] at hb; cases hb)
  have hspm : SpsAt ms cv c.2.2 := h4 _ heL
  refine move_spec (hspm.le (Le.trans hmsF hle6)) hb.2.2 hb.1 hb.2.1 (by unfold Bd; omega) ?_
  intro v' m7 hle7 hsp
  rw [Int.add_zero, Int.add_zero]
  have e0 : c.2.2.map (mvs 0) = c.2.2 := congrArg (·.2.2) (mvc_zero c)
  rw [e0] at hsp
  have hm42 : m2 b4 = some (.cells #[.int .i64 0, .int .i64 0, .slice none 0 0] T_chunk_Chunk (0, 0)) := hch.eq _ _ g4 h4F
  refine St1.three (hle7 _ _ (hle6 _ _ hm42)) rfl rfl rfl ?_
  refine LdV.s0 (set_same _ _ _) (LdV.s1 (set_same _ _ _) (LdV.s2 (set_same _ _ _) ?_))
  have hc9 := Chg.set m7 b4 (.cells #[.int .i64 c.1, .int .i64 c.2.1, .slice v'.1 v'.2.1 v'.2.2] T_chunk_Chunk (0, 0))
  generalize m7.set b4 (.cells #[.int .i64 c.1, .int .i64 c.2.1, .slice v'.1 v'.2.1 v'.2.2] T_chunk_Chunk (0, 0)) = m9 at *
  have hle27 : Le m2 m7 := hle6.trans hle7
  have h4F' : ¬ Fc' b4 := fun x => by
    rcases hF b4 x with x | x
    · exact h4F x
    · rw [g4] at x; cases x
  have hbs4 : bs ≠ b4 := by rintro rfl; rw [h1] at hb4; cases hb4
  have hbs2 : m2 bs = some (.cells #[.int .i64 most, .pointer (some ⟨bc, 0, none⟩)] T_chunk_Store (0, 0)) := hch.eq _ _ (hle4 _ _ h1) h7
  have hsub : ∀ b, (b = bs ∨ Fc' b) → F b ∨ m b = none := by
    rintro b (rfl | x)
    · exact .inl h5
    · exact (hF b x).imp (h6 b) hle4.new
  refine k (fun b => b = bs ∨ Fc' b) m9 v' ?_ hsub ⟨⟨bc, Fc', getL key L, hc9.eq _ _ (hle27 _ _ hbs2) hbs4, (hca.le hle27).chg hc9 (by rintro b x rfl; exact h4F' x), ?_, fun x hx => h4 x (getL_mem' hx), .inl rfl, fun b x => .inr x, ?_⟩, ?_, ?_, ?_⟩ ?_
  · refine ((hle4.chg F).trans hch (fun b _ x => h6 b x)).trans ((hle27.chg (fun b => b = b4)).trans hc9 (fun b _ x => x)) ?_
    rintro b hb rfl; exact absurd hb4 hb
  · rw [kmap_get]
  · intro x
    rcases hF bs x with x | x
    · exact h7 x
    · rw [hle4 _ _ h1] at x; cases x
  · exact fun b o hb => hc9.eq b o (hle27 _ _ (hmsF b o hb)) (by rintro rfl; rw [le _ _ hb] at hb4; cases hb4)
  · intro b hb
    rcases hsub b hb with x | x
    · exact fr b x
    · exact le.new x
  · rintro b (rfl | x)
    · exact hc9.live _ (by rw [hle27 _ _ hbs2]; simp)
    · exact hc9.live b (hle27.live (hca.lv b x))
  · refine hsp.le ?_
    intro b o hb
    have hb7 := nw_le _ _ _ _ hb
    have hn6 : (m2.set b6 (.cells #[.int .i64 c.1, .int .i64 c.2.1, .slice cv.1 cv.2.1 cv.2.2] T_chunk_Chunk (0, 0))) b = none := nw_fresh (by rw [hb]; simp)
    have hn2 : m2 b = none := hle6.new hn6
    have hn : m b = none := hle4.new (hch.new hn2)
    refine nws_of (hc9.eq b o hb7 (by rintro rfl; rw [hm42] at hn2; cases hn2)) hn ?_
    rintro (rfl | x)
    · rw [h1] at hn; cases hn
    · exact hca.lv b x hn2
end
end Go.E.Ck
set_option linter.unusedVariables false
set_option linter.unusedSimpArgs false
set_option maxRecDepth 20000
namespace Go.E.Ck
open Go.H Go.E
attribute [local irreducible] BiN MkS ConvN LookN MapUpN CallV HC
/-- A row whose first i and last i are turned. -/
def Rvd (zs ys : List Int) (i : Nat) : Prop := ys.length = zs.length ∧ ∀ t, t < zs.length → ys[t]? = if t < i ∨ zs.length - i ≤ t then zs[zs.length - 1 - t]? else zs[t]?
theorem Rvd.start (zs : List Int) : Rvd zs zs 0 := ⟨rfl, fun t ht => by rw [if_neg (by omega)]⟩
theorem Rvd.done {zs ys : List Int} {i : Nat} (h : Rvd zs ys i) (hi : zs.length ≤ 2 * i + 1) : ys = zs.reverse := by
  apply List.ext_getElem?
  intro t
  rcases Nat.lt_or_ge t zs.length with ht | ht
  · rw [h.2 t ht, List.getElem?_reverse ht]
    split
    · rfl
    · have : zs.length - 1 - t = t := by omega
      rw [this]
  · rw [List.getElem?_eq_none (by rw [h.1]; exact ht), List.getElem?_eq_none (by simpa using ht)]
theorem Rvd.step {zs ys : List Int} {i j : Nat} (h : Rvd zs ys i) (hij : i + j = zs.length - 1) (hlt : i < j) {x y : Int} (hx : ys[j]? = some x) (hy : ys[i]? = some y) : Rvd zs ((ys.set i x).set j y) (i + 1) := by
  have hl := h.1
  refine ⟨by simp [hl], fun t ht => ?_⟩
  rw [List.getElem?_set, List.getElem?_set]
  have hxz : zs[j]? = some x := by rw [← hx, h.2 j (by omega), if_neg (by omega)]
  have hyz : zs[i]? = some y := by rw [← hy, h.2 i (by omega), if_neg (by omega)]
  by_cases e1 : j = t
  · subst e1
    rw [if_pos rfl, if_pos (by simp; omega), if_pos (by omega), show zs.length - 1 - j = i by omega, hyz]
  · rw [if_neg e1]
    by_cases e2 : i = t
    · subst e2
      rw [if_pos rfl, if_pos (by omega), if_pos (by omega), show zs.length - 1 - i = j by omega, hxz]
    · rw [if_neg e2, h.2 t ht]
      by_cases e3 : t < i ∨ zs.length - i ≤ t
      · rw [if_pos e3, if_pos (by omega)]
      · rw [if_neg e3, if_neg (by omega)]
theorem Reverse_spec {m : Mem} {a : Option Addr} {l c : Nat} {zs : List Int} (ho : Own m T_int 1 a l c (ints zs)) (hl : zs.length = l) (hlm : l ≤ 1000000000) {R : Ending → Mem → Prop}
    (k : ∀ m', Chg (fun b => blk a = some b) m m' → Own m' T_int 1 a l c (ints zs.reverse) → R (.returned (.tuple #[])) m') : HC P slices_Reverse_s_int_int.id #[.slice a l c] m R := by
  subst hl
  refine slices_Reverse_s_int_int.ok _ _ _ _ _ ?_
  refine ⟨fun N a' l' c' i j mm => a' = a ∧ l' = zs.length ∧ c' = c ∧ Chg (fun b => blk a = some b) m mm ∧ ∃ (i' : Nat) (ys : List Int), i = i' ∧ j = (zs.length : Int) - 1 - i' ∧ N = zs.length - i' ∧ i' ≤ zs.length ∧ Rvd zs ys i' ∧ Own mm T_int 1 a zs.length c (ints ys), zs.length, ⟨rfl, rfl, rfl, Chg.refl _ _, 0, zs, rfl, ?_, by omega, by omega, Rvd.start zs, ho⟩, ?_⟩
  · rw [wi (by omega) (by omega)]; omega
  rintro N a' l' c' i j mm ⟨rfl, rfl, rfl, hch, i', ys, rfl, rfl, rfl, hi', hr, hox⟩
  refine BrD (fun hlt => ?_) (fun hge => ?_)
  rotate_left
  · rw [hr.done (by omega)] at hox
    exact k mm hch hox
  have hyl := hr.1
  obtain ⟨j', hj'⟩ : ∃ j' : Nat, (zs.length : Int) - 1 - i' = (j' : Int) := ⟨zs.length - 1 - i', by omega⟩
  rw [hj'] at hlt ⊢
  have hjl : j' < ys.length := by omega
  have hil : i' < ys.length := by omega
  refine ⟨mm, Le.refl _, ?_⟩
  refine IxS.ints hox.cells hyl (by omega) (by omega) ?_
  intro xj hxj
  rw [Int.toNat_natCast] at hxj
  refine UnI.mk ?_
  refine IxS.ints hox.cells hyl (by omega) (by omega) ?_
  intro yi hyi
  rw [Int.toNat_natCast] at hyi
  refine UnI.mk ?_
  refine hox.st (by omega) (by omega) rfl ?_
  intro m2 hch2 ho2
  refine ho2.st (by omega) (by omega) rfl ?_
  intro m3 hch3 ho3
  refine ⟨zs.length - (i' + 1), by omega, rfl, rfl, rfl, ?_, i' + 1, (ys.set i' xj).set j' yi, ?_, ?_, rfl, by omega, hr.step (by omega) (by omega) hxj hyi, ?_⟩
  · exact (hch.trans hch2 (fun _ _ e => e)).trans hch3 (fun _ _ e => e)
  · rw [wi (by omega) (by omega)]; omega
  · rw [wi (by omega) (by omega)]; omega
  · have : ints ((ys.set i' xj).set j' yi) = ((ints ys).set i' (.int .i64 xj)).set j' (.int .i64 yi) := by unfold ints; rw [List.map_set, List.map_set]
    rw [this]
    exact ho3
end Go.E.Ck
set_option linter.unusedVariables false
set_option linter.unusedSimpArgs false
set_option maxRecDepth 20000
namespace Go.E.Ck
open Go.H Go.E
attribute [local irreducible] BiN MkS ConvN LookN MapUpN CallV HC
/-- One chunk behind an edit. -/
def edE (most a b d reach : Int) (K : List (Int × Ck)) (e : Int × Ck) : List (Int × Ck) :=
  if e.2.2.1 ≤ a - reach then putL most e.2.1 e.2 K else if e.2.1 - reach ≥ b then putL most (e.2.1 + d) (mvc d e.2) K else K
def edL (most a b n reach : Int) (lc : List (Int × Ck)) : List (Int × Ck) := lc.reverse.foldl (edE most a b (n - (b - a)) reach) []
theorem edE_len (most a b d reach : Int) (K : List (Int × Ck)) (e : Int × Ck) : (edE most a b d reach K e).length ≤ K.length + 1 := by
  unfold edE
  split
  · exact (putL_len _ _ _ _).1
  · split
    · exact (putL_len _ _ _ _).1
    · omega
theorem edF_len (most a b d reach : Int) : ∀ (l K : List (Int × Ck)), (l.foldl (edE most a b d reach) K).length ≤ K.length + l.length
  | [], K => by simp
  | e :: l, K => by
    have h1 := edF_len most a b d reach l (edE most a b d reach K e)
    have h2 := edE_len most a b d reach K e
    rw [List.foldl_cons, List.length_cons]; omega
/-- Two memories at once. -/
noncomputable def uni (V X mm : Mem) : Mem := mm.wo fun b => ¬ (V b ≠ none ∨ X b ≠ none)
section
variable {V X mm : Mem}
theorem uni_le : Le (uni V X mm) mm := wo_le _ _
theorem uni_l (h : Le V mm) : Le V (uni V X mm) := fun b o hb => by
  unfold uni; rw [wo_in (fun e => e (.inl (by rw [hb]; simp)))]; exact h b o hb
theorem uni_r (h : Le X mm) : Le X (uni V X mm) := fun b o hb => by
  unfold uni; rw [wo_in (fun e => e (.inr (by rw [hb]; simp)))]; exact h b o hb
theorem uni_of {b : Nat} (h : uni V X mm b ≠ none) : V b ≠ none ∨ X b ≠ none := by
  apply Classical.byContradiction
  intro hn
  exact h (wo_out hn)
end
/-- An edit under way. -/
structure Ed (ms m : Mem) (F : Nat → Prop) (bs bc bk : Nat) (most : Int) (ka : Option Addr) (kl kc : Nat) (ks : List Int) (V mm : Mem) (Fc Fk : Nat → Prop) (L K : List (Int × (Ck × Sl))) : Prop where
  hs : mm bs = some (.cells #[.int .i64 most, .pointer (some ⟨bc, 0, none⟩)] T_chunk_Store (0, 0))
  ca : ZK.Ca mm Fc bc most (kmap fA L)
  ck : ZK.Ca mm Fk bk most (kmap fA K)
  chg : Chg F m mm
  fc : ∀ b, Fc b → F b ∨ m b = none
  fk : ∀ b, Fk b → m b = none
  dis : ∀ b, Fc b → ¬ Fk b
  nbs : ¬ Fc bs ∧ ¬ Fk bs
  vu : Le ms V
  vm : Le V mm
  vn : ∀ b, V b ≠ none → ms b ≠ none ∨ m b = none
  vf : ∀ b, Fc b ∨ Fk b → V b = none
  rl : ∀ e ∈ L, SpsAt V e.2.2 e.2.1.2.2
  rk : ∀ e ∈ K, SpsAt V e.2.2 e.2.1.2.2
  kr : Own mm T_int 1 ka kl kc (ints ks)
  kd : ∀ b, blk ka = some b → ¬ Fc b ∧ ¬ Fk b
section
variable {ms m mm m' V V' : Mem} {F Fc Fk : Nat → Prop} {bs bc bk : Nat} {most : Int} {ka : Option Addr} {kl kc : Nat} {ks : List Int} {L K : List (Int × (Ck × Sl))}
theorem Ed.chgT {T : Nat → Prop} (h : Ed ms m F bs bc bk most ka kl kc ks V mm Fc Fk L K) (hc : Chg T mm m') (ht : ∀ b, T b → m b = none ∧ ¬ Fc b ∧ ¬ Fk b ∧ V b = none ∧ blk ka ≠ some b ∧ b ≠ bs) : Ed ms m F bs bc bk most ka kl kc ks V m' Fc Fk L K :=
  ⟨hc.eq _ _ h.hs (fun e => (ht _ e).2.2.2.2.2 rfl), h.ca.chg hc (fun b e x => (ht b x).2.1 e), h.ck.chg hc (fun b e x => (ht b x).2.2.1 e), h.chg.trans hc (fun b hb e => absurd (ht b e).1 hb), h.fc, h.fk, h.dis, h.nbs, h.vu,
   fun b o hb => hc.eq b o (h.vm b o hb) (fun e => by rw [(ht b e).2.2.2.1] at hb; cases hb), h.vn, h.vf, h.rl, h.rk, h.kr.chg hc (fun b e x => (ht b x).2.2.2.2.1 e), h.kd⟩
theorem Ed.up (h : Ed ms m F bs bc bk most ka kl kc ks V mm Fc Fk L K) (hc : Le mm m') : Ed ms m F bs bc bk most ka kl kc ks V m' Fc Fk L K := h.chgT (hc.chg fun _ => False) (fun b e => e.elim)
/-- One is asked for. -/
theorem Ed.got {Fc' : Nat → Prop} {L' : List (Int × (Ck × Sl))} (h : Ed ms m F bs bc bk most ka kl kc ks V mm Fc Fk L K) (hc : Chg Fc mm m') (hF : ∀ b, Fc' b → Fc b ∨ mm b = none) (hca : ZK.Ca m' Fc' bc most (kmap fA L')) (hL : ∀ e ∈ L', e ∈ L) :
    Ed ms m F bs bc bk most ka kl kc ks V m' Fc' Fk L' K := by
  have hlv : ∀ b, Fk b → mm b ≠ none := h.ck.lv
  refine ⟨hc.eq _ _ h.hs h.nbs.1, hca, h.ck.chg hc (fun b e x => h.dis b x e), h.chg.trans hc (fun b hb e => (h.fc b e).elim id (fun x => absurd x hb)), ?_, h.fk, ?_, ⟨?_, h.nbs.2⟩, h.vu, ?_, h.vn, ?_, fun e he => h.rl e (hL e he), h.rk, h.kr.chg hc (fun b e => (h.kd b e).1), ?_⟩
  · intro b e
    rcases hF b e with e | e
    · exact h.fc b e
    · exact .inr (h.chg.new e)
  · intro b e x
    rcases hF b e with e | e
    · exact h.dis b e x
    · exact hlv b x e
  · intro e
    rcases hF bs e with e | e
    · exact h.nbs.1 e
    · rw [h.hs] at e; cases e
  · exact fun b o hb => hc.eq b o (h.vm b o hb) (fun e => by rw [h.vf b (.inl e)] at hb; cases hb)
  · rintro b (e | e)
    · rcases hF b e with e | e
      · exact h.vf b (.inl e)
      · exact h.vm.new e
    · exact h.vf b (.inr e)
  · intro b e
    refine ⟨fun x => ?_, (h.kd b e).2⟩
    rcases hF b x with x | x
    · exact (h.kd b e).1 x
    · exact h.kr.live b e x
/-- One is kept. -/
theorem Ed.put {Fk' : Nat → Prop} {K' : List (Int × (Ck × Sl))} (h : Ed ms m F bs bc bk most ka kl kc ks V mm Fc Fk L K) (hc : Chg Fk mm m') (hF : ∀ b, Fk' b → Fk b ∨ mm b = none) (hck : ZK.Ca m' Fk' bk most (kmap fA K')) (hK : ∀ e ∈ K', SpsAt V e.2.2 e.2.1.2.2) :
    Ed ms m F bs bc bk most ka kl kc ks V m' Fc Fk' L K' := by
  have hlv : ∀ b, Fc b → mm b ≠ none := h.ca.lv
  refine ⟨hc.eq _ _ h.hs h.nbs.2, h.ca.chg hc h.dis, hck, h.chg.trans hc (fun b hb e => absurd (h.fk b e) hb), h.fc, ?_, ?_, ⟨h.nbs.1, ?_⟩, h.vu, ?_, h.vn, ?_, h.rl, hK, h.kr.chg hc (fun b e => (h.kd b e).2), ?_⟩
  · intro b e
    rcases hF b e with e | e
    · exact h.fk b e
    · exact h.chg.new e
  · intro b e x
    rcases hF b x with x | x
    · exact h.dis b e x
    · exact hlv b e x
  · intro e
    rcases hF bs e with e | e
    · exact h.nbs.2 e
    · rw [h.hs] at e; cases e
  · exact fun b o hb => hc.eq b o (h.vm b o hb) (fun e => by rw [h.vf b (.inr e)] at hb; cases hb)
  · rintro b (e | e)
    · exact h.vf b (.inl e)
    · rcases hF b e with e | e
      · exact h.vf b (.inr e)
      · exact h.vm.new e
  · intro b e
    refine ⟨(h.kd b e).1, fun x => ?_⟩
    rcases hF b x with x | x
    · exact (h.kd b e).2 x
    · exact h.kr.live b e x
/-- What is new may be spoken of. -/
theorem Ed.grow (h : Ed ms m F bs bc bk most ka kl kc ks V mm Fc Fk L K) (hc : Le mm m') : Ed ms m F bs bc bk most ka kl kc ks (uni V (nw mm m') m') m' Fc Fk L K ∧ Le (nw mm m') (uni V (nw mm m') m') := by
  have h1 := h.up hc
  have hV : Le V (uni V (nw mm m') m') := uni_l h1.vm
  refine ⟨⟨h1.hs, h1.ca, h1.ck, h1.chg, h1.fc, h1.fk, h1.dis, h1.nbs, h.vu.trans hV, uni_le, ?_, ?_, fun e he => (h1.rl e he).le hV, fun e he => (h1.rk e he).le hV, h1.kr, h1.kd⟩, uni_r (nw_le _ _)⟩
  · intro b hb
    rcases uni_of hb with e | e
    · exact h.vn b e
    · exact .inr (h.chg.new (nw_fresh e))
  · intro b hb
    cases hu : uni V (nw mm m') m' b with
    | none => rfl
    | some o =>
      rcases uni_of (by rw [hu]; simp) with e | e
      · exact absurd (h.vf b hb) e
      · have := nw_fresh e
        rcases hb with x | x
        · exact absurd this (h.ca.lv b x)
        · exact absurd this (h.ck.lv b x)
end
section
variable {ms m : Mem} {F : Nat → Prop} {bs : Nat} {most : Int} {lc : List (Int × Ck)}
set_option maxHeartbeats 1000000 in
theorem Edit_spec (h : St ms m F bs most lc) (hll : lc.length ≤ 4000) (hn : (keysOf lc).Nodup) {a b n reach : Int} (ha : Bd 1000000000000 a) (hb : Bd 1000000000000 b) (hnn : Bd 1000000000000 n) (hr : Bd 1000000000000 reach) (hB : ∀ e ∈ lc, Bc 1000000000000 e.2) {R : Ending → Mem → Prop}
    (k : ∀ F' ms' m', Step F F' ms m ms' m' → St ms' m' F' bs most (edL most a b n reach lc) → R (.returned (.tuple #[])) m') :
    HC P chunk_Store_Edit.id #[.pointer (some ⟨bs, 0, none⟩), .int .i64 a, .int .i64 b, .int .i64 n, .int .i64 reach] m R := by
  obtain ⟨⟨bc, Fc, L, h1, h2, h3, h4, h5, h6, h7⟩, le, fr, lv⟩ := h
  subst h3
  rw [keysOf_kmap] at hn
  rw [kmap_len] at hll
  unfold Bd at ha hb hnn hr
  refine chunk_Store_Edit.ok _ _ _ _ _ _ _ ?_
  refine Br.f rfl ?_
  refine LdV.s1 h1 (UnP.mk ?_)
  refine ZK.Keys_spec h2 (by rw [kmap_len]; omega) ?_
  intro ka kc m1 hle1 hka hkf
  dsimp only [Cont]
  refine UnS.mk ?_
  have hkeys : (kmap fA L).map (·.1) = keysOf L := kmap_keys _ _
  rw [hkeys] at hka
  rw [kmap_len] at hka ⊢
  refine Reverse_spec hka (keysOf_len L) (by omega) ?_
  intro m2 hch2 hkr
  have hle2 : Le m m2 := hch2.to_le hle1 hkf
  refine LdV.s0 (hle2 _ _ h1) (UnI.mk ?_)
  refine ZK.New_spec ?_
  intro bk Fk m3 hle3 hFk hck
  dsimp only [Cont]
  refine UnP.mk ?_
  have hle03 : Le m m3 := hle2.trans hle3
  have hFkm : ∀ b, Fk b → m b = none := fun b e => hle2.new (hFk b e)
  have hed : Ed ms m F bs bc bk most ka L.length kc (keysOf L).reverse ms m3 Fc Fk L [] := by
    refine ⟨hle03 _ _ h1, h2.le hle03, hck, hle03.chg _, fun b e => .inl (h6 b e), hFkm, fun b e x => h2.lv b e (hFkm b x), ⟨h7, fun e => by have := hFkm _ e; rw [h1] at this; cases this⟩, Le.refl _, le.trans hle03, fun b e => .inl e, ?_, h4, fun e he => (by cases he), hkr.le hle3, ?_⟩
    · rintro b (e | e)
      · exact fr b (h6 b e)
      · exact le.new (hFkm b e)
    · intro b e
      refine ⟨fun x => h2.lv b x (hkf b e), fun x => hkr.live b e (hFk b x)⟩
  clear hkr hck hle3 hch2 hka hFk hle1
  have hlen : (keysOf L).reverse.length = L.length := by rw [List.length_reverse, keysOf_len]
  refine ⟨fun N s' a' b' n' r' kept' xa xl xc x i mm => s' = some ⟨bs, 0, none⟩ ∧ a' = a ∧ b' = b ∧ n' = n ∧ r' = reach ∧ kept' = some ⟨bk, 0, none⟩ ∧ xa = ka ∧ xl = L.length ∧ xc = kc ∧ x = ((L.length : Nat) : Int) ∧
    ∃ (j : Nat) (V : Mem) (Fc Fk : Nat → Prop) (L' K : List (Int × (Ck × Sl))), i = j ∧ j ≤ L.length ∧ N = L.length - j ∧ Ed ms m F bs bc bk most ka L.length kc (keysOf L).reverse V mm Fc Fk L' K ∧ L'.Perm L ∧ kmap (·.1) K = ((kmap (·.1) L).reverse.take j).foldl (edE most a b (n - (b - a)) reach) [], L.length,
    ⟨rfl, rfl, rfl, rfl, rfl, rfl, rfl, rfl, rfl, rfl, 0, ms, Fc, Fk, L, [], rfl, by omega, by omega, hed, List.Perm.refl _, by simp [kmap]⟩, ?_⟩
  clear hed
  rintro N s' a' b' n' r' kept' xa xl xc x i mm ⟨rfl, rfl, rfl, rfl, rfl, rfl, rfl, rfl, rfl, rfl, j, V, Fc, Fk, L', K, rfl, hj, rfl, hed, hp, hK⟩
  refine BrD (fun hlt => ?_) (fun hge => ?_)
  rotate_left
  · have e : j = L.length := by omega
    subst e
    rw [List.take_of_length_le (by rw [List.length_reverse, kmap_len]; omega)] at hK
    refine St1.to #[.int .i64 most, .pointer (some ⟨bk, 0, none⟩)] hed.hs (by simp) rfl rfl ?_
    have hc := Chg.set mm bs (.cells #[.int .i64 most, .pointer (some ⟨bk, 0, none⟩)] T_chunk_Store (0, 0))
    generalize hmE : mm.set bs (.cells #[.int .i64 most, .pointer (some ⟨bk, 0, none⟩)] T_chunk_Store (0, 0)) = mE at *
    have hbsE : mE bs = some (.cells #[.int .i64 most, .pointer (some ⟨bk, 0, none⟩)] T_chunk_Store (0, 0)) := by rw [← hmE]; exact set_same _ _ _
    have hVbs : V bs = none := by
      cases hv : V bs with
      | none => rfl
      | some o =>
        rcases hed.vn bs (by rw [hv]; simp) with e | e
        · exact absurd (fr bs h5) e
        · rw [h1] at e; cases e
    refine k (fun b => b = bs ∨ Fk b) V mE ⟨?_, hed.vu, hed.vn, ?_⟩ ⟨⟨bk, Fk, K, hbsE, hed.ck.chg hc (by rintro b e rfl; exact hed.nbs.2 e), ?_, hed.rk, .inl rfl, fun b e => .inr e, hed.nbs.2⟩, ?_, ?_, ?_⟩
    · exact hed.chg.trans hc (by rintro b _ rfl; exact h5)
    · rintro b (rfl | e)
      · exact .inl h5
      · exact .inr (hed.fk b e)
    · rw [hK]; rfl
    · exact fun b o hb => hc.eq b o (hed.vm b o hb) (by rintro rfl; rw [hVbs] at hb; cases hb)
    · rintro b (rfl | e)
      · exact hVbs
      · exact hed.vf b (.inr e)
    · rintro b (rfl | e)
      · rw [hbsE]; simp
      · exact hc.live b (hed.ck.lv b e)
  have hj' : j < L.length := by omega
  have hjr : j < L.reverse.length := by rw [List.length_reverse]; exact hj'
  obtain ⟨⟨key, c, cv⟩, he⟩ : ∃ e, L.reverse[j]? = some e := ⟨_, List.getElem?_eq_getElem hjr⟩
  have heL : (key, c, cv) ∈ L := List.mem_reverse.mp (List.mem_of_getElem? he)
  have hkj : (keysOf L).reverse[j]? = some key := by
    have : (keysOf L).reverse = L.reverse.map (·.1) := by unfold keysOf; rw [List.map_reverse]
    rw [this, List.getElem?_map, he]; rfl
  have hcj : ((kmap (fun x : Ck × Sl => x.1) L).reverse)[j]? = some (key, c) := by
    have : (kmap (fun x : Ck × Sl => x.1) L).reverse = L.reverse.map (fun e => (e.1, e.2.1)) := by unfold kmap; rw [List.map_reverse]
    rw [this, List.getElem?_map, he]; rfl
  have hBc := hB (key, c) (by unfold kmap; exact List.mem_map.mpr ⟨_, heL, rfl⟩)
  have hc1 := hBc.1; have hc2 := hBc.2.1
  unfold Bd at hc1 hc2
  dsimp only at hc1 hc2
  have hBc' : Bc 1000000000000000 c := Bc.mono hBc (by decide)
  refine IxS.ints hed.kr.cells hlen (by omega) (by omega) ?_
  intro key' hkey'
  rw [Int.toNat_natCast, hkj] at hkey'
  cases hkey'
  refine UnI.mk ?_
  refine LdV.s1 hed.hs (UnP.mk ?_)
  have hn' : (keysOf L').Nodup := (hp.map (fun e : Int × (Ck × Sl) => e.1)).nodup_iff.mpr hn
  obtain ⟨i, hi, hie⟩ := ix_entry hn' (hp.mem_iff.mpr heL)
  dsimp only at hi hie
  have hLl : L'.length = L.length := hp.length_eq
  refine ZK.Get_some hed.ca (by rw [kmap_len]; omega) (k := key) (i := i) (x := (key, fA (c, cv))) (by rw [kmap_ix]; exact hi) (by unfold kmap; rw [List.getElem?_map, hie]; rfl) ?_
  intro Fc' m5 hch5 hF5 hca5
  rw [kmap_get] at hca5
  have hed5 := hed.got hch5 hF5 hca5 (fun e he => getL_mem' he)
  intro b14 hb14
  refine St1.three (set_same _ _ _) rfl rfl rfl ?_
  rw [set_set]
  have hle14 := Le.set hb14 (.cells #[.int .i64 c.1, .int .i64 c.2.1, .slice cv.1 cv.2.1 cv.2.2] T_chunk_Chunk (0, 0))
  have g14 := set_same m5 b14 (.cells #[.int .i64 c.1, .int .i64 c.2.1, .slice cv.1 cv.2.1 cv.2.2] T_chunk_Chunk (0, 0))
  have hed6 := hed5.up hle14
  refine LdV.s1 g14 (UnI.mk ?_)
  rw [wi (n := a' - r') (by omega) (by omega)]
  have hKl : K.length ≤ 4000 := by
    have e1 := congrArg List.length hK
    rw [kmap_len] at e1
    have e2 := edF_len most a' b' (n' - (b' - a')) r' ((kmap (fun x : Ck × Sl => x.1) L).reverse.take j) []
    rw [List.length_take, List.length_reverse, kmap_len] at e2
    simp only [List.length_nil] at e2
    omega
  have hfold : ((kmap (fun x : Ck × Sl => x.1) L).reverse.take (j + 1)).foldl (edE most a' b' (n' - (b' - a')) r') [] = edE most a' b' (n' - (b' - a')) r' (kmap (fun x : Ck × Sl => x.1) K) (key, c) := by
    rw [List.take_add_one, hcj, List.foldl_append, hK]; rfl
  have hnext : ∀ {V2 : Mem} {Fc2 Fk2 : Nat → Prop} {K2 : List (Int × (Ck × Sl))} {m9 : Mem}, Ed ms m F bs bc bk most xa L.length xc (keysOf L).reverse V2 m9 Fc2 Fk2 (getL key L') K2 → kmap (fun x : Ck × Sl => x.1) K2 = edE most a' b' (n' - (b' - a')) r' (kmap (fun x : Ck × Sl => x.1) K) (key, c) →
      ∃ (j_1 : Nat) (V : Mem) (Fc Fk : Nat → Prop) (L'_1 K_1 : List (Int × (Ck × Sl))), IntKind.i64.wrap ((j : Int) + 1) = j_1 ∧ j_1 ≤ L.length ∧ L.length - (j + 1) = L.length - j_1 ∧ Ed ms m F bs bc bk most xa L.length xc (keysOf L).reverse V m9 Fc Fk L'_1 K_1 ∧ L'_1.Perm L ∧ kmap (·.1) K_1 = ((kmap (·.1) L).reverse.take j_1).foldl (edE most a' b' (n' - (b' - a')) r') [] := by
    intro V2 Fc2 Fk2 K2 m9 h9 hk9
    refine ⟨j + 1, V2, Fc2, Fk2, getL key L', K2, ?_, by omega, rfl, h9, (getL_perm key L').trans hp, by rw [hk9, hfold]⟩
    rw [wi (by omega) (by omega)]; omega
  refine BrD (fun hle => ?_) (fun hgt => ?_)
  · refine LdV.s0 g14 (LdV.s0 g14 (LdV.s1 g14 (LdV.s2 g14 ?_)))
    refine ZK.Put_spec hed6.ck (by rw [kmap_len]; omega) c.1 (fA (c, cv)) ?_
    intro Fk' m7 hch7 hF7 hck7
    rw [kmap_put] at hck7
    have hed7 := hed6.put hch7 hF7 hck7 (fun e he => by
      rcases putL_mem' he with rfl | he
      · exact hed.rl (key, c, cv) (hp.mem_iff.mpr heL)
      · exact hed6.rk e he)
    refine ⟨L.length - (j + 1), by omega, rfl, rfl, rfl, rfl, rfl, rfl, rfl, rfl, rfl, rfl, hnext hed7 ?_⟩
    unfold edE
    rw [if_pos (by exact hle), ← kmap_put]
  refine LdV.s0 g14 (UnI.mk ?_)
  rw [wi (n := c.1 - r') (by omega) (by omega)]
  refine BrD (fun hge2 => ?_) (fun hlt2 => ?_)
  rotate_left
  · refine ⟨L.length - (j + 1), by omega, rfl, rfl, rfl, rfl, rfl, rfl, rfl, rfl, rfl, rfl, hnext hed6 ?_⟩
    unfold edE
    rw [if_neg (by exact hgt), if_neg (by exact hlt2)]
  refine LdV.s0 g14 (LdV.s1 g14 (LdV.s2 g14 ?_))
  rw [wi (n := b' - a') (by omega) (by omega), wi (n := n' - (b' - a')) (by omega) (by omega)]
  have hcr : SpsAt V cv c.2.2 := hed.rl _ (hp.mem_iff.mpr heL)
  refine move_spec (hcr.le hed6.vm) hBc'.2.2 hBc'.1 hBc'.2.1 (by unfold Bd; omega) ?_
  intro v' m7 hle7 hsp
  obtain ⟨hed7, hnw7⟩ := hed6.grow hle7
  have hv14 : uni V (nw (m5.set b14 (.cells #[.int .i64 c.1, .int .i64 c.2.1, .slice cv.1 cv.2.1 cv.2.2] T_chunk_Chunk (0, 0))) m7) m7 b14 = none := by
    cases hu : uni V (nw (m5.set b14 (.cells #[.int .i64 c.1, .int .i64 c.2.1, .slice cv.1 cv.2.1 cv.2.2] T_chunk_Chunk (0, 0))) m7) m7 b14 with
    | none => rfl
    | some o =>
      rcases uni_of (by rw [hu]; simp) with e | e
      · exact absurd (hed5.vm.new hb14) e
      · have := nw_fresh e; rw [g14] at this; cases this
  refine St1.three (hle7 _ _ g14) rfl rfl rfl ?_
  have hc8 := Chg.set m7 b14 (.cells #[.int .i64 (c.1 + (n' - (b' - a'))), .int .i64 (c.2.1 + (n' - (b' - a'))), .slice v'.1 v'.2.1 v'.2.2] T_chunk_Chunk (0, 0))
  have g148 := set_same m7 b14 (.cells #[.int .i64 (c.1 + (n' - (b' - a'))), .int .i64 (c.2.1 + (n' - (b' - a'))), .slice v'.1 v'.2.1 v'.2.2] T_chunk_Chunk (0, 0))
  have hed8 := hed7.chgT hc8 (by
    rintro b rfl
    refine ⟨hed5.chg.new hb14, fun e => hed5.ca.lv _ e hb14, fun e => hed5.ck.lv _ e hb14, hv14, fun e => hed5.kr.live _ e hb14, ?_⟩
    rintro rfl
    rw [hed5.hs] at hb14; cases hb14)
  refine LdV.s0 g148 (UnI.mk ?_)
  refine LdV.s0 g148 (LdV.s1 g148 (LdV.s2 g148 ?_))
  refine ZK.Put_spec hed8.ck (by rw [kmap_len]; omega) (c.1 + (n' - (b' - a'))) (fA (mvc (n' - (b' - a')) c, v')) ?_
  intro Fk' m9 hch9 hF9 hck9
  rw [kmap_put] at hck9
  have hed9 := hed8.put hch9 hF9 hck9 (fun e he => by
    rcases putL_mem' he with rfl | he
    · exact hsp.le hnw7
    · exact hed8.rk e he)
  refine ⟨L.length - (j + 1), by omega, rfl, rfl, rfl, rfl, rfl, rfl, rfl, rfl, rfl, rfl, hnext hed9 ?_⟩
  unfold edE
  rw [if_neg (by exact hgt), if_pos (by exact hge2), ← kmap_put]
end
end Go.E.Ck
set_option linter.unusedVariables false
set_option linter.unusedSimpArgs false
set_option maxRecDepth 20000
namespace Go.E.Ck
open Go.H Go.E
def ckv (p : Ck × Sl) : List Value := [.int .i64 p.1.1, .int .i64 p.1.2.1, .slice p.2.1 p.2.2.1 p.2.2.2]
theorem cklen (p : Ck × Sl) : (ckv p).length = 3 := rfl
theorem ckone (p : Ck × Sl) : ∀ v ∈ ckv p, notOne v = false := by
  intro v hv
  simp only [ckv, List.mem_cons, List.not_mem_nil, or_false] at hv
  rcases hv with rfl | rfl | rfl <;> rfl
theorem ElemOK_ck : ElemOK P T_sl_chunk_Chunk T_chunk_Chunk (.agg #[.int .i64 0, .int .i64 0, .slice none 0 0]) 3 40 := .of (by kernel_rfl) (by kernel_rfl) rfl
theorem nws_chg2 {m m1 m2 : Mem} {S S' : Nat → Prop} (h : Chg S m1 m2) (hb : ∀ b, m b = none → S' b → S b ∨ m1 b = none) : Le (nws m m1 S) (nws m m2 S') := fun b o hbo => by
  obtain ⟨h1, h2, h3⟩ := nws_in hbo
  refine nws_of (h.eq b o h1 h3) h2 (fun e => ?_)
  rcases hb b h2 e with e | e
  · exact h3 e
  · rw [e] at h1; cases h1
end Go.E.Ck
set_option linter.unusedVariables false
set_option linter.unusedSimpArgs false
namespace Go.H
open Go.Sort Go.RowKit
theorem HC_putK {P : Program} {f : FuncId} {fn : Func} {args : Array Value} {m : Mem} {R : Ending → Mem → Prop} {e0 : Ending} {blk : Nat} {cur : Array Value} {e : TypeId} {fr : Nat × Nat} {D : Array Value → Prop} (hf : P.funcs[f]? = some fn) (hn : (fn.name == "runtime.NumGoroutine") = false) (hb : fn.body.isNone = false) (h0 : e0 ≠ .outgrown)
    (hm : m blk = some (.cells cur e fr))
    (h : ∀ w, Fit m w → Calls P f args w fun e1 w' => e1 = e0 ∧ ∃ d n os, D d ∧ w' = grow (putRow id (Sort.ahead w n) blk 0 d) os)
    (k : ∀ d, D d → R e0 (m.set blk (.cells (Go.Sort.putCells id 0 d cur) e fr))) : HC P f args m R := by
  refine .inl ⟨fun w => callFunc_enters hf hn hb args w, fun w hF => ?_⟩
  refine (h w hF).mono ?_
  rintro e1 w' ⟨rfl, d, n, os, hd, rfl⟩
  have hlt : blk < w.heap.size := hF.lt hm
  have hheap : (grow (putRow id (Sort.ahead w n) blk 0 d) os).heap = w.heap.modify blk (onCells (Go.Sort.putCells id 0 d)) ++ os := rfl
  have hat : ∀ b, b < w.heap.size → (grow (putRow id (Sort.ahead w n) blk 0 d) os).heap[b]? = if blk = b then (w.heap[b]?).map (onCells (Go.Sort.putCells id 0 d)) else w.heap[b]? := by
    intro b hb'
    rw [hheap, Array.getElem?_append_left (by rw [Array.size_modify]; exact hb'), Array.getElem?_modify]
  refine ⟨_, h0, k d hd, fun b o hbo => ?_, rfl, rfl, rfl, ?_, fun b hb' hmb => ?_, fun b hb' hmb => ?_⟩
  · unfold Mem.set at hbo
    split at hbo
    · rename_i e2
      subst e2
      cases hbo
      rw [hat b hlt, if_pos rfl, hF b _ hm]
      rfl
    · rename_i e2
      rw [hat b (hF.lt hbo), if_neg (Ne.symm e2)]
      exact hF b o hbo
  · rw [hheap, Array.size_append, Array.size_modify]; omega
  · rw [hat b hb', if_neg]
    rintro rfl
    rw [hm] at hmb; cases hmb
  · unfold Mem.set
    rw [if_neg]
    · exact hmb
    · rintro rfl
      rw [hm] at hmb; cases hmb
theorem putK_toList {cur : Array Value} {d : Array Value} (h : d.size ≤ cur.size) : (Go.Sort.putCells id 0 d cur).toList = d.toList ++ cur.toList.drop d.size := by
  apply List.ext_getElem?
  intro i
  rw [Array.getElem?_toList]
  unfold Go.Sort.putCells
  rw [Array.getElem?_mapIdx]
  by_cases hi : i < d.size
  · rw [List.getElem?_append_left (by simpa using hi), Array.getElem?_eq_getElem (by omega), Array.getElem?_toList, Array.getElem?_eq_getElem hi]
    simp [hi]
  · rw [List.getElem?_append_right (by simp; omega), Array.length_toList, List.getElem?_drop, show d.size + (i - d.size) = i by omega, Array.getElem?_toList]
    cases cur[i]? with
    | none => rfl
    | some v => simp [hi]
section
variable {α : Type} [Inhabited α]
theorem flatK_toList {enc : α → List Value} {k : Nat} (hk : ∀ x, (enc x).length = k) (hk0 : 0 < k) (d : Array α) : (flatK enc k d).toList = d.toList.flatMap enc := by
  apply List.ext_getElem?
  intro t
  have hlen : (d.toList.flatMap enc).length = d.size * k := by rw [rows_len hk]; simp
  rcases Nat.lt_or_ge t (d.size * k) with ht | ht
  · have hq : t / k < d.size := by rw [Nat.div_lt_iff_lt_mul hk0]; exact ht
    have hr : t % k < k := Nat.mod_lt _ hk0
    have h1 : d.toList[t / k]? = some d[t / k]! := by rw [Array.getElem?_toList]; simp [hq]
    have h2 : (enc d[t / k]!)[t % k]? = some ((enc d[t / k]!)[t % k]!) := by
      have : t % k < (enc d[t / k]!).length := by rw [hk]; exact hr
      rw [List.getElem?_eq_getElem this, List.getElem!_eq_getElem?_getD, List.getElem?_eq_getElem this]; rfl
    have h3 := rows_get hk h1 _ _ h2
    rw [show t / k * k + t % k = t by rw [Nat.mul_comm]; exact Nat.div_add_mod t k] at h3
    rw [h3, Array.getElem?_toList]
    have hs : t < (flatK enc k d).size := by rw [size_flatK]; exact ht
    rw [Array.getElem?_eq_getElem hs, ← get_flatK enc k d t ht, getElem!_pos _ t hs]
  · rw [List.getElem?_eq_none (by simp; exact ht), List.getElem?_eq_none (by rw [hlen]; exact ht)]
/-- A row of one's own is what the contracts hold. -/
theorem own_holdsK {m : Mem} {w : World} (hF : Fit m w) {b l k : Nat} {e : TypeId} {enc : α → List Value} (hk : ∀ x, (enc x).length = k) (hk0 : 0 < k) {d : Array α} {cur : Array Value} (hm : m b = some (.cells cur e (0, 0))) (ht : cur.toList.take (l * k) = d.toList.flatMap enc) (hl : d.size = l) : HoldsK enc k w b 0 d := by
  intro j hj
  have hw := hF b _ hm
  have hc : cur[j]? = some ((flatK enc k d)[j]!) := by
    have : (cur.toList.take (l * k))[j]? = some ((flatK enc k d)[j]!) := by
      rw [ht, ← flatK_toList hk hk0, Array.getElem?_toList, Array.getElem?_eq_getElem hj, getElem!_pos _ j hj]
    rw [List.getElem?_take] at this
    split at this
    · rw [Array.getElem?_toList] at this; exact this
    · cases this
  refine ⟨?_, ?_⟩
  · unfold World.cell?
    rw [Nat.zero_add]
    simp only [hw]
    show cur[j]? = _
    rw [hc]; rfl
  · unfold World.frozen?
    simp only [hw]
    simp
theorem own_putK {m : Mem} {b c k : Nat} {e : TypeId} {enc : α → List Value} (hk : ∀ x, (enc x).length = k) (hk0 : 0 < k) {d : Array α} {cur : Array Value} (hm : m b = some (.cells cur e (0, 0))) (hs : cur.size = c * k) (hlc : d.size ≤ c) (hcm : c ≤ 9223372036854775807) :
    Own (m.set b (.cells (Go.Sort.putCells id 0 (flatK enc k d) cur) e (0, 0))) e k (some ⟨b, 0, none⟩) d.size c (d.toList.flatMap enc) := by
  have hfs : (flatK enc k d).size ≤ cur.size := by rw [size_flatK, hs]; exact Nat.mul_le_mul_right _ hlc
  refine ⟨by rw [rows_len hk]; simp, .inr ⟨b, _, rfl, set_same _ _ _, hlc, ?_, ?_, hcm⟩⟩
  · unfold Go.Sort.putCells; rw [Array.size_mapIdx]; exact hs
  · rw [putK_toList hfs, flatK_toList hk hk0, List.take_append_of_le_length (by rw [rows_len hk]; simp), List.take_of_length_le (by rw [rows_len hk]; simp)]
end
end Go.H
set_option linter.unusedVariables false
set_option linter.unusedSimpArgs false
set_option maxRecDepth 20000
namespace Go.Proofs
open Go.Shelf
def Try.sortC_ren : Go.Shelf.Ren := ⟨fun | 6 => 19 | 15 => 28 | 14 => 27 | 28 => 42 | 29 => 43 | 20 => 34 | 21 => 35 | 22 => 36 | 23 => 37 | 24 => 38 | 25 => 39 | 26 => 40 | 27 => 41 | 46 => 46 | 47 => 47 | 48 => 48 | 49 => 49 | 50 => 50 | 57 => 52 | n => n, fun | 22 => 31 | 24 => 28 | 25 => 55 | 3 => 3 | 39 => 69 | 0 => 0 | 53 => 83 | 55 => 85 | 4 => 4 | 46 => 77 | 45 => 76 | 50 => 43 | 5 => 5 | 9 => 9 | 66 => 88 | 70 => 92 | 76 => 94 | 77 => 95 | n => n, fun | n => n⟩
theorem Try.sortC : Go.Proofs.SlLaysF0.n6 Try.prog Try.sortC_ren := {
  mixed := by kernel_rfl
  f6 := ⟨Try.f19.name, by decide, Try.func19.trans (congrArg some (by kernel_rfl))⟩
  f14 := ⟨Try.f27.name, by decide, Try.func27.trans (congrArg some (by kernel_rfl))⟩
  f15 := Try.func28.trans (congrArg some (by kernel_rfl))
  f20 := ⟨Try.f34.name, by decide, Try.func34.trans (congrArg some (by kernel_rfl))⟩
  f21 := ⟨Try.f35.name, by decide, Try.func35.trans (congrArg some (by kernel_rfl))⟩
  f22 := ⟨Try.f36.name, by decide, Try.func36.trans (congrArg some (by kernel_rfl))⟩
  f23 := ⟨Try.f37.name, by decide, Try.func37.trans (congrArg some (by kernel_rfl))⟩
  f24 := ⟨Try.f38.name, by decide, Try.func38.trans (congrArg some (by kernel_rfl))⟩
  f25 := ⟨Try.f39.name, by decide, Try.func39.trans (congrArg some (by kernel_rfl))⟩
  f26 := ⟨Try.f40.name, by decide, Try.func40.trans (congrArg some (by kernel_rfl))⟩
  f27 := ⟨Try.f41.name, by decide, Try.func41.trans (congrArg some (by kernel_rfl))⟩
  f28 := Try.func42.trans (congrArg some (by kernel_rfl))
  f29 := Try.func43.trans (congrArg some (by kernel_rfl))
  f46 := ⟨Try.f46.name, by decide, Try.func46.trans (congrArg some (by kernel_rfl))⟩
  f47 := Try.func47.trans (congrArg some (by kernel_rfl))
  f48 := Try.func48.trans (congrArg some (by kernel_rfl))
  f49 := ⟨Try.f49.name, by decide, Try.func49.trans (congrArg some (by kernel_rfl))⟩
  f50 := ⟨Try.f50.name, by decide, Try.func50.trans (congrArg some (by kernel_rfl))⟩
  f57 := ⟨Try.f52.name, by decide, Try.func52.trans (congrArg some (by kernel_rfl))⟩
  t0 := Try.underlying0
  a0 := Try.isAgg0
  z0 := Try.sizeOf0
  v0 := Try.zeroValue0
  t3 := Try.underlying3
  a3 := Try.isAgg3
  z3 := Try.sizeOf3
  v3 := Try.zeroValue3
  t4 := Try.underlying4
  a4 := Try.isAgg4
  z4 := Try.sizeOf4
  v4 := Try.zeroValue4
  t5 := Try.underlying5
  a5 := Try.isAgg5
  z5 := Try.sizeOf5
  v5 := Try.zeroValue5
  t9 := Try.underlying9
  a9 := Try.isAgg9
  z9 := Try.sizeOf9
  v9 := Try.zeroValue9
  t22 := Try.underlying31
  a22 := Try.isAgg31
  z22 := Try.sizeOf31
  v22 := Try.zeroValue31
  t25 := Try.underlying55
  a25 := Try.isAgg55
  z25 := Try.sizeOf55
  v25 := Try.zeroValue55
  t39 := Try.underlying69
  a39 := Try.isAgg69
  z39 := Try.sizeOf69
  v39 := Try.zeroValue69
  t45 := Try.underlying76
  a45 := Try.isAgg76
  z45 := Try.sizeOf76
  v45 := Try.zeroValue76
  t46 := Try.underlying77
  a46 := Try.isAgg77
  z46 := Try.sizeOf77
  v46 := Try.zeroValue77
  t50 := Try.underlying43
  a50 := Try.isAgg43
  z50 := Try.sizeOf43
  v50 := Try.zeroValue43
  t53 := Try.underlying83
  a53 := Try.isAgg83
  z53 := Try.sizeOf83
  v53 := Try.zeroValue83
  t55 := Try.underlying85
  a55 := Try.isAgg85
  z55 := Try.sizeOf85
  v55 := Try.zeroValue85
  t66 := Try.underlying88
  a66 := Try.isAgg88
  z66 := Try.sizeOf88
  v66 := Try.zeroValue88
  t70 := Try.underlying92
  a70 := Try.isAgg92
  z70 := Try.sizeOf92
  v70 := Try.zeroValue92
  t76 := Try.underlying94
  a76 := Try.isAgg94
  z76 := Try.sizeOf94
  v76 := Try.zeroValue94
  t77 := Try.underlying95
  a77 := Try.isAgg95
  z77 := Try.sizeOf95
  v77 := Try.zeroValue95 }
end Go.Proofs
namespace Go.E.Ck
open Go.H Go.E Go.Sort Go.RowKit
attribute [local irreducible] BiN MkS ConvN LookN MapUpN CallV HC
abbrev BC := {p : Ck × Sl // Bd 1000000000000000 p.1.1}
instance : Inhabited BC := ⟨⟨((0, 0, []), (none, 0, 0)), by unfold Bd; decide⟩⟩
def cfC (x y : BC) : Int := x.1.1.1 - y.1.1.1
theorem swoC : SWO (Go.Proofs.ltOf cfC) where
  irrefl x := by unfold Go.Proofs.ltOf cfC; simp
  trans x y z h1 h2 := by unfold Go.Proofs.ltOf cfC at *; simp at *; omega
  ntrans x y z h1 h2 := by unfold Go.Proofs.ltOf cfC at *; simp at *; omega
end Go.E.Ck
namespace Go.Proofs
open Go.Shelf Go.RowKit Go.Lib Go.Sort
set_option maxHeartbeats 1000000 in
theorem closC (x y : Int) (x1 y1 : Int) (xs ys : Value) (h : -9223372036854775808 ≤ x - y ∧ x - y ≤ 9223372036854775807) (W : World) : Calls Try.prog 20 #[.agg #[.int .i64 x, .int .i64 x1, xs], .agg #[.int .i64 y, .int .i64 y1, ys]] W fun e w' => e = .returned (.int .i64 (x - y)) ∧ ∃ q os', w' = grow (W.drewN q) os' := by
  have hw : IntKind.i64.wrap (x - y) = x - y := IntWalk.i64_in _ h
  go_enter Try.func20, Try.ntmps20
  go_wp2
  go_ret
  exact ⟨rfl, 0, _, by rw [alloc_eq_grow, alloc_eq_grow, grow_grow]; rfl⟩
end Go.Proofs
namespace Go.E.Ck
open Go.H Go.E Go.Sort Go.RowKit
attribute [local irreducible] BiN MkS ConvN LookN MapUpN CallV HC
def encB (x : BC) : List Value := ckv x.1
theorem oneB : ∀ (x : BC), ∀ v ∈ encB x, v.oneCell' = true := by
  intro x v hv
  simp only [encB, ckv, List.mem_cons, List.not_mem_nil, or_false] at hv
  rcases hv with rfl | rfl | rfl <;> rfl
theorem cmpC (blk off size : Nat) (w : World) : Go.Proofs.CmpLays P 20 #[] encB 3 cfC blk off size w := fun m os dk hs x y => by
  obtain ⟨⟨⟨xa, xb, xs⟩, xv⟩, hx⟩ := x
  obtain ⟨⟨⟨ya, yb, ys⟩, yv⟩, hy⟩ := y
  unfold Bd at hx hy
  exact Go.Proofs.closC xa ya xb yb (.slice xv.1 xv.2.1 xv.2.2) (.slice yv.1 yv.2.1 yv.2.2) (by dsimp only at hx hy; omega) _
theorem SortC_none {m : Mem} {f : Value} {R : Ending → Mem → Prop} (k : R (.returned (.tuple #[])) m) : HC P slices_SortFunc_s_chunk_Chunk_chunk_Chunk.id #[.slice none 0 0, f] m R := by
  refine slices_SortFunc_s_chunk_Chunk_chunk_Chunk.ok _ _ _ _ _ _ ?_
  refine math_bits_Len.ok _ _ _ ?_
  refine math_bits_Len64.ok _ _ _ ?_
  refine BrDf (by decide) ?_
  refine BrDf (by decide) ?_
  refine BrDf (by decide) ?_
  refine ⟨by decide, by decide, ?_⟩
  refine slices_pdqsortCmpFunc_chunk_Chunk.ok _ _ _ _ _ _ _ _ _ ?_
  refine ⟨fun N a1 l1 c1 a b l f' w1 w2 mm => a1 = none ∧ l1 = 0 ∧ c1 = 0 ∧ a = 0 ∧ b = 0 ∧ f' = f ∧ mm = m, 0, ⟨rfl, rfl, rfl, rfl, rfl, rfl, rfl⟩, ?_⟩
  rintro N a1 l1 c1 a b l f' w1 w2 mm ⟨rfl, rfl, rfl, rfl, rfl, rfl, rfl⟩
  refine BrDt (by decide) ?_
  refine slices_insertionSortCmpFunc_chunk_Chunk.ok _ _ _ _ _ _ _ _ ?_
  refine ⟨fun N a1 l1 c1 a b f2 i mm2 => b = 0 ∧ i = 1 ∧ mm2 = mm, 0, ⟨rfl, by decide, rfl⟩, ?_⟩
  rintro N a1 l1 c1 a b f2 i mm2 ⟨rfl, rfl, rfl⟩
  exact BrDf (by decide) k
theorem SortC_spec {m : Mem} {oa : Option Addr} {oc : Nat} {rp : List (Ck × Sl)} (ho : Own m T_chunk_Chunk 3 oa rp.length oc (rp.flatMap ckv)) (hl : rp.length ≤ 1000000000) (hb : ∀ p ∈ rp, Bd 1000000000000000 p.1.1) {R : Ending → Mem → Prop}
    (k : ∀ (m' : Mem) (rp' : List (Ck × Sl)), rp'.Perm rp → rp'.Pairwise (fun p q => p.1.1 ≤ q.1.1) → Chg (fun b => blk oa = some b) m m' → Own m' T_chunk_Chunk 3 oa rp.length oc (rp'.flatMap ckv) → R (.returned (.tuple #[])) m') :
    HC P slices_SortFunc_s_chunk_Chunk_chunk_Chunk.id #[.slice oa rp.length oc, .func (.func chunk_Store_Kept_1.id) #[] #[]] m R := by
  rcases ho.2 with ⟨rfl, hl0, hc⟩ | ⟨b, cur, rfl, hm, hlc, hs, ht, hcm⟩
  · have hz : rp = [] := List.eq_nil_of_length_eq_zero hl0
    subst hz
    have k' := k m [] (List.Perm.refl _) List.Pairwise.nil (Chg.refl _ _) ho
    rw [hc]
    exact SortC_none k'
  · have hd : ∃ d : Array BC, d.toList.map (·.1) = rp := ⟨(rp.attach.map fun p => (⟨p.1, hb p.1 p.2⟩ : BC)).toArray, by
      rw [List.toList_toArray, List.map_map]
      exact List.attach_map_subtype_val rp⟩
    obtain ⟨d, hd⟩ := hd
    have hds : d.size = rp.length := by rw [← hd]; simp
    have hfl : ∀ e : Array BC, e.toList.flatMap encB = (e.toList.map (·.1)).flatMap ckv := fun e => by rw [List.flatMap_map]; rfl
    refine HC_putK (cur := cur) (e := T_chunk_Chunk) (e0 := .returned (.tuple #[])) (D := fun F => ∃ d' : Array BC, F = flatK encB 3 d' ∧ PermIn 0 d.size d d' ∧ SortedIn (Go.Proofs.ltOf cfC) 0 d.size d') Go.Proofs.Try.func19 (by kernel_rfl) (by kernel_rfl) (by simp) hm (fun w hF => ?_) ?_
    · have hH : HoldsK encB 3 w b 0 d := own_holdsK (enc := encB) (k := 3) (d := d) hF (fun _ => rfl) (by decide) hm (by rw [hfl, hd]; exact ht) hds
      have eg : ∀ args w, (callFunc 20 args).run P w = .ok (.enter 20 args) w := Go.Proofs.enters_of Go.Proofs.Try.func20 (by kernel_rfl) rfl
      have h19 : Calls P 19 #[.slice (some ⟨b, 0, none⟩) d.size oc, .func (.func 20) #[] #[]] w fun e w' => e = .returned (.tuple #[]) ∧ ∃ d' n os, PermIn 0 d.size d d' ∧ SortedIn (Go.Proofs.ltOf cfC) 0 d.size d' ∧ w' = Go.Proofs.sortWorldK encB 3 w b 0 n d' os :=
        Go.Proofs.AnyQ.slices_SortFunc Go.Proofs.Try.sortC 3 Go.Proofs.Try.isAgg28 Go.Proofs.Try.sizeOf28 encB (fun _ => rfl) oneB cfC swoC 20 #[] b 0 oc d w eg (cmpC b 0 d.size w) hH (hF.lt hm) (by omega)
      rw [← hds]
      exact h19.mono (fun e w' ⟨h1, d', n, os, h2, h3, h4⟩ => ⟨h1, flatK encB 3 d', n, os, ⟨d', rfl, h2, h3⟩, h4⟩)
    · rintro F ⟨d', rfl, hperm, hsort⟩
      have hs' : d'.size = d.size := hperm.1
      have hp : d'.toList.Perm d.toList := by
        have := hperm.2.2
        rw [Array.extract_eq_self_of_le (by omega), Array.extract_eq_self_of_le (by omega)] at this
        exact this
      have hp' : (d'.toList.map (·.1)).Perm rp := by rw [← hd]; exact hp.map _
      refine k _ (d'.toList.map (·.1)) hp' ?_ ?_ ?_
      · rw [List.pairwise_map, List.pairwise_iff_getElem]
        intro i j hi hj hij
        have h := hsort i j (by omega) hij (by simpa [hs'] using hj)
        have hi' : i < d'.size := by simpa using hi
        have hj' : j < d'.size := by simpa using hj
        unfold Go.Proofs.ltOf cfC at h
        rw [getElem!_pos d' j hj', getElem!_pos d' i hi'] at h
        simp only [decide_eq_false_iff_not] at h
        rw [Array.getElem_toList, Array.getElem_toList]
        omega
      · exact (Chg.set m b _).mono (fun k e => by rw [show k = b from e]; rfl)
      · have := own_putK (enc := encB) (k := 3) (fun _ => rfl) (by decide) (d := d') hm hs (by omega) hcm
        rw [hfl, hs', hds] at this
        exact this
end Go.E.Ck
set_option linter.unusedVariables false
set_option linter.unusedSimpArgs false
set_option maxRecDepth 20000
namespace Go.E.Ck
open Go.H Go.E
attribute [local irreducible] BiN MkS ConvN LookN MapUpN CallV HC
structure Kp (ms m : Mem) (F : Nat → Prop) (bs bc : Nat) (most : Int) (ka : Option Addr) (kl kc : Nat) (ks : List Int) (mm : Mem) (Fc : Nat → Prop) (L : List (Int × (Ck × Sl))) (oa : Option Addr) (oc : Nat) (rp : List (Ck × Sl)) : Prop where
  hs : mm bs = some (.cells #[.int .i64 most, .pointer (some ⟨bc, 0, none⟩)] T_chunk_Store (0, 0))
  ca : ZK.Ca mm Fc bc most (kmap fA L)
  chg : Chg F m mm
  fc : ∀ b, Fc b → F b ∨ m b = none
  nbs : ¬ Fc bs
  le : Le ms mm
  fr : ∀ b, Fc b → ms b = none
  rl : ∀ e ∈ L, SpsAt ms e.2.2 e.2.1.2.2
  kr : Own mm T_int 1 ka kl kc (ints ks)
  kd : ∀ b, blk ka = some b → ¬ Fc b
  ow : Own mm T_chunk_Chunk 3 oa rp.length oc (rp.flatMap ckv)
  of : Fresh m oa
  od : ∀ b, blk oa = some b → ¬ Fc b
  ms0 : ∀ b, blk oa = some b → ms b = none
  rs : ∀ p ∈ rp, SpsAt (nws m mm fun b => Fc b ∨ blk oa = some b) p.2 p.1.2.2
section
variable {ms m mm m' : Mem} {F Fc : Nat → Prop} {bs bc : Nat} {most : Int} {ka : Option Addr} {kl kc : Nat} {ks : List Int} {L : List (Int × (Ck × Sl))} {oa : Option Addr} {oc : Nat} {rp : List (Ck × Sl)}
theorem Kp.up (h : Kp ms m F bs bc most ka kl kc ks mm Fc L oa oc rp) (k : Le mm m') : Kp ms m F bs bc most ka kl kc ks m' Fc L oa oc rp :=
  ⟨k _ _ h.hs, h.ca.le k, h.chg.trans (k.chg fun _ => False) (fun b _ e => e.elim), h.fc, h.nbs, h.le.trans k, h.fr, h.rl, h.kr.le k, h.kd, h.ow.le k, h.of, h.od, h.ms0, fun p hp => (h.rs p hp).le (nws_up k)⟩
theorem Kp.got {Fc' : Nat → Prop} {L' : List (Int × (Ck × Sl))} (h : Kp ms m F bs bc most ka kl kc ks mm Fc L oa oc rp) (hc : Chg Fc mm m') (hF : ∀ b, Fc' b → Fc b ∨ mm b = none) (hca : ZK.Ca m' Fc' bc most (kmap fA L')) (hL : ∀ e ∈ L', e ∈ L) :
    Kp ms m F bs bc most ka kl kc ks m' Fc' L' oa oc rp := by
  refine ⟨hc.eq _ _ h.hs h.nbs, hca, h.chg.trans hc (fun b hb e => (h.fc b e).elim id (fun x => absurd x hb)), ?_, ?_, ?_, ?_, fun e he => h.rl e (hL e he), h.kr.chg hc h.kd, ?_, h.ow.chg hc h.od, h.of, ?_, h.ms0, ?_⟩
  · intro b e
    rcases hF b e with e | e
    · exact h.fc b e
    · exact .inr (h.chg.new e)
  · intro e
    rcases hF bs e with e | e
    · exact h.nbs e
    · rw [h.hs] at e; cases e
  · exact fun b o hb => hc.eq b o (h.le b o hb) (fun e => by rw [h.fr b e] at hb; cases hb)
  · intro b e
    rcases hF b e with e | e
    · exact h.fr b e
    · exact h.le.new e
  · intro b e x
    rcases hF b x with x | x
    · exact h.kd b e x
    · exact h.kr.live b e x
  · intro b e x
    rcases hF b x with x | x
    · exact h.od b e x
    · exact h.ow.live b e x
  · intro p hp
    refine (h.rs p hp).le (nws_chg (hc.mono fun b e => .inl e) ?_)
    rintro b (e | e)
    · exact (hF b e).imp .inl id
    · exact .inl (.inr e)
end
section
variable {ms m : Mem} {F : Nat → Prop} {bs : Nat} {most : Int} {lc : List (Int × Ck)}
set_option maxHeartbeats 1000000 in
theorem Kept_spec (h : St ms m F bs most lc) (hll : lc.length ≤ 4000) (hn : (keysOf lc).Nodup) (hB : ∀ e ∈ lc, Bc 1000000000000000 e.2) {R : Ending → Mem → Prop}
    (k : ∀ (F' : Nat → Prop) (m' : Mem) (oa : Option Addr) (oc : Nat) (rp : List (Ck × Sl)) (lc' : List (Int × Ck)), Chg F m m' → (∀ b, F' b → F b ∨ m b = none) → lc'.Perm lc → St ms m' F' bs most lc' → Own m' T_chunk_Chunk 3 oa rp.length oc (rp.flatMap ckv) → Fresh m oa → (∀ b, blk oa = some b → ¬ F' b) →
      (∀ p ∈ rp, SpsAt (nws m m' fun b => F' b ∨ blk oa = some b) p.2 p.1.2.2) → (rp.map (·.1)).Perm (lc.map (·.2)) → (rp.map (·.1)).Pairwise (fun c d => c.1 ≤ d.1) → R (.returned (.slice oa rp.length oc)) m') :
    HC P chunk_Store_Kept.id #[.pointer (some ⟨bs, 0, none⟩)] m R := by
  obtain ⟨⟨bc, Fc, L, h1, h2, h3, h4, h5, h6, h7⟩, le, fr, lv⟩ := h
  subst h3
  rw [keysOf_kmap] at hn
  rw [kmap_len] at hll
  have hB' : ∀ e ∈ L, Bc 1000000000000000 e.2.1 := fun e he => hB (e.1, e.2.1) (List.mem_map.mpr ⟨e, he, rfl⟩)
  refine chunk_Store_Kept.ok _ _ _ ?_
  refine Br.f rfl ?_
  refine LdV.s1 h1 (UnP.mk ?_)
  refine ZK.Keys_spec h2 (by rw [kmap_len]; omega) ?_
  intro ka kc m1 hle1 hka hkf
  dsimp only [Cont]
  refine UnS.mk ?_
  have hkeys : (kmap fA L).map (·.1) = keysOf L := kmap_keys _ _
  rw [hkeys] at hka
  rw [kmap_len] at hka ⊢
  have hkp : Kp ms m F bs bc most ka L.length kc (keysOf L) m1 Fc L none 0 [] :=
    ⟨hle1 _ _ h1, h2.le hle1, hle1.chg _, fun b e => .inl (h6 b e), h7, le.trans hle1, fun b e => fr b (h6 b e), h4, hka, fun b e x => h2.lv b x (hkf b e), Own.nil _ _ _, Fresh.none _, fun b e => (by cases e), fun b e => (by cases e), fun p hp => (by cases hp)⟩
  refine ⟨fun N s' ka' kl' kc' oa ol oc xa xl xc x i mm => s' = some ⟨bs, 0, none⟩ ∧ ka' = ka ∧ kl' = L.length ∧ kc' = kc ∧ xa = ka ∧ xl = L.length ∧ xc = kc ∧ x = ((L.length : Nat) : Int) ∧
    ∃ (j : Nat) (Fc : Nat → Prop) (L' : List (Int × (Ck × Sl))) (rp : List (Ck × Sl)), i = j ∧ j ≤ L.length ∧ N = L.length - j ∧ ol = rp.length ∧ Kp ms m F bs bc most ka L.length kc (keysOf L) mm Fc L' oa oc rp ∧ L'.Perm L ∧ rp.map (·.1) = (L.take j).map (fun e => e.2.1), L.length,
    ⟨rfl, rfl, rfl, rfl, rfl, rfl, rfl, rfl, 0, Fc, L, [], rfl, by omega, by omega, rfl, hkp, List.Perm.refl _, by simp⟩, ?_⟩
  clear hkp hka hkf hle1
  rintro N s' ka' kl' kc' oa ol oc xa xl xc x i mm ⟨rfl, rfl, rfl, rfl, rfl, rfl, rfl, rfl, j, Fc, L', rp, rfl, hj, rfl, rfl, hkp, hp, hrp⟩
  have hrl : rp.length = j := by
    have := congrArg List.length hrp
    rw [List.length_map, List.length_map, List.length_take] at this
    omega
  refine BrD (fun hlt => ?_) (fun hge => ?_)
  · have hj' : j < L.length := by omega
    obtain ⟨⟨key, c, cv⟩, he⟩ : ∃ e, L[j]? = some e := ⟨_, List.getElem?_eq_getElem hj'⟩
    have heL : (key, c, cv) ∈ L := List.mem_of_getElem? he
    have hkj : (keysOf L)[j]? = some key := by unfold keysOf; rw [List.getElem?_map, he]; rfl
    have hBc := hB' _ heL
    refine IxS.ints hkp.kr.cells (keysOf_len L) (by omega) (by omega) ?_
    intro key' hkey'
    rw [Int.toNat_natCast, hkj] at hkey'
    cases hkey'
    refine UnI.mk ?_
    refine LdV.s1 hkp.hs (UnP.mk ?_)
    have hn' : (keysOf L').Nodup := (hp.map (fun e : Int × (Ck × Sl) => e.1)).nodup_iff.mpr hn
    obtain ⟨i, hi, hie⟩ := ix_entry hn' (hp.mem_iff.mpr heL)
    dsimp only at hi hie
    have hLl : L'.length = L.length := hp.length_eq
    refine ZK.Get_some hkp.ca (by rw [kmap_len]; omega) (k := key) (i := i) (x := (key, fA (c, cv))) (by rw [kmap_ix]; exact hi) (by unfold kmap; rw [List.getElem?_map, hie]; rfl) ?_
    intro Fc' m5 hch5 hF5 hca5
    rw [kmap_get] at hca5
    have hkp5 := hkp.got hch5 hF5 hca5 (fun e he => getL_mem' he)
    intro b7 hb7
    refine St1.three (set_same _ _ _) rfl rfl rfl ?_
    rw [set_set]
    have hle7 := Le.set hb7 (.cells #[.int .i64 c.1, .int .i64 c.2.1, .slice cv.1 cv.2.1 cv.2.2] T_chunk_Chunk (0, 0))
    have g7 := set_same m5 b7 (.cells #[.int .i64 c.1, .int .i64 c.2.1, .slice cv.1 cv.2.1 cv.2.2] T_chunk_Chunk (0, 0))
    have hkp6 := hkp5.up hle7
    refine LdV.s0 g7 (LdV.s1 g7 (LdV.s2 g7 ?_))
    have hcr : SpsAt ms cv c.2.2 := hkp.rl _ (hp.mem_iff.mpr heL)
    refine move_spec (hcr.le hkp6.le) hBc.2.2 hBc.1 hBc.2.1 (by unfold Bd; omega) ?_
    intro v' m7 hle67 hsp
    rw [Int.add_zero, Int.add_zero]
    have e0 : c.2.2.map (mvs 0) = c.2.2 := congrArg (·.2.2) (mvc_zero c)
    rw [e0] at hsp
    have hkp7 := hkp6.up hle67
    intro b35 hb35
    refine push_row ElemOK_ck (by decide) hkp7.ow rfl (ckone (c, v')) (by omega) (by decide) ?_ b35 hb35
    intro a' c' m8 hch8 ho8 hbl8
    refine UnS.mk ?_
    have hsub : Le m m7 → True := fun _ => trivial
    have hle0 : ∀ b, m b = none → ¬ (m5.set b7 (.cells #[.int .i64 c.1, .int .i64 c.2.1, .slice cv.1 cv.2.1 cv.2.2] T_chunk_Chunk (0, 0))) b ≠ none ∨ True := fun _ _ => .inr trivial
    have hlive : ∀ b, m b ≠ none → (m5.set b7 (.cells #[.int .i64 c.1, .int .i64 c.2.1, .slice cv.1 cv.2.1 cv.2.2] T_chunk_Chunk (0, 0))) b ≠ none := fun b hb => hkp6.chg.live b hb
    have hrow7 : Le (nw (m5.set b7 (.cells #[.int .i64 c.1, .int .i64 c.2.1, .slice cv.1 cv.2.1 cv.2.2] T_chunk_Chunk (0, 0))) m7) (nws m m7 fun b => Fc' b ∨ blk oa = some b) := by
      intro b o hb
      have h7b := nw_le _ _ _ _ hb
      have hn6 := nw_fresh (show nw _ m7 b ≠ none by rw [hb]; simp)
      refine nws_of h7b (hkp6.chg.new hn6) ?_
      rintro (e | e)
      · exact hkp6.ca.lv b e hn6
      · exact hkp6.ow.live b e hn6
    have hstep : Le (nws m m7 fun b => Fc' b ∨ blk oa = some b) (nws m m8 fun b => Fc' b ∨ blk a' = some b) := nws_chg (hch8.mono fun b e => .inr e) (by
      rintro b (e | e)
      · exact .inl (.inl e)
      · rcases hbl8 with q | q
        · exact .inl (.inr (q ▸ e))
        · exact .inr (q b e))
    have hfa' : ∀ b, blk a' = some b → m b = none ∧ ms b = none ∧ ¬ Fc' b := by
      intro b e
      rcases hbl8 with q | q
      · exact ⟨hkp7.of b (q ▸ e), hkp7.ms0 b (q ▸ e), hkp7.od b (q ▸ e)⟩
      · have := q b e
        exact ⟨hkp7.chg.new this, hkp7.le.new this, fun x => hkp7.ca.lv b x this⟩
    have hkn : blk oa ≠ blk xa ∨ blk oa = none := by
      cases hoa : blk oa with
      | none => exact .inr rfl
      | some b =>
        refine .inl (fun e => ?_)
        have hkb : ∃ cur, m7 b = some (.cells cur T_int (0, 0)) := by
          rcases hkp7.kr.2 with ⟨q, _⟩ | ⟨b', cur, q, hb', _⟩
          · rw [q] at e; cases e
          · rw [q] at e; cases e; exact ⟨cur, hb'⟩
        obtain ⟨cur, hcur⟩ := hkb
        exact own_ne hkp7.ow hcur (by decide) hoa
    have hkp8 : Kp ms m F bs bc most xa L.length xc (keysOf L) m8 Fc' (getL key L') a' c' (rp ++ [(c, v')]) := by
      refine ⟨hch8.eq _ _ hkp7.hs (fun e => ?_), hkp7.ca.chg hch8 (fun b e x => hkp7.od b x e), hkp7.chg.trans hch8 (fun b hb e => absurd (hkp7.of b e) hb), hkp7.fc, hkp7.nbs, fun b o hb => hch8.eq b o (hkp7.le b o hb) (fun e => by rw [hkp7.ms0 b e] at hb; cases hb), hkp7.fr, hkp7.rl, hkp7.kr.chg hch8 (fun b e x => ?_), hkp7.kd, ?_, fun b e => (hfa' b e).1, fun b e => (hfa' b e).2.2, fun b e => (hfa' b e).2.1, ?_⟩
      · exact own_ne hkp7.ow hkp7.hs (by decide) e
      · rcases hkn with q | q
        · exact q (x.trans e.symm)
        · rw [q] at x; cases x
      · rw [List.length_append, List.flatMap_append]; simpa [ckv] using ho8
      · intro p hp
        rcases List.mem_append.mp hp with hp | hp
        · exact (hkp7.rs p hp).le hstep
        · rw [List.mem_singleton] at hp
          subst hp
          exact hsp.le (hrow7.trans hstep)
    refine ⟨L.length - (j + 1), by omega, rfl, rfl, rfl, rfl, rfl, rfl, rfl, rfl, j + 1, Fc', getL key L', rp ++ [(c, v')], ?_, by omega, rfl, by simp, hkp8, (getL_perm key L').trans hp, ?_⟩
    · rw [wi (by omega) (by omega)]; omega
    · rw [List.map_append, hrp, List.take_add_one, he, List.map_append]; rfl
  have e : j = L.length := by omega
  subst e
  rw [List.take_length] at hrp
  show chunk_Store_Kept.l3 _ _ _ _ _ _ _ _ _ _
  rw [wi (by omega) (by omega)]
  refine ⟨fun N s' ka1 kl1 kc1 oa1 ol1 oc1 i mm => s' = some ⟨bs, 0, none⟩ ∧ ka1 = xa ∧ kl1 = L.length ∧ kc1 = xc ∧ oa1 = oa ∧ ol1 = rp.length ∧ oc1 = oc ∧
    ∃ (j : Nat) (Fc : Nat → Prop) (L' : List (Int × (Ck × Sl))), i = (j : Int) - 1 ∧ j ≤ L.length ∧ N = j ∧ Kp ms m F bs bc most xa L.length xc (keysOf L) mm Fc L' oa oc rp ∧ L'.Perm L, L.length,
    ⟨rfl, rfl, rfl, rfl, rfl, rfl, rfl, L.length, Fc, L', rfl, by omega, rfl, hkp, hp⟩, ?_⟩
  clear hkp hp hge
  rintro N s' ka1 kl1 kc1 oa1 ol1 oc1 i mm ⟨rfl, rfl, rfl, rfl, rfl, rfl, rfl, j, Fc, L', rfl, hj, rfl, hkp, hp⟩
  refine BrD (fun hge => ?_) (fun hlt => ?_)
  · obtain ⟨j, rfl⟩ : ∃ t, N = t + 1 := ⟨N - 1, by omega⟩
    have hj' : j < L.length := by omega
    obtain ⟨⟨key, c, cv⟩, he⟩ : ∃ e, L[j]? = some e := ⟨_, List.getElem?_eq_getElem hj'⟩
    have heL : (key, c, cv) ∈ L := List.mem_of_getElem? he
    have hkj : (keysOf L)[j]? = some key := by unfold keysOf; rw [List.getElem?_map, he]; rfl
    refine ⟨mm, Le.refl _, ?_⟩
    refine LdV.s1 hkp.hs (UnP.mk ?_)
    refine IxS.ints hkp.kr.cells (keysOf_len L) (by omega) (by omega) ?_
    intro key' hkey'
    rw [show (((j + 1 : Nat) : Int) - 1).toNat = j by omega, hkj] at hkey'
    cases hkey'
    refine UnI.mk ?_
    have hn' : (keysOf L').Nodup := (hp.map (fun e : Int × (Ck × Sl) => e.1)).nodup_iff.mpr hn
    obtain ⟨i, hi, hie⟩ := ix_entry hn' (hp.mem_iff.mpr heL)
    dsimp only at hi hie
    have hLl : L'.length = L.length := hp.length_eq
    refine ZK.Get_some hkp.ca (by rw [kmap_len]; omega) (k := key) (i := i) (x := (key, fA (c, cv))) (by rw [kmap_ix]; exact hi) (by unfold kmap; rw [List.getElem?_map, hie]; rfl) ?_
    intro Fc' m5 hch5 hF5 hca5
    rw [kmap_get] at hca5
    have hkp5 := hkp.got hch5 hF5 hca5 (fun e he => getL_mem' he)
    refine ⟨j, by omega, rfl, rfl, rfl, rfl, rfl, rfl, rfl, j, Fc', getL key L', ?_, by omega, rfl, hkp5, (getL_perm key L').trans hp⟩
    rw [wi (by omega) (by omega)]; omega
  refine SortC_spec hkp.ow (by omega) ?_ ?_
  · intro p hp
    have : p.1 ∈ L.map (fun e => e.2.1) := by rw [← hrp]; exact List.mem_map_of_mem hp
    obtain ⟨e, he, hee⟩ := List.mem_map.mp this
    rw [← hee]
    exact (hB' e he).1
  intro m9 rp' hperm hsort hch9 ho9
  have hrl' : rp.length = rp'.length := hperm.length_eq.symm
  rw [hrl'] at ho9 ⊢
  have hbn : blk oa1 ≠ some bs := own_ne hkp.ow hkp.hs (by decide)
  have hbs9 := hch9.eq _ _ hkp.hs (fun e => hbn e)
  refine k (fun b => b = bs ∨ Fc b) m9 oa1 oc1 rp' (kmap (fun x : Ck × Sl => x.1) L') ?_ ?_ (by unfold kmap; exact hp.map _) ⟨⟨bc, Fc, L', hbs9, ?_, rfl, hkp.rl, .inl rfl, fun b e => .inr e, hkp.nbs⟩, ?_, ?_, ?_⟩ ho9 hkp.of ?_ ?_ ?_ ?_
  · exact hkp.chg.trans hch9 (fun b hb e => absurd (hkp.of b e) hb)
  · rintro b (rfl | e)
    · exact .inl h5
    · exact hkp.fc b e
  · exact hkp.ca.chg hch9 (fun b e x => hkp.od b x e)
  · exact fun b o hb => hch9.eq b o (hkp.le b o hb) (fun e => by rw [hkp.ms0 b e] at hb; cases hb)
  · rintro b (rfl | e)
    · exact fr _ h5
    · exact hkp.fr b e
  · rintro b (rfl | e)
    · rw [hbs9]; simp
    · exact hch9.live b (hkp.ca.lv b e)
  · rintro b e (rfl | x)
    · exact hbn e
    · exact hkp.od b e x
  · intro p hpm
    refine (hkp.rs p (hperm.mem_iff.mp hpm)).le (nws_chg2 (hch9.mono fun b e => .inr e) ?_)
    rintro b hb ((rfl | e) | e)
    · rw [h1] at hb; cases hb
    · exact .inl (.inl e)
    · exact .inl (.inr e)
  · have e1 : (kmap (fun x : Ck × Sl => x.1) L).map (·.2) = L.map (fun e => e.2.1) := by unfold kmap; rw [List.map_map]; rfl
    rw [e1, ← hrp]
    exact hperm.map _
  · rw [List.pairwise_map]; exact hsort
end
end Go.E.Ck
set_option linter.unusedVariables false
set_option linter.unusedSimpArgs false
set_option maxRecDepth 20000
namespace Go.E.Ck
open Go.H Go.E
attribute [local irreducible] BiN MkS ConvN LookN MapUpN CallV HC
/-- A chunk with an island in it. -/
def mk (a b : Int) : Ck := (a, b, [(a, b, [(0, 0, -1, a, b)])])
theorem mk_mv (a b d : Int) : mvc d (mk a b) = mk (a + d) (b + d) := rfl
theorem mk_bc {B a b : Int} (h1 : Bd B a) (h2 : Bd B b) : Bc B (mk a b) := by
  refine ⟨h1, h2, by simp [mk], fun s hs => ?_⟩
  simp only [mk, List.mem_singleton] at hs
  subst hs
  refine ⟨h1, h2, fun n hn => ?_, by simp⟩
  simp only [List.mem_singleton] at hn
  subst hn
  exact ⟨h1, h2⟩
theorem made_spec {m : Mem} {a b : Int} {R : Ending → Mem → Prop} (k : ∀ v m', Le m m' → SpsAt (nw m m') v (mk a b).2.2 → R (.returned (.agg #[.int .i64 a, .int .i64 b, .slice v.1 v.2.1 v.2.2])) m') :
    HC P eyotlaw28_made.id #[.int .i64 a, .int .i64 b] m R := by
  refine eyotlaw28_made.ok _ _ _ _ ?_
  intro b4 hb4
  have hle4 := Le.set hb4 (.cells #[.int .i64 0, .int .i64 0, .slice none 0 0] T_chunk_Chunk (0, 0))
  have g4 := set_same m b4 (.cells #[.int .i64 0, .int .i64 0, .slice none 0 0] T_chunk_Chunk (0, 0))
  generalize m.set b4 (.cells #[.int .i64 0, .int .i64 0, .slice none 0 0] T_chunk_Chunk (0, 0)) = m1 at *
  intro b12 hb12
  have hle12 := Le.set hb12 (.cells #[.int .i64 0, .int .i64 0, .int .i64 (-1), .int .i64 a, .int .i64 b] T_api_Node (0, 0))
  have g12 := set_same m1 b12 (.cells #[.int .i64 0, .int .i64 0, .int .i64 (-1), .int .i64 a, .int .i64 b] T_api_Node (0, 0))
  generalize m1.set b12 (.cells #[.int .i64 0, .int .i64 0, .int .i64 (-1), .int .i64 a, .int .i64 b] T_api_Node (0, 0)) = m2 at *
  intro b14 hb14
  have hle14 := Le.set hb14 (.cells #[.int .i64 a, .int .i64 b, .slice (some ⟨b12, 0, none⟩) 1 1] T_api_Span (0, 0))
  have g14 := set_same m2 b14 (.cells #[.int .i64 a, .int .i64 b, .slice (some ⟨b12, 0, none⟩) 1 1] T_api_Span (0, 0))
  generalize m2.set b14 (.cells #[.int .i64 a, .int .i64 b, .slice (some ⟨b12, 0, none⟩) 1 1] T_api_Span (0, 0)) = m3 at *
  have g43 := hle14 _ _ (hle12 _ _ g4)
  refine St1.three g43 rfl rfl rfl ?_
  refine LdV.s0 (set_same _ _ _) (LdV.s1 (set_same _ _ _) (LdV.s2 (set_same _ _ _) ?_))
  have hc := Chg.set m3 b4 (.cells #[.int .i64 a, .int .i64 b, .slice (some ⟨b14, 0, none⟩) 1 1] T_chunk_Chunk (0, 0))
  generalize m3.set b4 (.cells #[.int .i64 a, .int .i64 b, .slice (some ⟨b14, 0, none⟩) 1 1] T_chunk_Chunk (0, 0)) = m4 at *
  have hle3 : Le m m3 := hle4.trans (hle12.trans hle14)
  have n12 : b12 ≠ b4 := by rintro rfl; rw [g4] at hb12; cases hb12
  have n14 : b14 ≠ b4 := by rintro rfl; rw [hle12 _ _ g4] at hb14; cases hb14
  have f12 : m b12 = none := hle4.new hb12
  have f14 : m b14 = none := hle4.new (hle12.new hb14)
  have q12 : nw m m4 b12 = some (.cells #[.int .i64 0, .int .i64 0, .int .i64 (-1), .int .i64 a, .int .i64 b] T_api_Node (0, 0)) := by
    unfold nw; rw [wo_in (fun e => e f12)]; exact hc.eq _ _ (hle14 _ _ g12) n12
  have q14 : nw m m4 b14 = some (.cells #[.int .i64 a, .int .i64 b, .slice (some ⟨b12, 0, none⟩) 1 1] T_api_Span (0, 0)) := by
    unfold nw; rw [wo_in (fun e => e f14)]; exact hc.eq _ _ g14 n14
  refine k (some ⟨b14, 0, none⟩, 1, 1) m4 (hc.to_le hle3 (by rintro b rfl; exact hb4)) ⟨[((a, b, [(0, 0, -1, a, b)]), (some ⟨b12, 0, none⟩, 1, 1))], rfl, rfl, Nat.le_refl _, cells_at q14 rfl, ?_⟩
  intro p hp
  rw [List.mem_singleton] at hp
  subst hp
  exact ⟨rfl, cells_at q12 rfl⟩
theorem eqL_refl5 (a b c d e : Int) : eqL [.int .i64 a, .int .i64 b, .int .i64 c, .int .i64 d, .int .i64 e] [.int .i64 a, .int .i64 b, .int .i64 c, .int .i64 d, .int .i64 e] = true := by simp [eqL, eqV]
/-- Two rows of one tree. -/
theorem Same_eq {m : Mem} {v w : Sl} {t : List Nd} (hv : TreeAt m v t) (hw : TreeAt m w t) (hl : t.length ≤ 1000000) {R : Ending → Mem → Prop} (k : R (.returned (.bool true)) m) : HC P eyotref18_Same.id #[.slice v.1 v.2.1 v.2.2, .slice w.1 w.2.1 w.2.2] m R := by
  obtain ⟨va, vl, vc⟩ := v
  obtain ⟨wa, wl, wc⟩ := w
  obtain ⟨hv1, hv2⟩ := hv
  obtain ⟨hw1, hw2⟩ := hw
  dsimp only at hv1 hv2 hw1 hw2 ⊢
  subst hv1 hw1
  refine eyotref18_Same.ok _ _ _ _ _ _ _ _ ?_
  refine BrNf rfl ?_
  refine ⟨fun N a1 l1 c1 a2 l2 c2 i mm => a1 = va ∧ l1 = t.length ∧ c1 = vc ∧ a2 = wa ∧ l2 = t.length ∧ c2 = wc ∧ mm = m ∧ ∃ j : Nat, i = j ∧ j ≤ t.length ∧ N = t.length - j, t.length, ⟨rfl, rfl, rfl, rfl, rfl, rfl, rfl, 0, rfl, by omega, by omega⟩, ?_⟩
  rintro N a1 l1 c1 a2 l2 c2 i mm ⟨rfl, rfl, rfl, rfl, rfl, rfl, rfl, j, rfl, hj, rfl⟩
  refine BrD (fun hlt => ?_) (fun hge => k)
  refine ⟨mm, Le.refl _, ?_⟩
  refine IxS.rows ndlen (by decide) hv2 rfl (by omega) (by omega) ?_
  intro b o x hx hc
  refine LdV.mk (hc 0 _ rfl) (LdV.mk (hc 1 _ rfl) (LdV.mk (hc 2 _ rfl) (LdV.mk (hc 3 _ rfl) (LdV.mk (hc 4 _ rfl) ?_))))
  refine IxS.rows ndlen (by decide) hw2 rfl (by omega) (by omega) ?_
  intro b2 o2 y hy hc2
  rw [hx] at hy
  cases hy
  refine LdV.mk (hc2 0 _ rfl) (LdV.mk (hc2 1 _ rfl) (LdV.mk (hc2 2 _ rfl) (LdV.mk (hc2 3 _ rfl) (LdV.mk (hc2 4 _ rfl) ?_))))
  refine Br.f (by rw [eqL_refl5]; rfl) ?_
  refine ⟨t.length - (j + 1), by omega, rfl, rfl, rfl, rfl, rfl, rfl, rfl, j + 1, ?_, by omega, rfl⟩
  rw [wi (by omega) (by omega)]; omega
theorem SameSpans_eq {m : Mem} {v w : Sl} {ss : List Sp} (hv : SpsAt m v ss) (hw : SpsAt m w ss) (hl : ss.length ≤ 1000000) (hll : ∀ s ∈ ss, s.2.2.length ≤ 1000000) {R : Ending → Mem → Prop} (k : R (.returned (.bool true)) m) : HC P eyotref23_SameSpans.id #[.slice v.1 v.2.1 v.2.2, .slice w.1 w.2.1 w.2.2] m R := by
  obtain ⟨va, vl, vc⟩ := v
  obtain ⟨wa, wl, wc⟩ := w
  obtain ⟨p1, e1, l1, _, c1, t1⟩ := hv
  obtain ⟨p2, e2, l2, _, c2, t2⟩ := hw
  dsimp only at l1 c1 l2 c2 ⊢
  have h1 : p1.length = ss.length := by rw [← e1, List.length_map]
  have h2 : p2.length = ss.length := by rw [← e2, List.length_map]
  rw [h1] at l1
  rw [h2] at l2
  subst l1 l2
  refine eyotref23_SameSpans.ok _ _ _ _ _ _ _ _ ?_
  refine BrNf rfl ?_
  refine ⟨fun N a1 l1 c1 a2 l2 c2 i mm => a1 = va ∧ l1 = ss.length ∧ c1 = vc ∧ a2 = wa ∧ l2 = ss.length ∧ c2 = wc ∧ mm = m ∧ ∃ j : Nat, i = j ∧ j ≤ ss.length ∧ N = ss.length - j, ss.length, ⟨rfl, rfl, rfl, rfl, rfl, rfl, rfl, 0, rfl, by omega, by omega⟩, ?_⟩
  rintro N a1 l1 c1' a2 l2 c2' i mm ⟨rfl, rfl, rfl, rfl, rfl, rfl, rfl, j, rfl, hj, rfl⟩
  refine BrD (fun hlt => ?_) (fun hge => k)
  have hj' : j < ss.length := by omega
  have hs := List.getElem?_eq_getElem hj'
  have hx : ∀ x, p1[j]? = some x → x.1 = ss[j] := fun x hx => by
    have : (p1.map (·.1))[j]? = some x.1 := by rw [List.getElem?_map, hx]; rfl
    rw [e1, hs] at this; exact (Option.some.inj this).symm
  have hy : ∀ x, p2[j]? = some x → x.1 = ss[j] := fun x hx => by
    have : (p2.map (·.1))[j]? = some x.1 := by rw [List.getElem?_map, hx]; rfl
    rw [e2, hs] at this; exact (Option.some.inj this).symm
  refine ⟨mm, Le.refl _, ?_⟩
  refine IxS.rows splen (by decide) c1 h1 (by omega) (by omega) ?_
  intro b o x gx hc
  rw [Int.toNat_natCast] at gx
  refine LdV.mk (hc 0 _ rfl) ?_
  refine IxS.rows splen (by decide) c2 h2 (by omega) (by omega) ?_
  intro b2 o2 y gy hc2
  rw [Int.toNat_natCast] at gy
  have hxy : x.1 = y.1 := (hx x gx).trans (hy y gy).symm
  refine LdV.mk (hc2 0 _ rfl) ?_
  refine BrNf (by rw [hxy]) ?_
  refine IxS.rows splen (by decide) c1 h1 (by omega) (by omega) ?_
  intro b3 o3 x' gx' hc3
  rw [Int.toNat_natCast, gx] at gx'
  cases gx'
  refine LdV.mk (hc3 1 _ rfl) ?_
  refine IxS.rows splen (by decide) c2 h2 (by omega) (by omega) ?_
  intro b4 o4 y' gy' hc4
  rw [Int.toNat_natCast, gy] at gy'
  cases gy'
  refine LdV.mk (hc4 1 _ rfl) ?_
  refine BrNf (by rw [hxy]) ?_
  refine IxS.rows splen (by decide) c1 h1 (by omega) (by omega) ?_
  intro b5 o5 x' gx' hc5
  rw [Int.toNat_natCast, gx] at gx'
  cases gx'
  refine LdV.mk (hc5 2 _ rfl) ?_
  refine IxS.rows splen (by decide) c2 h2 (by omega) (by omega) ?_
  intro b6 o6 y' gy' hc6
  rw [Int.toNat_natCast, gy] at gy'
  cases gy'
  refine LdV.mk (hc6 2 _ rfl) ?_
  have tx := t1 x (List.mem_of_getElem? gx)
  have ty := t2 y (List.mem_of_getElem? gy)
  rw [← hxy] at ty
  have hlen : x.1.2.2.length ≤ 1000000 := by rw [hx x gx]; exact hll _ (List.getElem_mem hj')
  refine Same_eq tx ty hlen ?_
  refine Br.f rfl ?_
  refine ⟨ss.length - (j + 1), by omega, rfl, rfl, rfl, rfl, rfl, rfl, rfl, j + 1, ?_, by omega, rfl⟩
  rw [wi (by omega) (by omega)]; omega
theorem same_true {m : Mem} {v : Sl} {a b : Int} (hv : SpsAt m v (mk a b).2.2) {R : Ending → Mem → Prop} (k : ∀ m', Le m m' → R (.returned (.bool true)) m') : HC P eyotlaw28_same.id #[.agg #[.int .i64 a, .int .i64 b, .slice v.1 v.2.1 v.2.2], .int .i64 a, .int .i64 b] m R := by
  refine eyotlaw28_same.ok _ _ _ _ _ _ _ _ _ ?_
  intro b3 hb3
  have hle3 := Le.set hb3 (.cells #[.int .i64 a, .int .i64 b, .slice v.1 v.2.1 v.2.2] T_chunk_Chunk (0, 0))
  have g3 := set_same m b3 (.cells #[.int .i64 a, .int .i64 b, .slice v.1 v.2.1 v.2.2] T_chunk_Chunk (0, 0))
  generalize m.set b3 (.cells #[.int .i64 a, .int .i64 b, .slice v.1 v.2.1 v.2.2] T_chunk_Chunk (0, 0)) = m1 at *
  refine made_spec ?_
  intro w m2 hle2 hw
  intro b7 hb7
  have hle7 := Le.set hb7 (.cells #[.int .i64 a, .int .i64 b, .slice w.1 w.2.1 w.2.2] T_chunk_Chunk (0, 0))
  have g7 := set_same m2 b7 (.cells #[.int .i64 a, .int .i64 b, .slice w.1 w.2.1 w.2.2] T_chunk_Chunk (0, 0))
  refine St1.three (set_same _ _ _) rfl rfl rfl ?_
  rw [set_set]
  have g37 := hle7 _ _ (hle2 _ _ g3)
  refine LdV.s0 g37 (UnI.mk ?_)
  refine BrEt rfl ?_
  refine LdV.s1 g37 (UnI.mk ?_)
  refine BrEt rfl ?_
  refine LdV.s2 g37 (LdV.s2 g7 ?_)
  have hle := hle3.trans (hle2.trans hle7)
  refine SameSpans_eq (hv.le hle) ((hw.le (nw_le _ _)).le hle7) (by simp [mk]) (fun s hs => by simp only [mk, List.mem_singleton] at hs; subst hs; simp) ?_
  exact k _ hle
def kx (c : Ck) : Int × Ck := (c.1, c)
def lcO (cs : List Ck) : List (Int × Ck) := (cs.map kx).reverse
abbrev Up (cs : List Ck) : Prop := cs.Pairwise (fun c d => c.1 < d.1)
theorem lcO_keys (cs : List Ck) : keysOf (lcO cs) = (cs.map (·.1)).reverse := by unfold keysOf lcO; rw [List.map_reverse, List.map_map]; rfl
theorem lcO_nodup {cs : List Ck} (h : Up cs) : (keysOf (lcO cs)).Nodup := by
  rw [lcO_keys]
  unfold List.Nodup
  rw [List.pairwise_reverse, List.pairwise_map]
  exact h.imp (fun h => by omega)
theorem lcO_len (cs : List Ck) : (lcO cs).length = cs.length := by simp [lcO]
theorem lcO_mem {cs : List Ck} {e : Int × Ck} : e ∈ lcO cs ↔ ∃ c ∈ cs, kx c = e := by unfold lcO; rw [List.mem_reverse, List.mem_map]
theorem put_new {most k : Int} {c : Ck} {lc : List (Int × Ck)} (hn : k ∉ keysOf lc) (hl : ((lc.length : Nat) : Int) < max most 1) : putL most k c lc = (k, c) :: lc := by
  have hd : dropL k lc = lc := by unfold dropL; rw [ix_of_not hn]
  unfold putL
  rw [hd, if_pos]
  rw [List.length_cons]; omega
theorem put_lcO {most : Int} {cs : List Ck} {c : Ck} (h : ∀ d ∈ cs, d.1 < c.1) (hl : ((cs.length : Nat) : Int) < max most 1) : putL most c.1 c (lcO cs) = lcO (cs ++ [c]) := by
  rw [put_new]
  · unfold lcO; rw [List.map_append, List.reverse_append]; rfl
  · rw [lcO_keys, List.mem_reverse, List.mem_map]
    rintro ⟨d, hd, e⟩
    have := h d hd
    omega
  · rw [lcO_len]; exact hl
/-- One chunk behind an edit. -/
def ck1 (a b d reach : Int) (c : Ck) : Option Ck := if c.2.1 ≤ a - reach then some c else if c.1 - reach ≥ b then some (mvc d c) else none
theorem edF_lcO {most a b d reach : Int} : ∀ (l ks : List Ck), Up (ks ++ l.filterMap (ck1 a b d reach)) → (((ks.length + l.length : Nat)) : Int) ≤ max most 1 → (l.map kx).foldl (edE most a b d reach) (lcO ks) = lcO (ks ++ l.filterMap (ck1 a b d reach))
  | [], ks, _, _ => by simp
  | c :: l, ks, hu, hl => by
    rw [List.map_cons, List.foldl_cons]
    rw [List.length_cons] at hl
    have hput : ∀ c', Up (ks ++ c' :: l.filterMap (ck1 a b d reach)) → putL most c'.1 c' (lcO ks) = lcO (ks ++ [c']) := fun c' h => by
      refine put_lcO (fun d hd => ?_) (by omega)
      exact (List.pairwise_append.mp h).2.2 d hd c' (by simp)
    have hgo : ∀ c', Up (ks ++ c' :: l.filterMap (ck1 a b d reach)) → (l.map kx).foldl (edE most a b d reach) (lcO (ks ++ [c'])) = lcO (ks ++ c' :: l.filterMap (ck1 a b d reach)) := fun c' h => by
      rw [edF_lcO l (ks ++ [c']) (by rw [List.append_assoc]; exact h) (by rw [List.length_append]; simp only [List.length_singleton]; omega), List.append_assoc]; rfl
    unfold edE
    by_cases h1 : c.2.1 ≤ a - reach
    · have e1 : (c :: l).filterMap (ck1 a b d reach) = c :: l.filterMap (ck1 a b d reach) := List.filterMap_cons_some (by unfold ck1; rw [if_pos h1])
      rw [e1] at hu ⊢
      rw [if_pos (show (kx c).2.2.1 ≤ a - reach from h1), show (kx c).2.1 = c.1 from rfl, show (kx c).2 = c from rfl, hput c hu]
      exact hgo c hu
    · rw [if_neg (show ¬ (kx c).2.2.1 ≤ a - reach from h1)]
      by_cases h2 : c.1 - reach ≥ b
      · have e1 : (c :: l).filterMap (ck1 a b d reach) = mvc d c :: l.filterMap (ck1 a b d reach) := List.filterMap_cons_some (by unfold ck1; rw [if_neg h1, if_pos h2])
        rw [e1] at hu ⊢
        rw [if_pos (show (kx c).2.1 - reach ≥ b from h2)]
        have := hput (mvc d c) hu
        rw [show (kx c).2.1 + d = (mvc d c).1 from rfl, show (kx c).2 = c from rfl, this]
        exact hgo (mvc d c) hu
      · have e1 : (c :: l).filterMap (ck1 a b d reach) = l.filterMap (ck1 a b d reach) := List.filterMap_cons_none (by unfold ck1; rw [if_neg h1, if_neg h2])
        rw [e1] at hu ⊢
        rw [if_neg (show ¬ (kx c).2.1 - reach ≥ b from h2)]
        exact edF_lcO l ks hu (by omega)
theorem edL_lcO {most a b n reach : Int} {cs : List Ck} (hu : Up (cs.filterMap (ck1 a b (n - (b - a)) reach))) (hl : ((cs.length : Nat) : Int) ≤ max most 1) : edL most a b n reach (lcO cs) = lcO (cs.filterMap (ck1 a b (n - (b - a)) reach)) := by
  unfold edL
  have : (lcO cs).reverse = cs.map kx := by unfold lcO; rw [List.reverse_reverse]
  rw [this]
  have h := edF_lcO (most := most) (a := a) (b := b) (d := n - (b - a)) (reach := reach) cs [] hu (by simpa using hl)
  rw [List.nil_append] at h
  exact h
/-- In order, it is one list. -/
theorem ord_eq : ∀ {xs cs : List Ck}, xs.Perm cs → xs.Pairwise (fun c d => c.1 ≤ d.1) → Up cs → xs = cs
  | [], cs, hp, _, _ => by have := hp.length_eq; exact (List.eq_nil_of_length_eq_zero (by simpa using this.symm)).symm
  | x :: xs, [], hp, _, _ => by have := hp.length_eq; simp at this
  | x :: xs, c :: cs, hp, hx, hc => by
    have h1 := List.pairwise_cons.mp hx
    have h2 := List.pairwise_cons.mp hc
    have hxc : x = c := by
      rcases List.mem_cons.mp (hp.mem_iff.mp (List.mem_cons_self)) with e | e
      · exact e
      · have a1 := h2.1 x e
        rcases List.mem_cons.mp (hp.mem_iff.mpr (List.mem_cons_self (a := c))) with e' | e'
        · exact e'.symm
        · have a2 := h1.1 c e'; omega
    subst hxc
    rw [ord_eq (List.Perm.cons_inv hp) h1.2 h2.2]
end Go.E.Ck
set_option linter.unusedVariables false
set_option linter.unusedSimpArgs false
set_option maxRecDepth 20000
namespace Go.E.Ck
open Go.H Go.E
attribute [local irreducible] BiN MkS ConvN LookN MapUpN CallV HC
theorem begun_spec {m : Mem} {R : Ending → Mem → Prop} (k : ∀ m', Le m m' → R (.returned (.bool true)) m') : HC P eyotlaw28_begun.id #[] m R := by
  refine eyotlaw28_begun.ok _ _ ?_
  refine New_spec (Le.refl m) ?_
  intro bs F m1 hle1 hF hst
  dsimp only [Cont]
  refine UnP.mk ?_
  refine Put_spec (c := (4, 8, [])) (v := (none, 0, 0)) hst (by simp) (SpsAt.nil _) (by refine ⟨?_, ?_, by simp, fun s hs => by cases hs⟩ <;> (unfold Bd; simp)) ?_
  intro F2 ms2 m2 s2 hst2
  have e1 : putL 2 4 ((4, 8, []) : Ck) [] = [(4, (4, 8, []))] := rfl
  rw [e1] at hst2
  refine Edit_spec hst2 (by simp) (by simp [keysOf]) (a := 0) (b := 0) (n := 3) (reach := 1) (by unfold Bd; omega) (by unfold Bd; omega) (by unfold Bd; omega) (by unfold Bd; omega) ?_ ?_
  · intro e he
    rw [List.mem_singleton] at he
    subst he
    refine ⟨?_, ?_, by simp, fun s hs => by cases hs⟩ <;> (unfold Bd; simp)
  intro F3 ms3 m3 s3 hst3
  have e2 : edL 2 0 0 3 1 [(4, ((4, 8, []) : Ck))] = [(7, (7, 11, []))] := rfl
  rw [e2] at hst3
  refine Get_some (e := (7, ((7, 11, []) : Ck))) hst3 (by simp) (by simp [keysOf]) (by simp) (by refine ⟨?_, ?_, by simp, fun s hs => by cases hs⟩ <;> (unfold Bd; simp)) ?_
  intro F4 m4 v hc4 hs4 hst4 _
  have e3 : getL 7 [(7, ((7, 11, []) : Ck))] = [(7, (7, 11, []))] := rfl
  rw [e3] at hst4
  intro b5 hb5
  refine St1.three (set_same _ _ _) rfl rfl rfl ?_
  rw [set_set]
  refine Br.t rfl ?_
  refine LdV.s1 (set_same _ _ _) (UnI.mk ?_)
  refine BrEt rfl ?_
  have hle5 := Le.set hb5 (.cells #[.int .i64 7, .int .i64 11, .slice v.1 v.2.1 v.2.2] T_chunk_Chunk (0, 0))
  refine Kept_spec (hst4.up hle5) (by simp) (by simp [keysOf]) ?_ ?_
  · intro e he
    rw [List.mem_singleton] at he
    subst he
    refine ⟨?_, ?_, by simp, fun s hs => by cases hs⟩ <;> (unfold Bd; simp)
  intro F6 m6 oa oc rp lc' hc6 _ _ _ _ _ _ _ hpm _
  have hl : rp.length = 1 := by have := hpm.length_eq; simpa using this
  dsimp only [Cont]
  refine UnS.mk ?_
  rw [hl]
  have hle6 : Le m m6 := by
    have h02 : Chg F m1 m2 := s2.chg
    have h03 := s2.trans s3
    have h04 := h03.chg.trans (hc4.trans ((hle5.chg F4).trans hc6 (fun b hb e => e)) (fun b hb e => (hs4 b e).elim id (fun x => absurd x hb))) (fun b hb e => (h03.sub b e).elim id (fun x => absurd x hb))
    exact h04.to_le hle1 hF
  exact k m6 hle6
theorem lcO_vals (cs : List Ck) : ((lcO cs).map (·.2)).Perm cs := by
  unfold lcO
  rw [List.map_reverse, List.map_map]
  have : ((fun x : Int × Ck => x.2) ∘ kx) = id := rfl
  rw [this, List.map_id]
  exact List.reverse_perm _
theorem rows_of {rp : List (Ck × Sl)} {cs : List Ck} (h : rp.map (·.1) = cs) {i : Nat} {c : Ck} (hc : cs[i]? = some c) : ∃ v, rp[i]? = some (c, v) := by
  rw [← h, List.getElem?_map] at hc
  cases hr : rp[i]? with
  | none => rw [hr] at hc; cases hc
  | some p => rw [hr] at hc; cases hc; exact ⟨p.2, rfl⟩
theorem tmod_nn {a b : Int} (ha : 0 ≤ a) (hb : 0 < b) : 0 ≤ Int.tmod a b ∧ Int.tmod a b < b := ⟨Int.tmod_nonneg _ ha, Int.tmod_lt_of_pos _ hb⟩
end Go.E.Ck
set_option linter.unusedVariables false
set_option linter.unusedSimpArgs false
set_option maxRecDepth 20000
namespace Go.E.Ck
open Go.H Go.E
attribute [local irreducible] BiN MkS ConvN LookN MapUpN CallV HC
/-- Chunks side by side, from a place on. -/
def cks : List Int → Int → List Ck
  | [], _ => []
  | x :: r, p => mk p (p + 1 + x) :: cks r (p + 1 + x)
/-- Where the last one ends. -/
def cke : List Int → Int → Int
  | [], p => p
  | x :: r, p => cke r (p + 1 + x)
theorem cks_len : ∀ (xs : List Int) (p : Int), (cks xs p).length = xs.length
  | [], _ => rfl
  | x :: r, p => by simp [cks, cks_len r]
theorem cks_mv (d : Int) : ∀ (xs : List Int) (p : Int), (cks xs p).map (mvc d) = cks xs (p + d)
  | [], _ => rfl
  | x :: r, p => by
    rw [cks, List.map_cons, cks_mv d r, cks, mk_mv]
    rw [show p + 1 + x + d = p + d + 1 + x by omega]
theorem cke_mv (d : Int) : ∀ (xs : List Int) (p : Int), cke xs (p + d) = cke xs p + d
  | [], _ => rfl
  | x :: r, p => by rw [cke, cke, ← cke_mv d r]; congr 1; omega
theorem cks_snoc (y : Int) : ∀ (xs : List Int) (p : Int), cks (xs ++ [y]) p = cks xs p ++ [mk (cke xs p) (cke xs p + 1 + y)]
  | [], _ => rfl
  | x :: r, p => by rw [List.cons_append, cks, cks_snoc y r, cks, cke]; rfl
theorem cke_snoc (y : Int) : ∀ (xs : List Int) (p : Int), cke (xs ++ [y]) p = cke xs p + 1 + y
  | [], _ => rfl
  | x :: r, p => by rw [List.cons_append, cke, cke_snoc y r, cke]
theorem cke_bd : ∀ (xs : List Int) (p : Int), (∀ x ∈ xs, 0 ≤ x ∧ x < 20) → p ≤ cke xs p ∧ cke xs p ≤ p + 20 * (xs.length : Int)
  | [], p, _ => by simp [cke]
  | x :: r, p, h => by
    have hx := h x (by simp)
    have := cke_bd r (p + 1 + x) (fun y hy => h y (by simp [hy]))
    rw [cke, List.length_cons]; omega
theorem cks_mem : ∀ (xs : List Int) (p : Int), (∀ x ∈ xs, 0 ≤ x ∧ x < 20) → ∀ c ∈ cks xs p, ∃ a b, c = mk a b ∧ p ≤ a ∧ a < b ∧ b ≤ cke xs p
  | [], p, _, c, hc => by cases hc
  | x :: r, p, h, c, hc => by
    have hx := h x (by simp)
    have hr := fun y hy => h y (List.mem_cons_of_mem _ hy)
    rcases List.mem_cons.mp hc with rfl | hc
    · exact ⟨p, p + 1 + x, rfl, by omega, by omega, (cke_bd r (p + 1 + x) hr).1⟩
    · obtain ⟨a, b, e, h1, h2, h3⟩ := cks_mem r (p + 1 + x) hr c hc
      exact ⟨a, b, e, by omega, h2, h3⟩
theorem cks_up : ∀ (xs : List Int) (p : Int), (∀ x ∈ xs, 0 ≤ x ∧ x < 20) → Up (cks xs p)
  | [], p, _ => List.Pairwise.nil
  | x :: r, p, h => by
    have hx := h x (by simp)
    have hr := fun y hy => h y (List.mem_cons_of_mem _ hy)
    refine List.pairwise_cons.mpr ⟨fun c hc => ?_, cks_up r _ hr⟩
    obtain ⟨a, b, rfl, h1, _⟩ := cks_mem r (p + 1 + x) hr c hc
    show p < a
    omega
theorem cks_get : ∀ (xs : List Int) (p : Int) (j : Nat) (x : Int), xs[j]? = some x → (cks xs p)[j]? = some (mk (cke (xs.take j) p) (cke (xs.take j) p + 1 + x))
  | [], p, j, x, h => by simp at h
  | y :: r, p, 0, x, h => by simp at h; subst h; rfl
  | y :: r, p, j + 1, x, h => by
    have := cks_get r (p + 1 + y) j x (by simpa using h)
    rw [cks, List.getElem?_cons_succ, this]; rfl
theorem cks_bc {xs : List Int} {p : Int} (h : ∀ x ∈ xs, 0 ≤ x ∧ x < 20) (hl : xs.length ≤ 6) (hp : 0 ≤ p ∧ p ≤ 10000) : ∀ e ∈ lcO (cks xs p), Bc 1000000000000 e.2 := by
  intro e he
  obtain ⟨c, hc, rfl⟩ := lcO_mem.mp he
  obtain ⟨a, b, rfl, h1, h2, h3⟩ := cks_mem xs p h c hc
  have := cke_bd xs p h
  exact mk_bc (by unfold Bd; omega) (by unfold Bd; omega)
theorem fmap_congr {γ δ : Type} {f g : γ → Option δ} : ∀ {l : List γ}, (∀ x ∈ l, f x = g x) → l.filterMap f = l.filterMap g
  | [], _ => rfl
  | x :: l, h => by
    rw [List.filterMap_cons, List.filterMap_cons, h x (by simp), fmap_congr (fun y hy => h y (by simp [hy]))]
/-- An edit of the front. -/
theorem ck1_front {xs : List Int} {p d : Int} (h : ∀ x ∈ xs, 0 ≤ x ∧ x < 20) (hp : 40 ≤ p) : (cks xs p).filterMap (ck1 0 0 (d - (0 - 0)) 10) = cks xs (p + d) := by
  rw [← cks_mv]
  rw [← List.filterMap_eq_map]
  refine fmap_congr ?_
  intro c hc
  obtain ⟨a, b, rfl, h1, h2, h3⟩ := cks_mem xs p h c hc
  unfold ck1
  rw [if_neg (by show ¬ b ≤ 0 - 10; omega), if_pos (by show a - 10 ≥ 0; omega), show d - (0 - 0) = d by omega]
  rfl
/-- An edit behind all. -/
theorem ck1_back {xs : List Int} {p A B d : Int} (h : ∀ x ∈ xs, 0 ≤ x ∧ x < 20) (hA : cke xs p ≤ A - 10) : (cks xs p).filterMap (ck1 A B d 10) = cks xs p := by
  have : (cks xs p).filterMap (ck1 A B d 10) = (cks xs p).filterMap some := by
    refine fmap_congr ?_
    intro c hc
    obtain ⟨a, b, rfl, h1, h2, h3⟩ := cks_mem xs p h c hc
    unfold ck1
    rw [if_pos (by show b ≤ A - 10; omega)]
  rw [this, List.filterMap_some]
/-- Two stores. -/
structure Two (ms mm : Mem) (F G : Nat → Prop) (bs bt : Nat) (cs ct : List Ck) : Prop where
  s : St ms mm F bs 20 (lcO cs)
  t : St ms mm G bt 20 (lcO ct)
  d : ∀ b, F b → ¬ G b
section
variable {ms mm ms' m' : Mem} {F G F' : Nat → Prop} {bs bt : Nat} {cs ct cs' : List Ck}
theorem Two.up (h : Two ms mm F G bs bt cs ct) (k : Le mm m') : Two ms m' F G bs bt cs ct := ⟨h.s.up k, h.t.up k, h.d⟩
theorem Two.ss (h : Two ms mm F G bs bt cs ct) (s : Step F F' ms mm ms' m') (k : St ms' m' F' bs 20 (lcO cs')) : Two ms' m' F' G bs bt cs' ct :=
  ⟨k, h.t.side s (fun b e x => h.d b x e) k.le, fun b e x => (s.sub b e).elim (fun e => h.d b e x) (fun e => h.t.lv b x e)⟩
theorem Two.ts (h : Two ms mm F G bs bt cs ct) (s : Step G F' ms mm ms' m') (k : St ms' m' F' bt 20 (lcO cs')) : Two ms' m' F F' bs bt cs cs' :=
  ⟨h.s.side s h.d k.le, k, fun b e x => (s.sub b x).elim (fun x => h.d b e x) (fun x => h.s.lv b e x)⟩
end
def nums (bs : List UInt8) : List Int := bs.map fun b => Int.tmod (b.toNat : Int) 20
theorem nums_bd (bs : List UInt8) : ∀ x ∈ nums bs, 0 ≤ x ∧ x < 20 := by
  intro x hx
  obtain ⟨b, _, rfl⟩ := List.mem_map.mp hx
  exact tmod_nn (by omega) (by decide)
theorem take_bd {xs : List Int} (h : ∀ x ∈ xs, 0 ≤ x ∧ x < 20) (j : Nat) : ∀ x ∈ xs.take j, 0 ≤ x ∧ x < 20 := fun x hx => h x (List.mem_of_mem_take hx)
set_option maxHeartbeats 1000000 in
theorem ChunkMoves_m {m : Mem} {la : Option Addr} {lc : Nat} {bs0 : List UInt8} {a b : Int} (hl : CellsAt m la (u8s bs0)) (ha : 0 ≤ a ∧ a < 256) (hb : 0 ≤ b ∧ b < 256) {R : Ending → Mem → Prop} (k : ∀ m', Le m m' → R (.returned (.bool true)) m') :
    HC P eyotlaw28_ChunkMoves.id #[.slice la bs0.length lc, .int .u8 a, .int .u8 b] m R := by
  refine eyotlaw28_ChunkMoves.ok _ _ _ _ _ _ _ ?_
  refine begun_spec ?_
  intro m1 hle1
  refine Br.f rfl ?_
  refine BrD (fun _ => k m1 hle1) (fun h6 => ?_)
  refine New_spec (Le.refl m1) ?_
  intro bs F m2 hle2 hF hst
  dsimp only [Cont]
  refine UnP.mk ?_
  refine New_spec (ms := m1) hle2 ?_
  intro bt G m3 hle3 hG htt
  dsimp only [Cont]
  refine UnP.mk ?_
  have htwo : Two m1 m3 F G bs bt [] [] := ⟨hst.up hle3, htt, fun b e x => hst.lv b e (hG b x)⟩
  clear hst htt hF hG
  have hxl : (nums bs0).length = bs0.length := by simp [nums]
  have hxb := nums_bd bs0
  have hx6 : (nums bs0).length ≤ 6 := by omega
  refine ⟨fun N l1 l2 l3 a' b' s' t' at' i mm => l1 = la ∧ l2 = bs0.length ∧ l3 = lc ∧ a' = a ∧ b' = b ∧ s' = some ⟨bs, 0, none⟩ ∧ t' = some ⟨bt, 0, none⟩ ∧ ∃ (j : Nat) (ms : Mem) (F G : Nat → Prop), i = j ∧ j ≤ bs0.length ∧ N = bs0.length - j ∧ at' = cke ((nums bs0).take j) 40 ∧ Le m1 ms ∧ Two ms mm F G bs bt (cks ((nums bs0).take j) 40) (cks ((nums bs0).take j) 40), bs0.length, ⟨rfl, rfl, rfl, rfl, rfl, rfl, rfl, 0, m1, F, G, rfl, by omega, rfl, rfl, Le.refl _, htwo⟩, ?_⟩
  clear htwo hle2 hle3
  rintro N l1 l2 l3 a' b' s' t' at' i mm ⟨rfl, rfl, rfl, rfl, rfl, rfl, rfl, j, ms, F, G, rfl, hj, rfl, rfl, hms, htw⟩
  have hcj := cke_bd ((nums bs0).take j) 40 (take_bd hxb j)
  have htl : ((nums bs0).take j).length = j := by rw [List.length_take]; omega
  rw [htl] at hcj
  refine BrD (fun hlt => ?_) (fun hge => ?_)
  · have hj' : j < bs0.length := by omega
    have hg := List.getElem?_eq_getElem hj'
    have hrd : ∀ {mm' : Mem}, Le m1 mm' → ∀ {K : Value → Prop}, K (.int .u8 ((bs0[j].toNat : Nat) : Int)) → IxS l1 bs0.length (j : Int) 1 (fun b o => LdV mm' b o K) := by
      intro mm' hle K hK
      refine IxS.u8s ((hl.le hle1).le hle) rfl (by omega) (by omega) ?_
      intro x hx
      rw [Int.toNat_natCast, hg] at hx
      cases hx
      exact hK
    have hxj : (nums bs0)[j]? = some (Int.tmod ((bs0[j].toNat : Nat) : Int) 20) := by unfold nums; rw [List.getElem?_map, hg]; rfl
    have hxm := hxb _ (List.mem_of_getElem? hxj)
    generalize hX : Int.tmod ((bs0[j].toNat : Nat) : Int) 20 = X at *
    generalize hP : cke ((nums bs0).take j) 40 = p at *
    have hmm : Le m1 mm := hms.trans htw.s.le
    refine hrd hmm (UnI.mk ?_)
    rw [hX, wi (n := X) (by omega) (by omega), wi (n := p + 1) (by omega) (by omega), wi (n := p + 1 + X) (by omega) (by omega)]
    refine made_spec ?_
    intro v m4 hle4 hv
    have htw4 := htw.up hle4
    refine Put_spec (c := mk p (p + 1 + X)) htw4.s (by rw [lcO_len, cks_len, htl]; omega) (hv.le (nw_le _ _)) (mk_bc (by unfold Bd; omega) (by unfold Bd; omega)) ?_
    intro F5 ms5 m5 s5 hst5
    have hput : putL 20 (mk p (p + 1 + X)).1 (mk p (p + 1 + X)) (lcO (cks ((nums bs0).take j) 40)) = lcO (cks ((nums bs0).take (j + 1)) 40) := by
      have e1 : (nums bs0).take (j + 1) = (nums bs0).take j ++ [X] := by rw [List.take_add_one, hxj]; rfl
      rw [e1, cks_snoc, hP]
      refine put_lcO ?_ ?_
      · intro d hd
        obtain ⟨a1, b1, rfl, q1, q2, q3⟩ := cks_mem _ _ (take_bd hxb j) d hd
        rw [hP] at q3
        show a1 < p
        omega
      · rw [cks_len, htl]; omega
    rw [hput] at hst5
    have htw5 := htw4.ss s5 hst5
    refine hrd ((hms.trans s5.up).trans htw5.s.le) (UnI.mk ?_)
    rw [hX, wi (n := X) (by omega) (by omega), wi (n := p + 1 + X) (by omega) (by omega)]
    refine made_spec ?_
    intro v6 m6 hle6 hv6
    have htw6 := htw5.up hle6
    refine Put_spec (c := mk p (p + 1 + X)) htw6.t (by rw [lcO_len, cks_len, htl]; omega) (hv6.le (nw_le _ _)) (mk_bc (by unfold Bd; omega) (by unfold Bd; omega)) ?_
    intro G7 ms7 m7 s7 hst7
    rw [hput] at hst7
    have htw7 := htw6.ts s7 hst7
    refine hrd (((hms.trans s5.up).trans s7.up).trans htw7.s.le) (UnI.mk ?_)
    rw [hX, wi (n := X) (by omega) (by omega), wi (n := p + 1 + X) (by omega) (by omega)]
    refine ⟨bs0.length - (j + 1), by omega, rfl, rfl, rfl, rfl, rfl, rfl, rfl, j + 1, ms7, F5, G7, ?_, by omega, rfl, ?_, (hms.trans s5.up).trans s7.up, htw7⟩
    · rw [wi (by omega) (by omega)]; omega
    · have e1 : (nums bs0).take (j + 1) = (nums bs0).take j ++ [X] := by rw [List.take_add_one, hxj]; rfl
      rw [e1, cke_snoc, hP]
  have e : j = bs0.length := by omega
  subst e
  rw [List.take_of_length_le (by omega)] at htw hcj
  rw [List.take_of_length_le (by omega)]
  have hget : ∀ (j : Nat) (x : UInt8), bs0[j]? = some x → (nums bs0)[j]? = some (Int.tmod ((x.toNat : Nat) : Int) 20) := fun j x h => by unfold nums; rw [List.getElem?_map, h]; rfl
  generalize nums bs0 = xs at *
  generalize hE : cke xs 40 = E at *
  have hlen : ∀ p, (lcO (cks xs p)).length ≤ 4000 := fun p => by rw [lcO_len, cks_len]; omega
  have hnod : ∀ p, (keysOf (lcO (cks xs p))).Nodup := fun p => lcO_nodup (cks_up xs p hxb)
  have hed : ∀ p d, 40 ≤ p → edL 20 0 0 d 10 (lcO (cks xs p)) = lcO (cks xs (p + d)) := fun p d hp => by
    have h1 := ck1_front (d := d) hxb hp
    rw [edL_lcO]
    · rw [h1]
    · rw [h1]; exact cks_up xs _ hxb
    · rw [cks_len]; omega
  show HC P chunk_Store_Edit.id _ _ _
  rw [wi (n := a') (by omega) (by omega)]
  refine Edit_spec htw.s (hlen _) (hnod _) (by unfold Bd; omega) (by unfold Bd; omega) (by unfold Bd; omega) (by unfold Bd; omega) (cks_bc hxb hx6 (by omega)) ?_
  intro F5 ms5 m5 s5 hst5
  rw [hed 40 a' (by omega)] at hst5
  have htw5 := htw.ss s5 hst5
  rw [wi (n := b') (by omega) (by omega)]
  refine Edit_spec htw5.s (hlen _) (hnod _) (by unfold Bd; omega) (by unfold Bd; omega) (by unfold Bd; omega) (by unfold Bd; omega) (cks_bc hxb hx6 (by omega)) ?_
  intro F6 ms6 m6 s6 hst6
  rw [hed (40 + a') b' (by omega)] at hst6
  have htw6 := htw5.ss s6 hst6
  rw [wi (n := a' + b') (by omega) (by omega)]
  refine Edit_spec htw6.t (hlen _) (hnod _) (by unfold Bd; omega) (by unfold Bd; omega) (by unfold Bd; omega) (by unfold Bd; omega) (cks_bc hxb hx6 (by omega)) ?_
  intro G7 ms7 m7 s7 hst7
  rw [hed 40 (a' + b') (by omega)] at hst7
  have htw7 := htw6.ts s7 hst7
  rw [wi (n := E + (a' + b')) (by omega) (by omega), wi (n := E + (a' + b') + 10) (by omega) (by omega), wi (n := E + (a' + b') + 20) (by omega) (by omega)]
  refine Edit_spec htw7.t (hlen _) (hnod _) (by unfold Bd; omega) (by unfold Bd; omega) (by unfold Bd; omega) (by unfold Bd; omega) (cks_bc hxb hx6 (by omega)) ?_
  intro G8 ms8 m8 s8 hst8
  have hbk := ck1_back (p := 40 + (a' + b')) (A := E + (a' + b') + 10) (B := E + (a' + b') + 20) (d := 3 - (E + (a' + b') + 20 - (E + (a' + b') + 10))) hxb (by rw [cke_mv, hE]; omega)
  rw [edL_lcO (by rw [hbk]; exact cks_up xs _ hxb) (by rw [cks_len]; omega), hbk] at hst8
  have htw8 := htw7.ts s8 hst8
  have hbig : ∀ p, 0 ≤ p ∧ p ≤ 10000 → ∀ e ∈ lcO (cks xs p), Bc 1000000000000000 e.2 := fun p hp e he => (cks_bc hxb hx6 hp e he).mono (by omega)
  have hmid : 40 + a' + b' = 40 + (a' + b') := by omega
  rw [hmid] at htw8
  refine Kept_spec htw8.s (hlen _) (hnod _) (hbig _ (by omega)) ?_
  intro F9 m9 oa oc rp lc9 hc9 hs9 _ hst9 how9 hf9 _ hrs9 hpm9 hso9
  dsimp only [Cont]
  refine UnS.mk ?_
  have hrp9 : rp.map (·.1) = cks xs (40 + (a' + b')) := ord_eq (hpm9.trans (lcO_vals _)) hso9 (cks_up xs _ hxb)
  have hstep9 : Step F6 F9 ms8 m8 ms8 m9 := ⟨hc9, Le.refl _, fun b hb => .inl hb, hs9⟩
  have ht9 := htw8.t.side hstep9 (fun b e x => htw8.d b x e) hst9.le
  refine Kept_spec ht9 (hlen _) (hnod _) (hbig _ (by omega)) ?_
  intro G10 m10 ob od rq lc10 hc10 hs10 _ hst10 how10 hf10 _ hrs10 hpm10 hso10
  dsimp only [Cont]
  refine UnS.mk ?_
  have hrp10 : rq.map (·.1) = cks xs (40 + (a' + b')) := ord_eq (hpm10.trans (lcO_vals _)) hso10 (cks_up xs _ hxb)
  have hl9 : rp.length = bs0.length := by rw [← hxl, ← cks_len xs (40 + (a' + b')), ← hrp9, List.length_map]
  have hl10 : rq.length = bs0.length := by rw [← hxl, ← cks_len xs (40 + (a' + b')), ← hrp10, List.length_map]
  rw [hl9, hl10]
  refine BrNf rfl ?_
  refine BrNf rfl ?_
  rw [wi (n := 40 + (a' + b')) (by omega) (by omega)]
  have hup : Le (nw m8 m9) m10 := fun b o hb => hc10.eq b o (nw_le _ _ _ _ hb) (fun e => htw8.t.lv b e (nw_fresh (by rw [hb]; simp)))
  have hr1 : CellsAt m10 oa (rp.flatMap ckv) := (CellsAt.nw how9.cells hf9).le hup
  have hr2 : CellsAt m10 ob (rq.flatMap ckv) := how10.cells
  have hs1 : ∀ p ∈ rp, SpsAt m10 p.2 p.1.2.2 := fun p hp => (hrs9 p hp).le ((nws_le _ _ _).trans hup)
  have hs2 : ∀ p ∈ rq, SpsAt m10 p.2 p.1.2.2 := fun p hp => (hrs10 p hp).le ((nws_le _ _ _).trans (nw_le _ _))
  have hle10 : Le m1 m10 := (((((hms.trans s5.up).trans s6.up).trans s7.up).trans s8.up)).trans hst10.le
  refine ⟨fun N l1' l2 l3 at' xa xl xc ya yl yc i mm => l1' = l1 ∧ l2 = bs0.length ∧ xa = oa ∧ xl = rp.length ∧ ya = ob ∧ yl = rq.length ∧ Le m10 mm ∧ ∃ j : Nat, i = j ∧ j ≤ bs0.length ∧ N = bs0.length - j ∧ at' = cke (xs.take j) (40 + (a' + b')), bs0.length, ⟨rfl, rfl, rfl, hl9.symm, rfl, hl10.symm, Le.refl _, 0, rfl, by omega, by omega, rfl⟩, ?_⟩
  rintro N l1' l2 l3 at' xa xl xc ya yl yc i mm ⟨rfl, rfl, rfl, rfl, rfl, rfl, hle, j, rfl, hj, rfl, rfl⟩
  refine BrD (fun hlt => ?_) (fun hge => k mm ((hle1.trans hle10).trans hle))
  have hj' : j < bs0.length := by omega
  have hg := List.getElem?_eq_getElem hj'
  refine IxS.u8s (((hl.le hle1).le hle10).le hle) rfl (by omega) (by omega) ?_
  intro x hx
  rw [Int.toNat_natCast, hg] at hx
  cases hx
  refine UnI.mk ?_
  have hxj := hget j _ hg
  have hxm := hxb _ (List.mem_of_getElem? hxj)
  have hcg := cks_get xs (40 + (a' + b')) j _ hxj
  have hcj2 := cke_bd (xs.take j) (40 + (a' + b')) (take_bd hxb j)
  have htl2 : (xs.take j).length = j := by rw [List.length_take]; omega
  rw [htl2] at hcj2
  have hnx : cke (xs.take (j + 1)) (40 + (a' + b')) = cke (xs.take j) (40 + (a' + b')) + 1 + Int.tmod ((bs0[j].toNat : Nat) : Int) 20 := by
    rw [List.take_add_one, hxj]
    exact cke_snoc _ _ _
  generalize hX : Int.tmod ((bs0[j].toNat : Nat) : Int) 20 = X at *
  generalize hP : cke (xs.take j) (40 + (a' + b')) = p at *
  rw [wi (n := X) (by omega) (by omega), wi (n := p + 1) (by omega) (by omega), wi (n := p + 1 + X) (by omega) (by omega)]
  obtain ⟨v1, hv1⟩ := rows_of hrp9 hcg
  obtain ⟨v2, hv2⟩ := rows_of hrp10 hcg
  refine IxS.rows cklen (by decide) (hr1.le hle) rfl (by omega) (by omega) ?_
  intro q1 o1 x1 hx1 hc1
  rw [Int.toNat_natCast, hv1] at hx1
  cases hx1
  refine LdV.mk (hc1 0 _ rfl) (LdV.mk (hc1 1 _ rfl) (LdV.mk (hc1 2 _ rfl) ?_))
  refine same_true ((hs1 _ (List.mem_of_getElem? hv1)).le hle) ?_
  intro m11 hle11
  refine Br.f rfl ?_
  refine IxS.rows cklen (by decide) (hr2.le (hle.trans hle11)) rfl (by omega) (by omega) ?_
  intro q2 o2 x2 hx2 hc2
  rw [Int.toNat_natCast, hv2] at hx2
  cases hx2
  refine LdV.mk (hc2 0 _ rfl) (LdV.mk (hc2 1 _ rfl) (LdV.mk (hc2 2 _ rfl) ?_))
  refine same_true ((hs2 _ (List.mem_of_getElem? hv2)).le (hle.trans hle11)) ?_
  intro m12 hle12
  refine Br.f rfl ?_
  refine ⟨bs0.length - (j + 1), by omega, rfl, rfl, rfl, rfl, rfl, rfl, (hle.trans hle11).trans hle12, j + 1, ?_, by omega, rfl, hnx.symm⟩
  rw [wi (by omega) (by omega)]; omega
section
variable {W : World} {v0 v1 v2 v3 : Value}
theorem ChunkMoves_arg (h0 : Arg P W T_sl_uint8 v0) (h1 : Arg P W T_uint8 v1) (h2 : Arg P W T_uint8 v2) : HC P eyotlaw28_ChunkMoves.id #[v0, v1, v2] (heapM W) fun e m' => e = .returned (.bool true) ∧ Le (heapM W) m' := by
  obtain ⟨a, l, c, bs2, rfl, hlc, hbl, _, hc⟩ := h0.u8s (e := T_uint8) (by kernel_rfl) (by kernel_rfl)
  obtain ⟨n1, rfl, w1⟩ := h1.int (k := .u8) (by kernel_rfl)
  obtain ⟨n2, rfl, w2⟩ := h2.int (k := .u8) (by kernel_rfl)
  have hl : (bs2.take l).length = l := by rw [List.length_take]; omega
  have := ChunkMoves_m (lc := c) hc (wf_u8 w1) (wf_u8 w2) (R := fun e m' => e = .returned (.bool true) ∧ Le (heapM W) m') (fun m' hle => ⟨rfl, hle⟩)
  rw [hl] at this
  exact this
end
end Go.E.Ck
namespace Go.E
theorem ChunkMoves_arg {W : World} {v0 v1 v2 : Value} (h0 : Go.H.Arg P W T_sl_uint8 v0) (h1 : Go.H.Arg P W T_uint8 v1) (h2 : Go.H.Arg P W T_uint8 v2) : Go.H.HC P eyotlaw28_ChunkMoves.id #[v0, v1, v2] (Go.H.heapM W) fun e m' => e = .returned (.bool true) ∧ Go.H.Le (Go.H.heapM W) m' := Ck.ChunkMoves_arg h0 h1 h2
end Go.E
