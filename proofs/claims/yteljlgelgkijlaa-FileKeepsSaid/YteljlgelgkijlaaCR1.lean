/- The document's cache (eyotref3). -/
import Derived.Test.YteljlgelgkijlaaCAg
set_option linter.unusedVariables false
set_option linter.unusedSimpArgs false
namespace Go.E
open Go.H
attribute [local irreducible] BiN MkS ConvN LookN MapUpN CallV HC

structure Rc (m : Mem) (F : Nat → Prop) (br : Nat) (most : Int) (es : List (Int × Int)) : Prop where
  ex : ∃ ka kc va vc, m br = some (.cells #[.int .i64 most, .slice ka es.length kc, .slice va es.length vc] T_eyotref3_Cache (0, 0)) ∧ Own m T_int 1 ka es.length kc (ints (es.map (·.1))) ∧ Own m T_int 1 va es.length vc (ints (es.map (·.2))) ∧ F br ∧ (∀ b, blk ka = some b → F b) ∧ ∀ b, blk va = some b → F b
  lv : ∀ b, F b → m b ≠ none
section
variable {m m' : Mem} {F : Nat → Prop} {br : Nat} {most : Int} {es : List (Int × Int)}
theorem Rc.le (h : Le m m') (k : Rc m F br most es) : Rc m' F br most es := by
  obtain ⟨⟨ka, kc, va, vc, h1, h2, h3, h4⟩, lv⟩ := k
  exact ⟨⟨ka, kc, va, vc, h _ _ h1, Own.le h h2, Own.le h h3, h4⟩, fun b hb => h.live (lv b hb)⟩
theorem Rc.chg {S : Nat → Prop} (h : Chg S m m') (k : Rc m F br most es) (hn : ∀ b, F b → ¬ S b) : Rc m' F br most es := by
  obtain ⟨⟨ka, kc, va, vc, h1, h2, h3, h4, h5, h6⟩, lv⟩ := k
  exact ⟨⟨ka, kc, va, vc, h.eq _ _ h1 (hn _ h4), h2.chg h (fun b e => hn _ (h5 b e)), h3.chg h (fun b e => hn _ (h6 b e)), h4, h5, h6⟩, fun b hb => h.live b (lv b hb)⟩
/-- Both rows are told anew. -/
theorem Rc.mk2 {x y z : Value} (hm : m br = some (.cells #[x, y, z] T_eyotref3_Cache (0, 0))) (hF : F br) {ka va : Option Addr} {kc vc : Nat} (hk : Own m T_int 1 ka es.length kc (ints (es.map (·.1)))) (hv : Own m T_int 1 va es.length vc (ints (es.map (·.2))))
    {m0 : Mem} (hc0 : Chg F m0 m) (hka : ∀ b, blk ka = some b → F b ∨ m0 b = none) (hva : ∀ b, blk va = some b → F b ∨ m0 b = none) {K : Mem → Prop}
    (k : ∀ F' m', Chg F m0 m' → (∀ b, F' b → F b ∨ m0 b = none) → Rc m' F' br most es → K m') : K (m.set br (.cells #[.int .i64 most, .slice ka es.length kc, .slice va es.length vc] T_eyotref3_Cache (0, 0))) := by
  have hc := Chg.set m br (.cells #[.int .i64 most, .slice ka es.length kc, .slice va es.length vc] T_eyotref3_Cache (0, 0))
  have hkn : blk ka ≠ some br := own_ne hk hm (by decide)
  have hvn : blk va ≠ some br := own_ne hv hm (by decide)
  have hk' := hk.chg hc (fun b e hb => hkn (hb ▸ e))
  have hv' := hv.chg hc (fun b e hb => hvn (hb ▸ e))
  refine k (fun b => b = br ∨ blk ka = some b ∨ blk va = some b) _ (hc0.trans hc (fun b _ e => e ▸ hF)) ?_ ⟨⟨ka, kc, va, vc, set_same _ _ _, hk', hv', .inl rfl, fun b e => .inr (.inl e), fun b e => .inr (.inr e)⟩, ?_⟩
  · rintro b (rfl | e | e)
    · exact .inl hF
    · exact hka b e
    · exact hva b e
  · rintro b (rfl | e | e)
    · rw [set_same]; simp
    · exact hk'.live b e
    · exact hv'.live b e
theorem rat_spec (h : Rc m F br most es) (hll : es.length ≤ 10000) {k : Int} {R : Ending → Mem → Prop} (r : R (.returned (.int .i64 (ixI (ixF k es 0)))) m) : HC P eyotref3_Cache_at.id #[.pointer (some ⟨br, 0, none⟩), .int .i64 k] m R := by
  obtain ⟨⟨ka, kc, va, vc, h1, h2, h3, h4⟩, lv⟩ := h
  refine eyotref3_Cache_at.ok _ _ _ _ ?_
  refine ⟨fun N c x i mm => c = some ⟨br, 0, none⟩ ∧ x = k ∧ mm = m ∧ ∃ j : Nat, i = j ∧ j ≤ es.length ∧ N = es.length - j ∧ ixF k (es.drop j) j = ixF k es 0, es.length, ⟨rfl, rfl, rfl, 0, rfl, by omega, by omega, by simp⟩, ?_⟩
  rintro N c x i mm ⟨rfl, rfl, rfl, j, rfl, hj, rfl, hx⟩
  refine LdV.s1 h1 ?_
  refine BrD (fun hlt => ?_) (fun hge => ?_)
  rotate_left
  · rw [List.drop_of_length_le (by omega)] at hx
    rw [← hx] at r
    exact r
  refine LdV.s1 h1 ?_
  have hjl : j < es.length := by omega
  have hg := List.getElem?_eq_getElem hjl
  refine IxS.ints h2.cells (by simp) (by omega) (by omega) ?_
  intro y hy
  rw [Int.toNat_natCast, List.getElem?_map, hg] at hy
  cases hy
  rw [ixF_drop hg] at hx
  refine BrE (fun hk => ?_) (fun hk => ?_)
  · rw [if_pos hk] at hx
    rw [← hx] at r
    exact r
  · rw [if_neg hk] at hx
    refine ⟨es.length - (j + 1), by omega, rfl, rfl, rfl, j + 1, ?_, by omega, rfl, hx⟩
    rw [wi (by omega) (by omega)]; omega
end
/-- 'append(append([]int{}, xs[:i]...), xs[i+1:]...)'. -/
theorem cutout {m r : Mem} (hr : Le r m) {a : Option Addr} {c : Nat} {xs : List Int} (ho : Own m T_int 1 a xs.length c (ints xs)) {i : Nat} (hi : i < xs.length) (hll : xs.length ≤ 10000) {K : Option Addr → Nat → Nat → Mem → Prop} {Pn : List PanicEntry → Mem → Prop}
    (k : ∀ a' c' m', Le m m' → Own m' T_int 1 a' (xs.length - 1) c' (ints (xs.eraseIdx i)) → Fresh m a' → K a' (xs.length - 1) c' m') :
    NewC m #[] T_int fun b12 m3 => Lk r m3 fun r4 => BiN P .append #[T_sl_int, T_sl_int] T_sl_int #[false, false] #[.slice (some ⟨b12, 0, none⟩) 0 0, .slice (shf a (0 : Int).toNat 1 c) ((i : Int).toNat - (0 : Int).toNat) (c - (0 : Int).toNat)] m3 (fun w m5 =>
      UnS w fun x19a x19l x19c => Lk r4 m5 fun r6 => BiN P .append #[T_sl_int, T_sl_int] T_sl_int #[false, false] #[.slice x19a x19l x19c, .slice (shf a ((i : Int) + 1).toNat 1 c) (((xs.length : Nat) : Int).toNat - ((i : Int) + 1).toNat) (c - ((i : Int) + 1).toNat)] m5 (fun w m7 =>
        UnS w fun x27a x27l x27c => K x27a x27l x27c m7) Pn) Pn := by
  have hcap := ho.cap
  have hp1 : CellsAt m (shf a (0 : Int).toNat 1 c) (ints (xs.take i)) := by
    have := CellsAt.sub (sz := 1) (lo := 0) (hi := i) (c := c) ho.cells (by rw [ints_len]; omega) (by omega)
    simpa [ints] using this
  have hp2 : CellsAt m (shf a ((i : Int) + 1).toNat 1 c) (ints (xs.drop (i + 1))) := by
    have := CellsAt.sub (sz := 1) (lo := i + 1) (hi := xs.length) (c := c) ho.cells (by rw [ints_len]; omega) hcap
    rw [List.take_of_length_le (by rw [ints_len]; omega)] at this
    simpa [ints] using this
  intro b hb
  refine ⟨r, Le.refl _, hr.trans (Le.set hb _), ?_⟩
  refine clone_gen eInt (by decide) hp1 ?_ (ints_one _) (by omega) (by omega) ?_ b hb
  · rw [ints_len, List.length_take]; omega
  intro ya yc m5 hle5 ho5 hf5
  refine ⟨r, Le.refl _, hr.trans hle5, ?_⟩
  refine append_own eInt ho5 (hp2.le hle5) ?_ (ints_one _) (by decide) (by omega) (by omega) ?_
  · rw [ints_len, List.length_drop]; omega
  intro za zc m7 ho7 hg7
  have hw := grown_le hle5 hf5 hg7
  have e : (i : Int).toNat - (0 : Int).toNat + (((xs.length : Nat) : Int).toNat - ((i : Int) + 1).toNat) = xs.length - 1 := by omega
  rw [e] at ho7 ⊢
  refine k za zc m7 hw.1 ?_ hw.2
  have e2 : ints (xs.take i) ++ ints (xs.drop (i + 1)) = ints (xs.eraseIdx i) := by
    rw [List.eraseIdx_eq_take_drop_succ]; simp [ints]
  rw [e2] at ho7
  exact ho7
section
variable {m m' : Mem} {F : Nat → Prop} {br : Nat} {most : Int} {es : List (Int × Int)}
theorem map_eraseIdx' {α β : Type} (f : α → β) : ∀ (l : List α) (i : Nat), (l.eraseIdx i).map f = (l.map f).eraseIdx i
  | [], i => by simp
  | x :: l, 0 => by simp
  | x :: l, i + 1 => by simp [map_eraseIdx' f l i]
theorem rDrop_spec (h : Rc m F br most es) (hll : es.length ≤ 10000) (k : Int) {R : Ending → Mem → Prop}
    (r : ∀ F' m', Chg F m m' → (∀ b, F' b → F b ∨ m b = none) → Rc m' F' br most (dropL k es) → R (.returned (.bool (ixF k es 0).isSome)) m') : HC P eyotref3_Cache_Drop.id #[.pointer (some ⟨br, 0, none⟩), .int .i64 k] m R := by
  refine eyotref3_Cache_Drop.ok _ _ _ _ ?_
  refine rat_spec h (by omega) ?_
  cases hx : ixF k es 0 with
  | none =>
    refine BrDt (by decide) ?_
    have := r F m (Chg.refl _ _) (fun b hb => .inl hb) (by unfold dropL; rw [hx]; exact h)
    rw [hx] at this
    exact this
  | some i =>
    obtain ⟨_, hi2, _⟩ := ixF_some hx
    rw [Nat.zero_add] at hi2
    have hdl : dropL k es = es.eraseIdx i := by unfold dropL; rw [hx]
    have hlen : es.length - 1 = (dropL k es).length := by rw [hdl, List.length_eraseIdx_of_lt hi2]
    rw [show ixI (some i) = ((i : Nat) : Int) from rfl]
    refine BrDf (p := ((i : Nat) : Int) < 0) (by omega) ?_
    have h' := h
    obtain ⟨⟨ka, kc, va, vc, h1, h2, h3, h4, h5, h6⟩, lv⟩ := h
    have hkc := h2.cap
    have hvc := h3.cap
    refine ⟨m, Le.refl _, ?_⟩
    refine LdV.s1 h1 (UnS.mk ?_)
    refine ⟨by omega, by omega, by omega, ?_⟩
    refine LdV.s1 h1 (UnS.mk ?_)
    have hw : IntKind.i64.wrap (((i : Nat) : Int) + 1) = ((i : Nat) : Int) + 1 := wi (by omega) (by omega)
    rw [hw]
    refine ⟨by omega, by omega, by omega, ?_⟩
    have ck := cutout (Le.refl m) (a := ka) (c := kc) (xs := es.map (·.1)) (by simpa using h2) (i := i) (by simpa using hi2) (by simpa using hll) (Pn := panicR R)
      (K := fun x27a x27l x27c m7 => NilC (some ⟨br, 0, none⟩) (fun x28b x28o => St1 m7 x28b (x28o + 1) (.slice x27a x27l x27c) fun m8 => H.Sub m8 fun r9 => NilC (some ⟨br, 0, none⟩) (fun x33b x33o => LdV r9 x33b (x33o + 2) fun v => UnS v fun x35a x35l x35c => SlS x35a x35c 0 i 1 fun x37a x37l x37c =>
        NilC (some ⟨br, 0, none⟩) (fun x40b x40o => LdV r9 x40b (x40o + 2) fun v => UnS v fun x42a x42l x42c => SlS x42a x42c ((i : Int) + 1) x42l 1 fun x45a x45l x45c =>
        NewC m8 #[] T_int fun b31 m10 => Lk r9 m10 fun r11 => BiN P .append #[T_sl_int, T_sl_int] T_sl_int #[false, false] #[.slice (some ⟨b31, 0, none⟩) 0 0, .slice x37a x37l x37c] m10 (fun w m12 => UnS w fun x38a x38l x38c => Lk r11 m12 fun r13 =>
        BiN P .append #[T_sl_int, T_sl_int] T_sl_int #[false, false] #[.slice x38a x38l x38c, .slice x45a x45l x45c] m12 (fun w m14 => UnS w fun x46a x46l x46c => NilC (some ⟨br, 0, none⟩) (fun x47b x47o => St1 m14 x47b (x47o + 2) (.slice x46a x46l x46c) fun m15 => R (.returned (.bool true)) m15) False) (panicR R)) (panicR R)) False) False) False) ?_
    · rw [List.length_map] at ck
      exact ck
    intro a' c' m7 hle7 ho7 hf7
    rw [List.length_map] at ho7 ⊢
    refine St1.to #[.int .i64 most, .slice a' (es.length - 1) c', .slice va es.length vc] (o := 0 + 1) (hle7 _ _ h1) (by simp) rfl rfl ?_
    have hc8 := Chg.set m7 br (.cells #[.int .i64 most, .slice a' (es.length - 1) c', .slice va es.length vc] T_eyotref3_Cache (0, 0))
    have hb8 := set_same m7 br (.cells #[.int .i64 most, .slice a' (es.length - 1) c', .slice va es.length vc] T_eyotref3_Cache (0, 0))
    have hn7 : blk a' ≠ some br := own_ne ho7 (hle7 _ _ h1) (by decide)
    have hnv : blk va ≠ some br := own_ne h3 h1 (by decide)
    have ho8 := ho7.chg hc8 (fun b e hb => hn7 (hb ▸ e))
    have hv8 := (h3.le hle7).chg hc8 (fun b e hb => hnv (hb ▸ e))
    have hch08 : Chg F m (m7.set br (.cells #[.int .i64 most, .slice a' (es.length - 1) c', .slice va es.length vc] T_eyotref3_Cache (0, 0))) := (hle7.chg F).trans hc8 (fun b _ e => e ▸ h4)
    generalize m7.set br (.cells #[.int .i64 most, .slice a' (es.length - 1) c', .slice va es.length vc] T_eyotref3_Cache (0, 0)) = m8 at *
    refine ⟨m8, Le.refl _, ?_⟩
    refine LdV.s2 hb8 (UnS.mk ?_)
    refine ⟨by omega, by omega, by omega, ?_⟩
    refine LdV.s2 hb8 (UnS.mk ?_)
    try rw [hw]
    refine ⟨by omega, by omega, by omega, ?_⟩
    have cv := cutout (Le.refl m8) (a := va) (c := vc) (xs := es.map (·.2)) (by simpa using hv8) (i := i) (by simpa using hi2) (by simpa using hll) (Pn := panicR R)
      (K := fun x46a x46l x46c m14 => NilC (some ⟨br, 0, none⟩) (fun x47b x47o => St1 m14 x47b (x47o + 2) (.slice x46a x46l x46c) fun m15 => R (.returned (.bool true)) m15) False) ?_
    · rw [List.length_map] at cv
      exact cv
    intro a2 c2 m14 hle14 ho14 hf14
    rw [List.length_map] at ho14 ⊢
    refine St1.to #[.int .i64 most, .slice a' (es.length - 1) c', .slice a2 (es.length - 1) c2] (o := 0 + 2) (hle14 _ _ hb8) (by simp) rfl rfl ?_
    rw [hlen, ← map_eraseIdx', ← hdl] at ho8 ho14
    rw [hlen]
    refine Rc.mk2 (es := dropL k es) (hle14 _ _ hb8) h4 (ho8.le hle14) ho14 (hch08.trans (hle14.chg F) (fun _ _ h => h)) (fun b e => .inr (hf7 b e)) (fun b e => .inr (hch08.new (hf14 b e))) ?_
    intro F' m' hc hF hr
    have := r F' m' hc hF hr
    rw [hx] at this
    exact this
end
end Go.E
