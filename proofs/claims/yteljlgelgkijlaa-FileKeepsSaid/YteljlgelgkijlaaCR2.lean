import Derived.Test.YteljlgelgkijlaaCR1
set_option linter.unusedVariables false
set_option linter.unusedSimpArgs false
namespace Go.E
open Go.H
attribute [local irreducible] BiN MkS ConvN LookN MapUpN CallV HC

theorem St1.at12 {m : Mem} {b : Nat} {x y z u v : Value} {e : TypeId} {K : Mem → Prop} (h : m b = some (.cells #[x, y, z] e (0, 0))) (hu : notOne u = false) (hv : notOne v = false)
    (k : K (m.set b (.cells #[x, u, v] e (0, 0)))) : St1 m b (0 + 1) u fun m' => St1 m' b (0 + 2) v K := by
  refine St1.to #[x, u, z] (o := 0 + 1) h (by simp) hu rfl ?_
  refine St1.to #[x, u, v] (o := 0 + 2) (set_same _ _ _) (by simp) hv rfl ?_
  rw [set_set]; exact k
theorem own_lit {m : Mem} {b : Nat} {v : Value} (h : m b = some (.cells #[v] T_int (0, 0))) : Own m T_int 1 (some ⟨b, 0, none⟩) 1 1 [v] := ⟨rfl, .inr ⟨b, #[v], rfl, h, Nat.le_refl _, rfl, rfl, by omega⟩⟩
theorem ints_dropLast (xs : List Int) : (ints xs).take ((xs.length - 1) * 1) = ints xs.dropLast := by
  rw [List.dropLast_eq_take, Nat.mul_one]; simp [ints]
section
variable {m m' : Mem} {F : Nat → Prop} {br : Nat} {most : Int} {es : List (Int × Int)}
/-- The last part of Put: of what is too much the last one goes. -/
theorem rPut_k1 {m0 : Mem} (hc0 : Chg F m0 m) {L : List (Int × Int)} (hL : L ≠ []) (hll : L.length ≤ 10000) {F2 : Nat → Prop} (h : Rc m F2 br most L) (hF2 : ∀ b, F2 b → F b ∨ m0 b = none) {R : Ending → Mem → Prop}
    (r : ∀ F' m', Chg F m0 m' → (∀ b, F' b → F b ∨ m0 b = none) → Rc m' F' br most (if ((L.length : Nat) : Int) ≤ max most 1 then L else L.dropLast) →
      R (.returned (.tuple #[.int .i64 (if ((L.length : Nat) : Int) ≤ max most 1 then ((0, false) : Int × Bool) else ((L.getLast hL).1, true)).1, .bool (if ((L.length : Nat) : Int) ≤ max most 1 then ((0, false) : Int × Bool) else ((L.getLast hL).1, true)).2])) m') : eyotref3_Cache_Put.k1 (some ⟨br, 0, none⟩) R m := by
  unfold eyotref3_Cache_Put.k1
  have hpos : 0 < L.length := List.length_pos_iff.mpr hL
  have h' := h
  obtain ⟨⟨ka, kc, va, vc, h1, h2, h3, h4, h5, h6⟩, lv⟩ := h
  refine ⟨m, Le.refl _, ?_⟩
  refine LdV.s1 h1 (UnS.mk ?_)
  refine LdV.s0 h1 (UnI.mk ?_)
  have hmx : (if 1 > most then 1 else most) = max most 1 := by split <;> omega
  rw [hmx]
  refine BrD (fun hc => ?_) (fun hc => ?_)
  · have := r F2 m hc0 hF2 (by rw [if_pos hc]; exact h')
    rw [if_pos hc] at this
    exact this
  · refine ⟨m, Le.refl _, ?_⟩
    refine LdV.s1 h1 (UnS.mk ?_)
    refine LdV.s1 h1 (UnS.mk ?_)
    rw [wi (n := ((L.length : Nat) : Int) - 1) (by omega) (by omega)]
    refine IxS.ints h2.cells (by simp) (by omega) (by omega) ?_
    intro y hy
    have hlast : (L.getLast hL).1 = y := by
      rw [List.getLast_eq_getElem]
      rw [List.getElem?_map, show (((L.length : Nat) : Int) - 1).toNat = L.length - 1 by omega, List.getElem?_eq_getElem (by omega)] at hy
      exact Option.some.inj hy
    refine ⟨m, Le.refl _, ?_⟩
    refine LdV.s1 h1 (UnS.mk ?_)
    refine LdV.s1 h1 (UnS.mk ?_)
    have hkc := h2.cap
    have hvc := h3.cap
    rw [wi (n := ((L.length : Nat) : Int) - 1) (by omega) (by omega)]
    refine ⟨by omega, by omega, by omega, ?_⟩
    refine LdV.s2 h1 (UnS.mk ?_)
    refine LdV.s2 h1 (UnS.mk ?_)
    rw [wi (n := ((L.length : Nat) : Int) - 1) (by omega) (by omega)]
    refine ⟨by omega, by omega, by omega, ?_⟩
    have hshf : ∀ {a : Option Addr} {c : Nat} {xs : List Value}, Own m T_int 1 a L.length c xs → shf a (0 : Int).toNat 1 c = a := by
      intro a c xs ho
      obtain ⟨_, hx⟩ := ho
      rcases hx with ⟨rfl, _⟩ | ⟨b, _, rfl, _⟩
      · unfold shf; split <;> rfl
      · exact shf0 _ _ _ _
    rw [hshf h2, hshf h3]
    have e1 : (((L.length : Nat) : Int) - 1).toNat - (0 : Int).toNat = L.dropLast.length := by rw [List.length_dropLast]; omega
    have e2 : ∀ c : Nat, c - (0 : Int).toNat = c := fun c => by omega
    rw [e1, e2, e2]
    have hk : Own m T_int 1 ka L.dropLast.length kc (ints (L.dropLast.map (·.1))) := by
      have := h2.take (n := L.length - 1) (by omega)
      have hd := ints_dropLast (L.map (·.1))
      rw [List.length_map] at hd
      rw [hd, ← List.map_dropLast] at this
      rw [List.length_dropLast]; exact this
    have hv : Own m T_int 1 va L.dropLast.length vc (ints (L.dropLast.map (·.2))) := by
      have := h3.take (n := L.length - 1) (by omega)
      have hd := ints_dropLast (L.map (·.2))
      rw [List.length_map] at hd
      rw [hd, ← List.map_dropLast] at this
      rw [List.length_dropLast]; exact this
    refine St1.at12 h1 rfl rfl ?_
    refine Rc.mk2 (F := F2) (es := L.dropLast) h1 h4 hk hv (Chg.refl _ _) (fun b e => .inl (h5 b e)) (fun b e => .inl (h6 b e)) ?_
    intro F' m' hc' hF' hr
    have := r F' m' (hc0.trans hc' (fun b hb hf => (hF2 b hf).elim id (fun e => absurd e hb))) (fun b hb => (hF' b hb).elim (hF2 b) (fun e => .inr (hc0.new e))) (by rw [if_neg hc]; exact hr)
    rw [if_neg hc, hlast] at this
    exact this
theorem rPut_spec (h : Rc m F br most es) (hll : es.length ≤ 9000) (k v : Int) {R : Ending → Mem → Prop}
    (r : ∀ F' m', Chg F m m' → (∀ b, F' b → F b ∨ m b = none) → Rc m' F' br most (putL most k v es) → R (.returned (.tuple #[.int .i64 (goneL most k v es).1, .bool (goneL most k v es).2])) m') :
    HC P eyotref3_Cache_Put.id #[.pointer (some ⟨br, 0, none⟩), .int .i64 k, .int .i64 v] m R := by
  have hdl := dropL_len k es
  refine eyotref3_Cache_Put.ok _ _ _ _ _ ?_
  refine rDrop_spec h (by omega) k ?_
  intro F1 m1 hch1 hF1 h1
  have h1' := h1
  obtain ⟨⟨ka, kc, va, vc, g1, g2, g3, g4, g5, g6⟩, lv⟩ := h1'
  refine ⟨m1, Le.refl _, ?_⟩
  refine LdV.s1 g1 (UnS.mk ?_)
  refine LdV.s2 g1 (UnS.mk ?_)
  -- the end
  have fin : ∀ (xa : Option Addr) (xc : Nat) (ya : Option Addr) (yc : Nat) (m9 : Mem), Le m1 m9 → Own m9 T_int 1 xa (1 + (dropL k es).length) xc ([Value.int .i64 k] ++ ints ((dropL k es).map (·.1))) → Fresh m1 xa → Own m9 T_int 1 ya (1 + (dropL k es).length) yc ([Value.int .i64 v] ++ ints ((dropL k es).map (·.2))) → Fresh m1 ya →
      St1 m9 br (0 + 1) (.slice xa (1 + (dropL k es).length) xc) fun m10 => St1 m10 br (0 + 2) (.slice ya (1 + (dropL k es).length) yc) fun m11 => eyotref3_Cache_Put.k1 (some ⟨br, 0, none⟩) R m11 := by
    intro xa xc ya yc m9 hle hx hfx hy hfy
    refine St1.at12 (hle _ _ g1) rfl rfl ?_
    have e1 : 1 + (dropL k es).length = ((k, v) :: dropL k es).length := by rw [List.length_cons]; omega
    rw [e1] at hx hy ⊢
    refine Rc.mk2 (F := F1) (es := (k, v) :: dropL k es) (hle _ _ g1) g4 hx hy (hle.chg F1) (fun b e => .inr (hfx b e)) (fun b e => .inr (hfy b e)) ?_
    intro F2 m11 hc2 hF2 hr2
    refine rPut_k1 (F := F) (m0 := m) (L := (k, v) :: dropL k es) (hch1.trans hc2 (fun b hb hf => (hF1 b hf).elim id (fun e => absurd e hb))) (by simp) (by simp; omega) hr2 (fun b hb => (hF2 b hb).elim (hF1 b) (fun e => .inr (hch1.new e))) ?_
    intro F' m' a b c
    exact r F' m' a b c
  have app : ∀ {mm : Mem} {b : Nat} {u : Int} {a : Option Addr} {c : Nat} {xs : List Int}, mm b = some (.cells #[.int .i64 u] T_int (0, 0)) → xs.length = (dropL k es).length → CellsAt mm a (ints xs) → m1 b = none → Le m1 mm → ∀ {K : Value → Mem → Prop} {Pn : List PanicEntry → Mem → Prop},
      (∀ a' c' m', Le m1 m' → Chg (fun x => x = b) mm m' → Own m' T_int 1 a' (1 + (dropL k es).length) c' ([Value.int .i64 u] ++ ints xs) → Fresh m1 a' → (blk a' = some b ∨ Fresh mm a') → K (.slice a' (1 + (dropL k es).length) c') m') →
      BiN P .append #[T_sl_int, T_sl_int] T_sl_int #[false, false] #[.slice (some ⟨b, 0, none⟩) 1 1, .slice a (dropL k es).length c] mm K Pn := by
    intro mm b u a c xs hb hxl hc hn hle K Pn kk
    refine append_own eInt (own_lit hb) hc (by rw [ints_len, hxl]; omega) (ints_one _) (by decide) (by omega) (by omega) ?_
    intro a' c' m' ho hg
    have hfb : Fresh m1 (some ⟨b, 0, none⟩) := fun x e => by cases e; exact hn
    have hw := grown_le hle hfb hg
    exact kk a' c' m' hw.1 (hg.1.mono (fun x e => by cases e; rfl)) ho hw.2 (hg.2.imp (fun e => e) (fun e => e))
  have hkl : ((dropL k es).map (·.1)).length = (dropL k es).length := by simp
  have hvl : ((dropL k es).map (·.2)).length = (dropL k es).length := by simp
  -- both one-element rows are there
  have both : ∀ (mm : Mem) (b15 b22 : Nat), Le m1 mm → b15 ≠ b22 → mm b15 = some (.cells #[.int .i64 k] T_int (0, 0)) → mm b22 = some (.cells #[.int .i64 v] T_int (0, 0)) → m1 b15 = none → m1 b22 = none → ∀ r6 : Mem, r6 = m1 →
      BiN P .append #[T_sl_int, T_sl_int] T_sl_int #[false, false] #[.slice (some ⟨b15, 0, none⟩) 1 1, .slice ka (dropL k es).length kc] mm (fun w m7 => UnS w fun x20a x20l x20c => Lk r6 m7 fun r8 =>
        BiN P .append #[T_sl_int, T_sl_int] T_sl_int #[false, false] #[.slice (some ⟨b22, 0, none⟩) 1 1, .slice va (dropL k es).length vc] m7 (fun w m9 => UnS w fun x27a x27l x27c => NilC (some ⟨br, 0, none⟩) (fun x28b x28o => St1 m9 x28b (x28o + 1) (.slice x20a x20l x20c) fun m10 =>
          NilC (some ⟨br, 0, none⟩) (fun x30b x30o => St1 m10 x30b (x30o + 2) (.slice x27a x27l x27c) fun m11 => eyotref3_Cache_Put.k1 (some ⟨br, 0, none⟩) R m11) False) False) (panicR R)) (panicR R) := by
    intro mm b15 b22 hle hne h15 h22 hn15 hn22 r6 hr6
    subst hr6
    refine app h15 hkl (g2.cells.le hle) hn15 hle ?_
    intro xa xc m7 hle7 hc7 hx hfx hx2
    refine ⟨_, Le.refl _, hle7, ?_⟩
    have h22' := hc7.eq b22 _ h22 (fun e => hne e.symm)
    refine app h22' hvl (g3.cells.le hle7) hn22 hle7 ?_
    intro ya yc m9 hle9 hc9 hy hfy hy2
    have hx9 := hx.chg hc9 (fun b e hb => by
      subst hb
      rcases hx2 with e2 | e2
      · rw [e] at e2; cases e2; exact hne rfl
      · have := e2 b e; rw [h22] at this; cases this)
    exact fin xa xc ya yc m9 hle9 hx9 hfx hy hfy
  refine ⟨?_, ?_⟩
  · intro b15 hb15
    have hle3 := Le.set hb15 (.cells #[.int .i64 k] T_int (0, 0))
    refine ⟨m1, Le.refl _, hle3, ?_⟩
    refine ⟨?_, ?_⟩
    · refine app (set_same _ _ _) hkl (g2.cells.le hle3) hb15 hle3 ?_
      intro xa xc m5 hle5 _ hx hfx _
      refine ⟨m1, Le.refl _, hle5, ?_⟩
      intro b22 hb22
      have hle7 := hle5.trans (Le.set hb22 (.cells #[.int .i64 v] T_int (0, 0)))
      refine ⟨m1, Le.refl _, hle7, ?_⟩
      refine app (set_same _ _ _) hvl (g3.cells.le hle7) (hle5.new hb22) hle7 ?_
      intro ya yc m9 hle9 hc9 hy hfy _
      have hx9 := (hx.le (Le.set hb22 _)).chg hc9 (fun b e hb => by subst hb; exact hx.live b e hb22)
      exact fin xa xc ya yc m9 hle9 hx9 hfx hy hfy
    · intro b22 hb22
      have hne : b15 ≠ b22 := fun e => by subst e; rw [set_same] at hb22; cases hb22
      have hle5 := hle3.trans (Le.set hb22 (.cells #[.int .i64 v] T_int (0, 0)))
      refine ⟨m1, Le.refl _, hle5, ?_⟩
      refine both _ b15 b22 hle5 hne ?_ (set_same _ _ _) hb15 (hle3.new hb22) _ rfl
      rw [set_other _ _ hne]; exact set_same _ _ _
  · intro b22 hb22
    have hle3 := Le.set hb22 (.cells #[.int .i64 v] T_int (0, 0))
    refine ⟨m1, Le.refl _, hle3, ?_⟩
    intro b15 hb15
    have hne : b15 ≠ b22 := fun e => by subst e; rw [set_same] at hb15; cases hb15
    have hle5 := hle3.trans (Le.set hb15 (.cells #[.int .i64 k] T_int (0, 0)))
    refine ⟨m1, Le.refl _, hle5, ?_⟩
    refine both _ b15 b22 hle5 hne (set_same _ _ _) ?_ (hle3.new hb15) hb22 _ rfl
    rw [set_other _ _ (Ne.symm hne)]; exact set_same _ _ _

theorem get_put {most k : Int} {v : Int} {es : List (Int × Int)} {i : Nat} (hk : ixF k es 0 = some i) (hx : es[i]? = some (k, v)) (hl : ((es.length : Nat) : Int) ≤ max most 1) : putL most k v es = getL k es := by
  obtain ⟨_, hi, _⟩ := ixF_some hk
  have hd : dropL k es = es.eraseIdx i := by unfold dropL; rw [hk]
  have hlen : ((k, v) :: dropL k es).length = es.length := by rw [hd, List.length_cons, List.length_eraseIdx_of_lt (by omega)]; omega
  unfold putL getL
  rw [hlen, if_pos hl, hk]
  simp only [hx, hd]
theorem rGet_none (h : Rc m F br most es) (hll : es.length ≤ 9000) {k : Int} (hk : ixF k es 0 = none) {R : Ending → Mem → Prop} (r : R (.returned (.tuple #[.int .i64 0, .bool false])) m) : HC P eyotref3_Cache_Get.id #[.pointer (some ⟨br, 0, none⟩), .int .i64 k] m R := by
  refine eyotref3_Cache_Get.ok _ _ _ _ ?_
  refine rat_spec h (by omega) ?_
  rw [hk]
  exact BrDt (by decide) r
theorem rGet_some (h : Rc m F br most es) (hll : es.length ≤ 9000) (hm : ((es.length : Nat) : Int) ≤ max most 1) {k v : Int} {i : Nat} (hk : ixF k es 0 = some i) (hx : es[i]? = some (k, v)) {R : Ending → Mem → Prop}
    (r : ∀ F' m', Chg F m m' → (∀ b, F' b → F b ∨ m b = none) → Rc m' F' br most (getL k es) → R (.returned (.tuple #[.int .i64 v, .bool true])) m') : HC P eyotref3_Cache_Get.id #[.pointer (some ⟨br, 0, none⟩), .int .i64 k] m R := by
  obtain ⟨_, hi, _⟩ := ixF_some hk
  refine eyotref3_Cache_Get.ok _ _ _ _ ?_
  refine rat_spec h (by omega) ?_
  rw [hk, show ixI (some i) = ((i : Nat) : Int) from rfl]
  refine BrDf (p := ((i : Nat) : Int) < 0) (by omega) ?_
  have h' := h
  obtain ⟨⟨ka, kc, va, vc, h1, h2, h3, h4, h5, h6⟩, lv⟩ := h
  refine LdV.s2 h1 (UnS.mk ?_)
  refine IxS.ints h3.cells (by simp) (by omega) (by omega) ?_
  intro y hy
  rw [Int.toNat_natCast, List.getElem?_map, hx] at hy
  cases hy
  refine rPut_spec h' (by omega) k v ?_
  intro F' m' hc hF hr
  rw [get_put hk hx hm] at hr
  exact r F' m' hc hF hr
end
end Go.E
