import Derived.Test.YtjdkdeekniephaaRT1
set_option linter.unusedVariables false
set_option maxRecDepth 20000
namespace Go.E.Pz
open Go.H Go.E
attribute [local irreducible] BiN MkS ConvN LookN MapUpN CallV HC
section
variable {m m' : Mem} {F : Nat → Prop} {br : Nat} {L : List (Bool × Int)} {ad : List UInt8}

def addR (ad : List UInt8) (n : Nat) : List (Bool × Int) := (List.range n).map fun (k : Nat) => (true, ((ad.length + k : Nat) : Int))
theorem REdit_bad (h : Rt m F br L ad) {a b : Int} (hb : a < 0 ∨ b < a ∨ (L.length : Nat) < b) {sa : Option Addr} {sl sc : Nat} {R : Ending → Mem → Prop} (k : R (.returned (.int .i64 1)) m) :
    HC P eyotref3_Text_Edit.id #[.pointer (some ⟨br, 0, none⟩), .int .i64 a, .int .i64 b, .slice sa sl sc] m R := by
  obtain ⟨⟨la, ll, lc, aa, al, ac, g1, g2, g3, g4, g5, g6, g7, g8⟩, lv⟩ := h
  refine eyotref3_Text_Edit.ok _ _ _ _ _ _ _ _ ?_
  refine BrD (fun _ => k) (fun h1 => ?_)
  refine BrD (fun _ => k) (fun h2 => ?_)
  refine LdV.of (o := 0) g1 rfl ?_
  exact BrDt (p := b > ((ll : Nat) : Int)) (by omega) k
theorem REdit_big (h : Rt m F br L ad) {a b : Int} (h0 : 0 ≤ a) (h1 : a ≤ b) (h2 : b ≤ (L.length : Nat)) {sa : Option Addr} {sl sc : Nat} (hs : 300 < sl) {R : Ending → Mem → Prop} (k : R (.returned (.int .i64 10)) m) :
    HC P eyotref3_Text_Edit.id #[.pointer (some ⟨br, 0, none⟩), .int .i64 a, .int .i64 b, .slice sa sl sc] m R := by
  obtain ⟨⟨la, ll, lc, aa, al, ac, g1, g2, g3, g4, g5, g6, g7, g8⟩, lv⟩ := h
  refine eyotref3_Text_Edit.ok _ _ _ _ _ _ _ _ ?_
  refine BrDf (by omega) ?_
  refine BrDf (by omega) ?_
  refine LdV.of (o := 0) g1 rfl ?_
  refine BrDf (p := b > ((ll : Nat) : Int)) (by omega) ?_
  exact BrDt (by omega) k

/-- Both rows are told anew. -/
theorem Rt.store {m0 m8 : Mem} (h : Rt m0 F br L ad) (hle : Le m0 m8) {L' : List (Bool × Int)} {ad' : List UInt8} {wa va : Option Addr} {wl wc vl vc : Nat} (how : Own m8 T_eyotref3_Byte 2 wa wl wc (rbs L')) (hfw : Fresh m0 wa)
    (hov : Own m8 T_uint8 1 va vl vc (u8s ad')) (hfv : Fresh m0 va) (hwl : L'.length = wl) (hvl : ad'.length = vl) {K : Mem → Prop}
    (k : ∀ F' m', Chg F m0 m' → (∀ b, F' b → F b ∨ m0 b = none) → Rt m' F' br L' ad' → K m') : St1 m8 br 0 (.slice wa wl wc) fun m9 => St1 m9 br (0 + 1) (.slice va vl vc) K := by
  obtain ⟨⟨la, ll, lc, aa, al, ac, g1, g2, g3, g4, g5, g6, g7, g8⟩, lv⟩ := h
  refine St1.two (hle _ _ g1) rfl rfl ?_
  have hc := Chg.set m8 br (.cells #[.slice wa wl wc, .slice va vl vc] T_eyotref3_Text (0, 0))
  have hwn : blk wa ≠ some br := own_ne how (hle _ _ g1) (by decide)
  have hvn : blk va ≠ some br := own_ne hov (hle _ _ g1) (by decide)
  have how' := how.chg hc (fun b e hb => hwn (hb ▸ e))
  have hov' := hov.chg hc (fun b e hb => hvn (hb ▸ e))
  refine k (fun b => b = br ∨ blk wa = some b ∨ blk va = some b) _ ((hle.chg F).trans hc (fun b _ e => e ▸ g6)) ?_ ⟨⟨wa, wl, wc, va, vl, vc, set_same _ _ _, how', hwl, hov', hvl, .inl rfl, fun b e => .inr (.inl e), fun b e => .inr (.inr e)⟩, ?_⟩
  · rintro b (rfl | e | e)
    · exact .inl g6
    · exact .inr (hfw b e)
    · exact .inr (hfv b e)
  · rintro b (rfl | e | e)
    · rw [set_same]; simp
    · exact how'.live b e
    · exact hov'.live b e

/-- The last part. -/
theorem REdit_tail {m0 m1 : Mem} (h : Rt m0 F br L ad) (hm1 : Le m0 m1) {b : Int} (h2 : b ≤ (L.length : Nat)) (hb0 : 0 ≤ b) (hL : L.length ≤ 1000000) (hA : ad.length ≤ 1000000) {sa : Option Addr} {sc : Nat} {s : List UInt8} (hs : CellsAt m0 sa (u8s s)) (hs3 : s.length ≤ 300)
    {ya : Option Addr} {yl yc : Nat} {M : List (Bool × Int)} (ho : Own m1 T_eyotref3_Byte 2 ya yl yc (rbs M)) (hyl : M.length = yl) (hyb : yl ≤ 2000000) (hf : Fresh m0 ya) {R : Ending → Mem → Prop}
    (k : ∀ F' m', Chg F m0 m' → (∀ b, F' b → F b ∨ m0 b = none) → Rt m' F' br (M ++ L.drop b.toNat) (ad ++ s) → R (.returned (.int .i64 0)) m') :
    eyotref3_Text_Edit.k2 (some ⟨br, 0, none⟩) b sa s.length sc ya yl yc R m1 := by
  have h' := h
  obtain ⟨⟨la, ll, lc, aa, al, ac, g1, g2, g3, g4, g5, g6, g7, g8⟩, lv⟩ := h
  subst g3
  subst g5
  have hcap := g2.cap
  have hpart : CellsAt m0 (shf la b.toNat 2 lc) (rbs (L.drop b.toNat)) := by
    have := CellsAt.sub (sz := 2) (lo := b.toNat) (hi := L.length) (c := lc) g2.cells (by rw [rbs_len]; omega) hcap
    rwa [List.take_of_length_le (by rw [rbs_len]; omega), rbs_drop] at this
  have hnl : (rbs (L.drop b.toNat)).length = (((L.length : Nat) : Int).toNat - b.toNat) * 2 := by rw [rbs_len, List.length_drop, Int.toNat_natCast]
  unfold eyotref3_Text_Edit.k2
  refine ⟨m0, hm1, ?_⟩
  refine LdV.of (o := 0) g1 rfl ?_
  refine ⟨hb0, h2, by omega, ?_⟩
  refine LdV.of (o := 0 + 1) g1 rfl ?_
  have fin : ∀ (wa : Option Addr) (wc : Nat) (m4 : Mem) (b65 : Nat), Le m0 m4 → Own m4 T_eyotref3_Byte 2 wa (yl + (((L.length : Nat) : Int).toNat - b.toNat)) wc (rbs M ++ rbs (L.drop b.toNat)) → Fresh m0 wa →
      m4 b65 = some (.cells #[] T_uint8 (0, 0)) → m0 b65 = none →
      BiN P .append #[T_sl_uint8, T_sl_uint8] T_sl_uint8 #[false, false] #[.slice (some ⟨b65, 0, none⟩) 0 0, .slice aa ad.length ac] m4 (fun w m6 =>
        UnS w fun x70a x70l x70c =>
        BiN P .append #[T_sl_uint8, T_sl_uint8] T_sl_uint8 #[false, false] #[.slice x70a x70l x70c, .slice sa s.length sc] m6 (fun w m7 =>
          UnS w fun x72a x72l x72c => St1 m7 br 0 (.slice wa (yl + (((L.length : Nat) : Int).toNat - b.toNat)) wc) fun m8 => St1 m8 br (0 + 1) (.slice x72a x72l x72c) fun m9 => R (.returned (.int .i64 0)) m9) (panicR R)) (panicR R) := by
    intro wa wc m4 b65 hle4 how hfw hb65 hn65
    have ho65 : Own m4 T_uint8 1 (some ⟨b65, 0, none⟩) 0 0 [] := ⟨rfl, .inr ⟨b65, #[], rfl, hb65, Nat.le_refl _, rfl, rfl, by omega⟩⟩
    refine append_own eU8 ho65 (CellsAt.le hle4 g4.cells) (by simp [u8s]) (u8s_one ad) (by decide) (by omega) (by omega) ?_
    intro va vc m6 ho6 hg6
    have hf65 : Fresh m0 (some ⟨b65, 0, none⟩) := by intro k e; cases e; exact hn65
    have hw6 := grown_le hle4 hf65 hg6
    have hwn : blk wa ≠ some b65 := own_ne how hb65 (by decide)
    have how6 := how.chg hg6.1 (fun b e h => by cases h; exact hwn e)
    rw [Nat.zero_add, List.nil_append] at ho6
    rw [Nat.zero_add]
    refine append_own eU8 ho6 (CellsAt.le hw6.1 hs) (by simp [u8s]) (u8s_one s) (by decide) (by omega) (by omega) ?_
    intro ua uc m7 ho7 hg7
    have hw7 := grown_le hw6.1 hw6.2 hg7
    have how7 := how6.chg hg7.1 (fun b e h => by
      rcases hg6.2 with h6 | h6
      · exact hwn (by rw [← show some b = some b65 from by rw [← h, h6]; rfl]; exact e)
      · exact how.live b e (h6 b h))
    rw [← rbs_append] at how7
    have ho7' : Own m7 T_uint8 1 ua (ad.length + s.length) uc (u8s (ad ++ s)) := by simpa [u8s] using ho7
    exact h'.store hw7.1 how7 hfw ho7' hw7.2 (by rw [List.length_append, List.length_drop, hyl, Int.toNat_natCast]) (by simp) k
  refine ⟨?_, ?_⟩
  · refine append_own eRb ho (CellsAt.le hm1 hpart) hnl (rbs_one _) (by decide) (by omega) (by omega) ?_
    intro wa wc m2 ho2 hg2
    have hw2 := grown_le hm1 hf hg2
    refine ⟨m0, Le.refl _, hw2.1, ?_⟩
    intro b65 hb65
    refine ⟨m0, Le.refl _, hw2.1.trans (Le.set hb65 _), ?_⟩
    exact fin wa wc _ b65 (hw2.1.trans (Le.set hb65 _)) (Own.le (Le.set hb65 _) ho2) hw2.2 (set_same _ _ _) (hw2.1.new hb65)
  · intro b65 hb65
    have hle2 := hm1.trans (Le.set hb65 (.cells #[] T_uint8 (0, 0)))
    refine ⟨m0, Le.refl _, hle2, ?_⟩
    refine append_own eRb (Own.le (Le.set hb65 _) ho) (CellsAt.le hle2 hpart) hnl (rbs_one _) (by decide) (by omega) (by omega) ?_
    intro wa wc m4 ho4 hg4
    have hw4 := grown_le hle2 hf hg4
    refine ⟨m0, Le.refl _, hw4.1, ?_⟩
    have hyn : blk ya ≠ some b65 := fun e => ho.live b65 e hb65
    exact fin wa wc _ b65 hw4.1 ho4 hw4.2 (hg4.1.eq b65 _ (set_same _ _ _) (fun e => hyn e)) (hm1.new hb65)

theorem REdit_ok (h : Rt m F br L ad) {a b : Int} (h0 : 0 ≤ a) (h1 : a ≤ b) (h2 : b ≤ (L.length : Nat)) (hL : L.length ≤ 1000000) (hA : ad.length ≤ 1000000) {sa : Option Addr} {sc : Nat} {s : List UInt8} (hs : CellsAt m sa (u8s s)) (hs3 : s.length ≤ 300) {R : Ending → Mem → Prop}
    (k : ∀ F' m', Chg F m m' → (∀ b, F' b → F b ∨ m b = none) → Rt m' F' br (L.take a.toNat ++ addR ad s.length ++ L.drop b.toNat) (ad ++ s) → R (.returned (.int .i64 0)) m') :
    HC P eyotref3_Text_Edit.id #[.pointer (some ⟨br, 0, none⟩), .int .i64 a, .int .i64 b, .slice sa s.length sc] m R := by
  have h' := h
  obtain ⟨⟨la, ll, lc, aa, al, ac, g1, g2, g3, g4, g5, g6, g7, g8⟩, lv⟩ := h
  subst g3
  subst g5
  have hcap := g2.cap
  refine eyotref3_Text_Edit.ok _ _ _ _ _ _ _ _ ?_
  refine BrDf (by omega) ?_
  refine BrDf (by omega) ?_
  refine LdV.of (o := 0) g1 rfl ?_
  refine BrDf (p := b > ((L.length : Nat) : Int)) (by omega) ?_
  refine BrDf (by omega) ?_
  intro b30 hb30
  refine LdV.of (o := 0) (Le.set hb30 _ _ _ g1) rfl ?_
  refine ⟨by omega, h0, by omega, ?_⟩
  have hpart : CellsAt m (shf la (0 : Int).toNat 2 lc) (rbs (L.take a.toNat)) := by
    have := CellsAt.sub (sz := 2) (lo := 0) (hi := a.toNat) (c := lc) g2.cells (by rw [rbs_len]; omega) (by omega)
    rwa [Nat.zero_mul, List.drop_zero, rbs_take] at this
  refine clone_gen eRb (by decide) hpart (by rw [rbs_len, List.length_take]; simp; omega) (rbs_one _) (by omega) (by omega) ?_ b30 hb30
  intro ya yc m2 hle2 ho2 hf2
  have hat : (L.take a.toNat).length = a.toNat := by rw [List.length_take]; omega
  simp only [Int.toNat_zero, Nat.sub_zero] at ho2 ⊢
  refine ⟨fun N x0 x2 x3a x3l x3c ya yl yc i mm => x0 = some ⟨br, 0, none⟩ ∧ x2 = b ∧ x3a = sa ∧ x3l = s.length ∧ x3c = sc ∧ Le m mm ∧ Fresh m ya ∧ ∃ j : Nat, i = j ∧ j ≤ s.length ∧ N = s.length - j ∧ yl = a.toNat + j ∧ Own mm T_eyotref3_Byte 2 ya yl yc (rbs (L.take a.toNat ++ addR ad j)),
    s.length, ⟨rfl, rfl, rfl, rfl, rfl, hle2, hf2, 0, rfl, by omega, by omega, rfl, by simpa [addR] using ho2⟩, ?_⟩
  rintro N x0 x2 x3a x3l x3c ya yl yc i mm ⟨rfl, rfl, rfl, rfl, rfl, hle, hf, j, rfl, hj, rfl, rfl, ho⟩
  have hal : ∀ n, (addR ad n).length = n := fun n => by simp [addR]
  refine BrD (fun hlt => ?_) (fun hge => ?_)
  · refine LdV.s1 (hle _ _ g1) (UnS.mk ?_)
    rw [wi (n := ((ad.length : Nat) : Int) + ((j : Nat) : Int)) (by omega) (by omega)]
    refine push_row eRb (by decide) ho (news := #[.bool true, .int .i64 (((ad.length : Nat) : Int) + (j : Int))]) rfl (by intro v hv; simp at hv; rcases hv with rfl | rfl <;> rfl) (by omega) (by decide) ?_
    intro a' c' m7 hch ho7 hb7
    refine ⟨s.length - (j + 1), by omega, rfl, rfl, rfl, rfl, rfl, hch.to_le hle hf, ?_, j + 1, ?_, by omega, rfl, by omega, ?_⟩
    · rcases hb7 with e | e
      · intro b hb; exact hf b (e ▸ hb)
      · exact Fresh.le hle e
    · rw [wi (by omega) (by omega)]; omega
    · unfold addR at ho7 ⊢
      rw [List.range_succ, List.map_append, ← List.append_assoc, rbs_append _ (List.map _ [j])]
      exact ho7
  · have e : j = s.length := by omega
    subst e
    exact REdit_tail h' hle h2 (by omega) hL hA hs hs3 ho (by rw [List.length_append, hat, hal]) (by omega) hf k
end
end Go.E.Pz
