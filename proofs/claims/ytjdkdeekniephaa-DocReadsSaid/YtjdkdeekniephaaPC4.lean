import Derived.Test.YtjdkdeekniephaaPC3
set_option linter.unusedVariables false
set_option maxRecDepth 20000
namespace Go.E.Pz
open Go.H Go.E
attribute [local irreducible] BiN MkS ConvN LookN MapUpN CallV HC

/-- A *Text: its block, its pieces, what was added. -/
structure Tx (m : Mem) (F : Nat → Prop) (bt : Nat) (ps : List Pc) (ad : List UInt8) : Prop where
  ex : ∃ la ll lc aa al ac, m bt = some (.cells #[.slice la ll lc, .slice aa al ac] T_piece_Text (0, 0)) ∧ Own m T_api_Piece 3 la ll lc (pcs ps) ∧ ps.length = ll ∧ Own m T_uint8 1 aa al ac (u8s ad) ∧ ad.length = al ∧
    F bt ∧ (∀ b, blk la = some b → F b) ∧ ∀ b, blk aa = some b → F b
  lv : ∀ b, F b → m b ≠ none
/-- Bounds, and how pieces lie. -/
structure Gd (B : Nat) (ps : List Pc) (ad : List UInt8) : Prop where
  ok : ∀ p ∈ ps, p.Ok ∧ p.t ≤ B
  len : (byt ps).length ≤ B
  ad : ad.length ≤ B
  can : Can ps
  big : B ≤ 500000
theorem Gd.sm {B : Nat} {ps : List Pc} {ad : List UInt8} (g : Gd B ps ad) : ∀ p ∈ ps, p.Sm := fun p hp => by
  have := g.ok p hp
  have := g.big
  unfold Pc.Ok at *
  unfold Pc.Sm
  omega
section
variable {m m' : Mem} {F : Nat → Prop} {bt : Nat} {ps : List Pc} {ad : List UInt8}
theorem Tx.le (h : Le m m') (k : Tx m F bt ps ad) : Tx m' F bt ps ad := by
  obtain ⟨⟨la, ll, lc, aa, al, ac, h1, h2, h3, h4, h5, h6⟩, lv⟩ := k
  exact ⟨⟨la, ll, lc, aa, al, ac, h _ _ h1, Own.le h h2, h3, Own.le h h4, h5, h6⟩, fun b hb => h.live (lv b hb)⟩
theorem Tx.chg {S : Nat → Prop} (h : Chg S m m') (k : Tx m F bt ps ad) (hn : ∀ b, F b → ¬ S b) : Tx m' F bt ps ad := by
  obtain ⟨⟨la, ll, lc, aa, al, ac, h1, h2, h3, h4, h5, h6, h7, h8⟩, lv⟩ := k
  exact ⟨⟨la, ll, lc, aa, al, ac, h.eq _ _ h1 (hn _ h6), h2.chg h (fun b e => hn _ (h7 b e)), h3, h4.chg h (fun b e => hn _ (h8 b e)), h5, h6, h7, h8⟩, fun b hb => h.live b (lv b hb)⟩
def newL (n : Int) : List Pc := if 0 < n then [⟨false, 0, n⟩] else []
theorem New_spec {n : Int} {R : Ending → Mem → Prop} (h : ∀ bt F m', Le m m' → (∀ b, F b → m b = none) → Tx m' F bt (newL n) [] → R (.returned (.pointer (some ⟨bt, 0, none⟩))) m') : HC P piece_New.id #[.int .i64 n] m R := by
  refine piece_New.ok _ _ _ ?_
  intro b5 hb5
  have hle := Le.set hb5 (.cells #[.slice none 0 0, .slice none 0 0] T_piece_Text (0, 0))
  refine BrD (fun hn => ?_) (fun hn => ?_)
  · intro b11 hb11
    have hne : b5 ≠ b11 := by rintro rfl; rw [set_same] at hb11; cases hb11
    refine St1.to #[.slice (some ⟨b11, 0, none⟩) 1 1, .slice none 0 0] (o := 0) (by rw [set_other _ _ hne]; exact set_same _ _ _) (by simp) rfl rfl ?_
    have hb11' := hle.new hb11
    refine h b5 (fun b => b = b5 ∨ b = b11) _ ?_ ?_ ⟨⟨some ⟨b11, 0, none⟩, 1, 1, none, 0, 0, set_same _ _ _, ?_, ?_, Own.nil _ _ _, rfl, .inl rfl, ?_, ?_⟩, ?_⟩
    · intro k o hk
      rw [set_other _ _ (by rintro rfl; rw [hb5] at hk; cases hk), set_other _ _ (by rintro rfl; rw [hb11'] at hk; cases hk), set_other _ _ (by rintro rfl; rw [hb5] at hk; cases hk)]
      exact hk
    · rintro b (rfl | rfl)
      · exact hb5
      · exact hb11'
    · unfold newL; rw [if_pos (by omega)]
      refine ⟨by simp [pcs, Pc.vals], .inr ⟨b11, #[.bool false, .int .i64 0, .int .i64 n], rfl, ?_, Nat.le_refl _, rfl, rfl, by omega⟩⟩
      rw [set_other _ _ (Ne.symm hne), set_same]
    · unfold newL; rw [if_pos (by omega)]; rfl
    · intro b e; cases e; exact .inr rfl
    · intro b e; cases e
    · rintro b (rfl | rfl)
      · rw [set_same]; simp
      · rw [set_other _ _ (Ne.symm hne), set_same]; simp
  · refine h b5 (fun b => b = b5) _ hle (by rintro b rfl; exact hb5) ⟨⟨none, 0, 0, none, 0, 0, set_same _ _ _, ?_, ?_, Own.nil _ _ _, rfl, rfl, ?_, ?_⟩, ?_⟩
    · unfold newL; rw [if_neg (by omega)]; exact Own.nil _ _ _
    · unfold newL; rw [if_neg (by omega)]; rfl
    · intro b e; cases e
    · intro b e; cases e
    · rintro b rfl; rw [set_same]; simp

theorem Len_spec (h : Tx m F bt ps ad) {B : Nat} (g : Gd B ps ad) {R : Ending → Mem → Prop} (k : ∀ m', Le m m' → R (.returned (.int .i64 ((byt ps).length : Nat))) m') : HC P piece_Text_Len.id #[.pointer (some ⟨bt, 0, none⟩)] m R := by
  obtain ⟨⟨la, ll, lc, aa, al, ac, h1, h2, h3, h4, h5, h6, h7, h8⟩, lv⟩ := h
  refine piece_Text_Len.ok _ _ _ ?_
  refine Br.f rfl ?_
  refine LdV.of (o := 0) h1 rfl ?_
  exact Len_loop h2.cells h3 g.sm (by have := g.len; have := g.big; omega) k
theorem Len_nil {R : Ending → Mem → Prop} (k : R (.returned (.int .i64 0)) m) : HC P piece_Text_Len.id #[.pointer none] m R := by
  refine piece_Text_Len.ok _ _ _ ?_
  exact Br.t rfl k
theorem Pieces_spec (h : Tx m F bt ps ad) {B : Nat} (g : Gd B ps ad) {R : Ending → Mem → Prop} (k : ∀ a' c' m', Le m m' → Own m' T_api_Piece 3 a' ps.length c' (pcs ps) → Fresh m a' → R (.returned (.slice a' ps.length c')) m') : HC P piece_Text_Pieces.id #[.pointer (some ⟨bt, 0, none⟩)] m R := by
  have hge := byt_ge (fun p hp => (g.sm p hp).ok)
  have gl := g.len
  have gb := g.big
  obtain ⟨⟨la, ll, lc, aa, al, ac, h1, h2, h3, h4, h5, h6, h7, h8⟩, lv⟩ := h
  refine piece_Text_Pieces.ok _ _ _ ?_
  refine Br.f rfl ?_
  refine LdV.of (o := 0) h1 rfl ?_
  subst h3
  exact clone_pc h2.cells rfl (by omega) k
theorem Added_spec (h : Tx m F bt ps ad) {B : Nat} (g : Gd B ps ad) {R : Ending → Mem → Prop} (k : ∀ a' c' m', Le m m' → Own m' T_uint8 1 a' ad.length c' (u8s ad) → Fresh m a' → R (.returned (.slice a' ad.length c')) m') : HC P piece_Text_Added.id #[.pointer (some ⟨bt, 0, none⟩)] m R := by
  have gl := g.ad
  have gb := g.big
  obtain ⟨⟨la, ll, lc, aa, al, ac, h1, h2, h3, h4, h5, h6, h7, h8⟩, lv⟩ := h
  refine piece_Text_Added.ok _ _ _ ?_
  refine Br.f rfl ?_
  refine LdV.of (o := 0 + 1) h1 rfl ?_
  subst h5
  exact clone_u8 h4.cells rfl (by omega) k
end
end Go.E.Pz
