import Derived.Test.YtjdkdeekniephaaPC5
set_option linter.unusedVariables false
set_option maxRecDepth 20000
namespace Go.E.Pz
open Go.H Go.E
attribute [local irreducible] BiN MkS ConvN LookN MapUpN CallV HC
section
variable {m m' : Mem} {F : Nat → Prop} {bt : Nat} {ps : List Pc} {ad : List UInt8} {B : Nat}

theorem Edit_bad (h : Tx m F bt ps ad) (g : Gd B ps ad) {a b : Int} (hb : a < 0 ∨ b < a ∨ ((byt ps).length : Nat) < b) {sa : Option Addr} {sl sc : Nat} {R : Ending → Mem → Prop} (k : ∀ m', Le m m' → R (.returned (.int .i64 1)) m') :
    HC P piece_Text_Edit.id #[.pointer (some ⟨bt, 0, none⟩), .int .i64 a, .int .i64 b, .slice sa sl sc] m R := by
  refine piece_Text_Edit.ok _ _ _ _ _ _ _ _ ?_
  refine Len_spec h g ?_
  intro m1 hle
  have hk : ∀ x, x = true → piece_Text_Edit.k1 (some ⟨bt, 0, none⟩) a b sa sl sc ((byt ps).length : Nat) x R m1 := by
    rintro x rfl
    unfold piece_Text_Edit.k1
    exact Br.t rfl (k m1 hle)
  refine Br.f rfl ?_
  refine BrD (fun _ => hk _ rfl) (fun h1 => ?_)
  refine BrD (fun _ => hk _ rfl) (fun h2 => ?_)
  exact hk _ (by simp; omega)
theorem Edit_nil {a b : Int} {sa : Option Addr} {sl sc : Nat} {R : Ending → Mem → Prop} (k : R (.returned (.int .i64 1)) m) :
    HC P piece_Text_Edit.id #[.pointer none, .int .i64 a, .int .i64 b, .slice sa sl sc] m R := by
  refine piece_Text_Edit.ok _ _ _ _ _ _ _ _ ?_
  refine Len_nil ?_
  refine Br.t rfl ?_
  unfold piece_Text_Edit.k1
  exact Br.t rfl k
theorem Edit_big (h : Tx m F bt ps ad) (g : Gd B ps ad) {a b : Int} (h0 : 0 ≤ a) (h1 : a ≤ b) (h2 : b ≤ ((byt ps).length : Nat)) {sa : Option Addr} {sl sc : Nat} (hs : 300 < sl) {R : Ending → Mem → Prop} (k : ∀ m', Le m m' → R (.returned (.int .i64 10)) m') :
    HC P piece_Text_Edit.id #[.pointer (some ⟨bt, 0, none⟩), .int .i64 a, .int .i64 b, .slice sa sl sc] m R := by
  refine piece_Text_Edit.ok _ _ _ _ _ _ _ _ ?_
  refine Len_spec h g ?_
  intro m1 hle
  refine Br.f rfl ?_
  refine BrDf (by omega) ?_
  refine BrDf (by omega) ?_
  have e : (decide (b > ((byt ps).length : Nat))) = false := by simp; omega
  rw [e]
  unfold piece_Text_Edit.k1
  refine Br.f rfl ?_
  exact BrDt (by omega) (k m1 hle)

theorem Edit_ok (h : Tx m F bt ps ad) (g : Gd B ps ad) {a b : Int} (h0 : 0 ≤ a) (h1 : a ≤ b) (h2 : b ≤ ((byt ps).length : Nat)) {sa : Option Addr} {sl sc : Nat} {s : List UInt8} (hs : CellsAt m sa (u8s s)) (hsl : s.length = sl) (hs3 : sl ≤ 300) (hB : B + sl ≤ 500000)
    (hsF : s ≠ [] → ∀ b, blk sa = some b → ¬ F b) {R : Ending → Mem → Prop}
    (k : ∀ F' m', Chg F m m' → (∀ b, F' b → F b ∨ m b = none) → Tx m' F' bt (edL ps ad a b s) (ad ++ s) → R (.returned (.int .i64 0)) m') :
    HC P piece_Text_Edit.id #[.pointer (some ⟨bt, 0, none⟩), .int .i64 a, .int .i64 b, .slice sa sl sc] m R := by
  have gl := g.len
  have gb := g.big
  have ga := g.ad
  have hok : ∀ p ∈ ps, p.Ok := fun p hp => (g.ok p hp).1
  have hge := byt_ge hok
  subst hsl
  refine piece_Text_Edit.ok _ _ _ _ _ _ _ _ ?_
  refine Len_spec h g ?_
  intro m1 hle1
  refine Br.f rfl ?_
  refine BrDf (by omega) ?_
  refine BrDf (by omega) ?_
  have e : (decide (b > ((byt ps).length : Nat))) = false := by simp; omega
  rw [e]
  unfold piece_Text_Edit.k1
  refine Br.f rfl ?_
  refine BrDf (by omega) ?_
  obtain ⟨⟨la, ll, lc, aa, al, ac, g1, g2, g3, g4, g5, g6, g7, g8⟩, lv⟩ := Tx.le hle1 h
  refine LdV.of (o := 0) g1 rfl ?_
  refine cut_loop g2.cells g3 g.sm (by omega) (by omega) (by omega) h0 (by omega) ?_
  intro xa xl xc m2 hle2 ho2 hf2
  have hcl : ∀ lo hi, (cutL lo hi 0 ps).length ≤ ps.length := by
    intro lo hi
    have : ∀ (l : List Pc) (k : Int), (cutL lo hi k l).length ≤ l.length := by
      intro l
      induction l with
      | nil => intro k; simp [cutL]
      | cons p r ih =>
        intro k
        have := ih (k + (p.t - p.f))
        rw [cutL_cons]; split <;> simp <;> omega
    exact this ps 0
  -- what comes behind
  have kk2 : ∀ (ya : Option Addr) (yl yc : Nat) (m3 : Mem), Le m1 m3 → Own m3 T_api_Piece 3 ya yl yc (pcs (cutL 0 a 0 ps ++ newP ad s)) → Fresh m1 ya →
      piece_Text_Edit.k2 (some ⟨bt, 0, none⟩) b sa s.length sc ((byt ps).length : Nat) ya yl yc R m3 := by
    intro ya yl yc m3 hle3 ho3 hf3
    have hyl : yl = (cutL 0 a 0 ps ++ newP ad s).length := by
      have := ho3.1; rw [pcs_len] at this; omega
    have hnl : (newP ad s).length ≤ 1 := by unfold newP; split <;> simp
    have hyl2 : yl ≤ ps.length + 1 := by rw [hyl, List.length_append]; have := hcl 0 a; omega
    unfold piece_Text_Edit.k2
    refine LdV.of (o := 0) (hle3 _ _ g1) rfl ?_
    refine cut_loop (Own.le hle3 g2).cells g3 g.sm (by omega) (by omega) (by omega) (by omega) (by omega) ?_
    intro za zl zc m4 hle4 ho4 hf4
    have hzl : (cutL b ((byt ps).length : Nat) 0 ps).length = zl := by
      have := ho4.1; rw [pcs_len] at this; omega
    have hzl2 := hcl b ((byt ps).length : Nat)
    refine append_own ePc (Own.le hle4 ho3) ho4.cells (by rw [pcs_len, hzl]) (pcs_one _) (by decide) (by omega) (by omega) ?_
    intro wa wc m5 ho5 hg5
    have hw5 := grown_le (hle3.trans hle4) (a := ya) hf3 hg5
    rw [← pcs_append] at ho5
    refine join_spec ho5.cells (by have := ho5.1; rw [pcs_len] at this; omega) (by omega) ?_
    intro ja jl jc m6 hle6 ho6 hf6 hjl
    have hle06 : Le m1 m6 := hw5.1.trans hle6
    refine St1.to #[.slice ja jl jc, .slice aa al ac] (o := 0) (hle06 _ _ g1) (by simp) rfl rfl ?_
    have hc7 := Chg.set m6 bt (.cells #[.slice ja jl jc, .slice aa al ac] T_piece_Text (0, 0))
    have hb7 := set_same m6 bt (.cells #[.slice ja jl jc, .slice aa al ac] T_piece_Text (0, 0))
    have hja := own_ne ho6 (hle06 _ _ g1) (by decide)
    have haa := own_ne (Own.le hle06 g4) (hle06 _ _ g1) (by decide)
    have ho7 := ho6.chg hc7 (fun b e hb => hja (hb ▸ e))
    have g47 := (Own.le hle06 g4).chg hc7 (fun b e hb => haa (hb ▸ e))
    generalize m6.set bt (.cells #[.slice ja jl jc, .slice aa al ac] T_piece_Text (0, 0)) = m7 at *
    refine LdV.of (o := 0 + 1) hb7 rfl ?_
    have hs7 : CellsAt m7 sa (u8s s) := by
      cases s with
      | nil => exact CellsAt.empty _ _
      | cons x s => exact CellsAt.chg hc7 (CellsAt.le (hle1.trans hle06) hs) (fun b e hb => hsF (by simp) b e (hb ▸ g6))
    subst g5
    refine append_own eU8 g47 hs7 (by simp [u8s]) (u8s_one s) (by decide) (by omega) (by omega) ?_
    intro va vc m8 ho8 hg8
    have hb8 := hg8.1.eq bt _ hb7 (fun e => haa e)
    refine St1.to #[.slice ja jl jc, .slice va (ad.length + s.length) vc] (o := 1) hb8 (by simp) rfl rfl ?_
    have hc9 := Chg.set m8 bt (.cells #[.slice ja jl jc, .slice va (ad.length + s.length) vc] T_piece_Text (0, 0))
    have hja8 : ∀ b, blk ja = some b → ¬ blk aa = some b := fun b e1 e2 => by
      have h1 := hf6 b e1
      have h2 := hw5.1.live (g4.live b e2)
      exact h2 h1
    have ho8' := ho7.chg hg8.1 hja8
    have hva : blk va ≠ some bt := own_ne ho8 hb8 (by decide)
    have hja' : blk ja ≠ some bt := own_ne ho8' hb8 (by decide)
    have chM1 : Chg F m1 (m8.set bt (.cells #[.slice ja jl jc, .slice va (ad.length + s.length) vc] T_piece_Text (0, 0))) :=
      (((hle06.chg F).trans hc7 (fun b _ e => e ▸ g6)).trans hg8.1 (fun b _ e => g8 b e)).trans hc9 (fun b _ e => e ▸ g6)
    refine k (fun b => b = bt ∨ blk ja = some b ∨ blk va = some b) _ ((hle1.chg F).trans chM1 (fun _ _ h => h)) ?_ ⟨⟨ja, jl, jc, va, ad.length + s.length, vc, set_same _ _ _, ho8'.chg hc9 (fun b e hb => hja' (hb ▸ e)), hjl, ?_, by simp, .inl rfl, fun b e => .inr (.inl e), fun b e => .inr (.inr e)⟩, ?_⟩
    · rintro b (rfl | e | e)
      · exact .inl g6
      · exact .inr ((hle1.trans hw5.1).new (hf6 b e))
      · rcases hg8.2 with h | h
        · exact .inl (g8 b (h ▸ e))
        · exact .inr ((hle1.trans hle06).new (hc7.new (h b e)))
    · have := ho8.chg hc9 (fun b e hb => hva (hb ▸ e))
      simpa [u8s] using this
    · rintro b (rfl | e | e)
      · rw [set_same]; simp
      · exact hc9.live b (ho8'.live b e)
      · exact hc9.live b (ho8.live b e)
  refine BrD (fun hpos => ?_) (fun hneg => ?_)
  · have g12 := hle2 _ _ g1
    refine ⟨m1, hle2, ?_⟩
    refine LdV.of (o := 0 + 1) g1 rfl ?_
    refine LdV.of (o := 0 + 1) g1 rfl ?_
    subst g5
    intro b52 hb52
    have hw : IntKind.i64.wrap (((ad.length : Nat) : Int) + ((s.length : Nat) : Int)) = ((ad.length + s.length : Nat) : Int) := by rw [wi (by omega) (by omega)]; omega
    rw [hw]
    have hxl : xl = (cutL 0 a 0 ps).length := by
      have := ho2.1; rw [pcs_len] at this; omega
    have hnew : newP ad s = [⟨true, (ad.length : Nat), ((ad.length + s.length : Nat) : Int)⟩] := by unfold newP; rw [if_pos (by omega)]
    refine append_own ePc (Own.le (Le.set hb52 _) ho2) (news := [.bool true, .int .i64 ((ad.length : Nat) : Int), .int .i64 ((ad.length + s.length : Nat) : Int)]) (cells_at (set_same _ _ _) rfl) rfl ?_ (by decide) ?_ ?_ ?_
    · intro v hv; simp at hv; rcases hv with rfl | rfl | rfl <;> rfl
    · have := hcl 0 a; omega
    · have := hcl 0 a; omega
    intro ya yc m3 ho3 hg3
    have hw3 := grown_le (hle2.trans (Le.set hb52 _)) (a := xa) hf2 hg3
    refine kk2 ya (xl + 1) yc m3 hw3.1 ?_ hw3.2
    rw [hnew, pcs_append]
    exact ho3
  · have hnew : newP ad s = [] := by unfold newP; rw [if_neg (by omega)]
    refine kk2 xa xl xc m2 hle2 ?_ hf2
    rw [hnew, List.append_nil]; exact ho2
end
end Go.E.Pz
