import Derived.Test.YtgjeockdppkflaaPC6
set_option linter.unusedVariables false
namespace Go.E
open Go.H

/-- In which piece a byte stands, and how far in. -/
def findL : List Pc → Int → Int → Int × Int
  | [], at_, k => (k, at_)
  | p :: r, at_, k => if at_ ≥ p.t - p.f then findL r (at_ - (p.t - p.f)) (k + 1) else (k, at_)
section
variable {m m' : Mem} {F : Nat → Prop} {bt : Nat} {ps : List Pc} {ad : List UInt8} {B : Nat}

theorem findL_drop {k : Nat} {p : Pc} (h : ps[k]? = some p) (at_ : Int) : findL (ps.drop k) at_ k = if at_ ≥ p.t - p.f then findL (ps.drop (k + 1)) (at_ - (p.t - p.f)) ((k + 1 : Nat) : Int) else ((k : Int), at_) := by
  have e : ps.drop k = p :: ps.drop (k + 1) := by
    have hlt : k < ps.length := by
      rcases Nat.lt_or_ge k ps.length with h1 | h1
      · exact h1
      · rw [List.getElem?_eq_none h1] at h; cases h
    rw [List.drop_eq_getElem_cons hlt]
    rw [List.getElem?_eq_getElem hlt] at h
    cases h; rfl
  rw [e]
  show (if at_ ≥ p.t - p.f then findL (ps.drop (k + 1)) (at_ - (p.t - p.f)) ((k : Int) + 1) else ((k : Int), at_)) = _
  rw [show ((k : Int) + 1) = ((k + 1 : Nat) : Int) by omega]
theorem Find_out {at_ : Int} (h : Tx m F bt ps ad) (g : Gd B ps ad) (ho : at_ < 0 ∨ ((byt ps).length : Nat) ≤ at_) {R : Ending → Mem → Prop} (k : ∀ m', Le m m' → R (.returned (.tuple #[.int .i64 0, .int .i64 0, .int .i64 1])) m') :
    HC P piece_Text_Find.id #[.pointer (some ⟨bt, 0, none⟩), .int .i64 at_] m R := by
  refine piece_Text_Find.ok _ _ _ _ ?_
  refine BrD (fun _ => k m (Le.refl m)) (fun h0 => ?_)
  refine Len_spec h g ?_
  intro m1 hle
  exact BrDt (p := at_ ≥ ((byt ps).length : Nat)) (by omega) (k m1 hle)
theorem Find_nil {at_ : Int} {R : Ending → Mem → Prop} (k : R (.returned (.tuple #[.int .i64 0, .int .i64 0, .int .i64 1])) m) : HC P piece_Text_Find.id #[.pointer none, .int .i64 at_] m R := by
  refine piece_Text_Find.ok _ _ _ _ ?_
  refine BrD (fun _ => k) (fun h0 => ?_)
  refine Len_nil ?_
  exact BrDt (p := at_ ≥ 0) (by omega) k
theorem Find_in {at_ : Int} (h : Tx m F bt ps ad) (g : Gd B ps ad) (h0 : 0 ≤ at_) (h1 : at_ < ((byt ps).length : Nat)) {R : Ending → Mem → Prop}
    (k : ∀ m', Le m m' → R (.returned (.tuple #[.int .i64 (findL ps at_ 0).1, .int .i64 (findL ps at_ 0).2, .int .i64 0])) m') :
    HC P piece_Text_Find.id #[.pointer (some ⟨bt, 0, none⟩), .int .i64 at_] m R := by
  have gl := g.len
  have gb := g.big
  have hge := byt_ge (fun p hp => (g.ok p hp).1)
  refine piece_Text_Find.ok _ _ _ _ ?_
  refine BrDf (by omega) ?_
  refine Len_spec h g ?_
  intro m1 hle
  refine BrDf (p := at_ ≥ ((byt ps).length : Nat)) (by omega) ?_
  obtain ⟨⟨la, ll, lc, aa, al, ac, g1, g2, g3, g4, g5, g6, g7, g8⟩, lv⟩ := Tx.le hle h
  refine ⟨fun N t x i mm => t = some ⟨bt, 0, none⟩ ∧ Le m1 mm ∧ ∃ j : Nat, i = j ∧ j ≤ ps.length ∧ N = ps.length - j ∧ 0 ≤ x ∧ x < ((byt (ps.drop j)).length : Nat) ∧ findL (ps.drop j) x j = findL ps at_ 0,
    ps.length, ⟨rfl, Le.refl _, 0, rfl, by omega, by omega, h0, by simpa using h1, by simp⟩, ?_⟩
  rintro N t x i mm ⟨rfl, hle2, j, rfl, hj, rfl, hx0, hx1, hf⟩
  have hjl : j < ps.length := by
    rcases Nat.lt_or_ge j ps.length with h | h
    · exact h
    · rw [List.drop_eq_nil_of_le h] at hx1; simp [byt] at hx1; omega
  have hbt := hle2 _ _ g1
  have hpc := CellsAt.le hle2 g2.cells
  refine LdV.of (o := 0) hbt rfl ?_
  refine IxS.pcs hpc g3 (by omega) (by omega) ?_
  intro b o p hp c1 c2 c3
  have hp' : ps[j]? = some p := hp
  have hsm := g.sm p (List.mem_of_getElem? hp')
  unfold Pc.Sm at hsm
  refine LdV.mk c1 ?_
  refine LdV.mk c2 ?_
  refine LdV.mk c3 ?_
  refine size_spec _ _ _ ?_
  intro m3 hle3
  dsimp only [Cont]
  refine UnI.mk ?_
  rw [wi (n := p.t - p.f) (by omega) (by omega)]
  rw [findL_drop hp'] at hf
  have hdrop : ps.drop j = p :: ps.drop (j + 1) := by
    rw [List.drop_eq_getElem_cons hjl]
    rw [List.getElem?_eq_getElem hjl] at hp'
    cases hp'; rfl
  refine BrD (fun hge2 => ?_) (fun hlt => ?_)
  · rw [if_pos hge2] at hf
    refine LdV.of (o := 0) (hle3 _ _ hbt) rfl ?_
    refine IxS.pcs (CellsAt.le hle3 hpc) g3 (by omega) (by omega) ?_
    intro b o q hq d1 d2 d3
    have : q = p := by rw [hp] at hq; cases hq; rfl
    subst this
    refine LdV.mk d1 ?_
    refine LdV.mk d2 ?_
    refine LdV.mk d3 ?_
    refine size_spec _ _ _ ?_
    intro m4 hle4
    rw [hdrop, byt_cons, List.length_append, bytes_len] at hx1
    have hd := byt_take_le ps 0
    refine ⟨ps.length - (j + 1), by omega, rfl, (hle2.trans hle3).trans hle4, j + 1, ?_, by omega, rfl, ?_, ?_, ?_⟩
    · rw [wi (by omega) (by omega)]; omega
    · rw [wi (n := q.t - q.f) (by omega) (by omega)]
      rw [wi (n := x - (q.t - q.f)) (by omega) ?_]
      · omega
      · have : (byt ps).length = (byt (ps.take j)).length + (byt (ps.drop j)).length := by rw [← List.length_append, ← byt_append, List.take_append_drop]
        rw [hdrop, byt_cons, List.length_append, bytes_len] at this
        omega
    · rw [wi (n := q.t - q.f) (by omega) (by omega)]
      rw [wi (n := x - (q.t - q.f)) (by omega) ?_]
      · omega
      · have : (byt ps).length = (byt (ps.take j)).length + (byt (ps.drop j)).length := by rw [← List.length_append, ← byt_append, List.take_append_drop]
        rw [hdrop, byt_cons, List.length_append, bytes_len] at this
        omega
    · rw [wi (n := q.t - q.f) (by omega) (by omega)]
      rw [wi (n := x - (q.t - q.f)) (by omega) ?_]
      · exact hf
      · have : (byt ps).length = (byt (ps.take j)).length + (byt (ps.drop j)).length := by rw [← List.length_append, ← byt_append, List.take_append_drop]
        rw [hdrop, byt_cons, List.length_append, bytes_len] at this
        omega
  · rw [if_neg hlt] at hf
    unfold piece_Text_Find.k2
    have := k m3 ((hle.trans hle2).trans hle3)
    rw [← hf] at this
    exact this

theorem Copy_spec (h : Tx m F bt ps ad) (g : Gd B ps ad) {R : Ending → Mem → Prop} (k : ∀ bt' F' m', Le m m' → (∀ b, F' b → m b = none) → Tx m' F' bt' ps ad → R (.returned (.pointer (some ⟨bt', 0, none⟩))) m') :
    HC P piece_Text_Copy.id #[.pointer (some ⟨bt, 0, none⟩)] m R := by
  have gl := g.len
  have gb := g.big
  have ga := g.ad
  have hge := byt_ge (fun p hp => (g.ok p hp).1)
  obtain ⟨⟨la, ll, lc, aa, al, ac, g1, g2, g3, g4, g5, g6, g7, g8⟩, lv⟩ := h
  refine piece_Text_Copy.ok _ _ _ ?_
  refine Br.f rfl ?_
  refine ⟨m, Le.refl _, ?_⟩
  refine LdV.of (o := 0) g1 rfl ?_
  refine LdV.of (o := 0 + 1) g1 rfl ?_
  subst g3
  subst g5
  refine clone_pc g2.cells rfl (by omega) ?_
  intro pa pc m2 hle2 ho2 hf2
  refine ⟨m, Le.refl _, hle2, ?_⟩
  refine clone_u8 (CellsAt.le hle2 g4.cells) rfl (by omega) ?_
  intro qa qc m4 hle4 ho4 hf4
  intro b16 hb16
  refine k b16 (fun b => b = b16 ∨ blk pa = some b ∨ blk qa = some b) _ ((hle2.trans hle4).trans (Le.set hb16 _)) ?_ ⟨⟨pa, ps.length, pc, qa, ad.length, qc, set_same _ _ _, Own.le (hle4.trans (Le.set hb16 _)) ho2, rfl, Own.le (Le.set hb16 _) ho4, rfl, .inl rfl, fun b e => .inr (.inl e), fun b e => .inr (.inr e)⟩, ?_⟩
  · rintro b (rfl | e | e)
    · exact (hle2.trans hle4).new hb16
    · exact hf2 b e
    · exact hle2.new (hf4 b e)
  · rintro b (rfl | e | e)
    · rw [set_same]; simp
    · exact (Own.le (hle4.trans (Le.set hb16 _)) ho2).live b e
    · exact (Own.le (Le.set hb16 _) ho4).live b e
theorem Copy_nil {R : Ending → Mem → Prop} (k : R (.returned (.pointer none)) m) : HC P piece_Text_Copy.id #[.pointer none] m R := by
  refine piece_Text_Copy.ok _ _ _ ?_
  exact Br.t rfl k
end
end Go.E
