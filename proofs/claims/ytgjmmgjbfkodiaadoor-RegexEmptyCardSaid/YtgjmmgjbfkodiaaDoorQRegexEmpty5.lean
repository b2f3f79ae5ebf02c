/- This project's own logic, printed forms and lemmas, as far as this claim needs them (part 5). -/
import Derived.Test.YtgjmmgjbfkodiaaDoorQRegexEmpty4
set_option linter.unusedVariables false
set_option linter.unusedSimpArgs false
set_option maxRecDepth 20000
namespace Go.E.Rg
open Go.H Go.E
attribute [local irreducible] BiN MkS ConvN LookN MapUpN CallV HC limb dbTab
theorem wo_chg {m m' : Mem} {r : Nat} (k : Chg (fun b => b = r) m m') : Le (m.wo fun b => b = r) (m'.wo fun b => b = r) := fun b o hb => by
  by_cases e : b = r
  · rw [wo_out (F := fun b => b = r) e] at hb; cases hb
  · rw [wo_in (F := fun b => b = r) e] at hb ⊢
    exact k.eq b o hb e
/-- Numbers, some of them left; where they lie nothing turns (B). -/
def Pk (B m : Mem) (r : Nat) (l : List UInt8) : Prop := ∃ (la : Option Addr) (cap : Nat) (ps : List UInt8) (n : Nat), m r = some (.cells #[.slice la ps.length cap, .int .i64 (n : Int)] T_eyotplay_Picks (0, 0)) ∧ CellsAt B la (u8s ps) ∧ Le B (m.wo fun b => b = r) ∧ n ≤ ps.length ∧ ps.length ≤ 1000000 ∧ ps.drop n = l
section
variable {B m m' : Mem} {r b : Nat} {l : List UInt8}
theorem Pk.le (h : Pk B m r l) (k : Le m m') : Pk B m' r l := by
  obtain ⟨la, cap, ps, n, h1, h2, h3, h4⟩ := h
  exact ⟨la, cap, ps, n, k _ _ h1, h2, h3.trans (wo_chg (k.chg _)), h4⟩
theorem Pk.live (h : Pk B m r l) : m r ≠ none := by
  obtain ⟨la, cap, ps, n, h1, _⟩ := h
  rw [h1]; simp
theorem Pk.base (h : Pk B m r l) : Le B m := by
  obtain ⟨la, cap, ps, n, h1, h2, h3, h4⟩ := h
  exact h3.trans (wo_le _ _)
/-- Something new is written elsewhere. -/
theorem Pk.oth (h : Pk B m r l) (hb : b ≠ r) (hB : B b = none) (o : Obj) : Pk B (m.set b o) r l := by
  obtain ⟨la, cap, ps, n, h1, h2, h3, h4⟩ := h
  refine ⟨la, cap, ps, n, (set_other _ _ hb.symm).trans h1, h2, fun x o' hx => ?_, h4⟩
  have := h3 x o' hx
  by_cases e : x = r
  · rw [wo_out (F := fun b => b = r) e] at this; cases this
  · rw [wo_in (F := fun b => b = r) e] at this ⊢
    rw [set_other _ _ (fun e2 => by subst e2; rw [hB] at hx; cases hx)]; exact this
end
theorem Num_spec {B m : Mem} {r k : Nat} {l : List UInt8} (hp : Pk B m r l) (hk : 0 < k) {R : Ending → Mem → Prop} (h : ∀ m', Chg (fun b => b = r) m m' → Pk B m' r l.tail → R (.returned (.int .i64 (num l k : Nat))) m') :
    HC P eyotplay_Picks_Num.id #[.pointer (some ⟨r, 0, none⟩), .int .i64 (k : Int)] m R := by
  obtain ⟨la, cap, ps, n, h1, hB, h2, hn, hl, rfl⟩ := hp
  refine eyotplay_Picks_Num.ok _ _ _ _ ?_
  refine Sub.all ?_
  refine LdV.s1 h1 (UnI.mk ?_)
  refine LdV.s0 h1 (UnS.mk ?_)
  refine BrD (fun hge => ?_) (fun hlt => ?_)
  · have hz : ps.drop n = [] := List.drop_eq_nil_of_le (by omega)
    have := h m (Chg.refl _ _) ⟨la, cap, ps, n, h1, hB, h2, hn, hl, by rw [hz]; rfl⟩
    rw [hz] at this
    exact this
  have hnl : n < ps.length := by omega
  refine LdV.s1 h1 (UnI.mk ?_)
  rw [wi (n := (n : Int) + 1) (by omega) (by omega)]
  refine St1.to #[.slice la ps.length cap, .int .i64 ((n + 1 : Nat) : Int)] h1 (by simp) rfl rfl ?_
  have hch := Chg.set m r (.cells #[.slice la ps.length cap, .int .i64 ((n + 1 : Nat) : Int)] T_eyotplay_Picks (0, 0))
  have h1' : (m.set r (.cells #[.slice la ps.length cap, .int .i64 ((n + 1 : Nat) : Int)] T_eyotplay_Picks (0, 0))) r = _ := set_same _ _ _
  generalize m.set r (.cells #[.slice la ps.length cap, .int .i64 ((n + 1 : Nat) : Int)] T_eyotplay_Picks (0, 0)) = m2 at hch h1' ⊢
  have h2' := h2.trans (wo_chg hch)
  refine Sub.all ?_
  refine LdV.s0 h1' (UnS.mk ?_)
  refine LdV.s1 h1' (UnI.mk ?_)
  rw [wi (n := ((n + 1 : Nat) : Int) - 1) (by omega) (by omega), show ((n + 1 : Nat) : Int) - 1 = (n : Int) by omega]
  refine IxS.u8s (hB.le (h2'.trans (wo_le _ _))) rfl (by omega) (by omega) ?_
  intro x hx
  rw [Int.toNat_natCast] at hx
  refine UnI.mk ?_
  have hd : ps.drop n = x :: ps.drop (n + 1) := by
    rw [List.drop_eq_getElem_cons hnl]
    rw [List.getElem?_eq_getElem hnl] at hx
    cases hx; rfl
  have hxl := UInt8.toNat_lt x
  refine NzI.mk (by omega) ?_
  rw [wi (by omega) (by omega)]
  have := h m2 hch ⟨la, cap, ps, n + 1, h1', hB, h2', by omega, hl, by rw [hd]; rfl⟩
  rw [hd] at this
  have e : Int.tmod ((x.toNat : Nat) : Int) (k : Int) = ((num (x :: ps.drop (n + 1)) k : Nat) : Int) := by
    unfold num
    rw [Int.tmod_eq_emod_of_nonneg (by omega)]
    exact (Int.natCast_emod _ _).symm
  rw [e]
  exact this
/-- A row of bytes of one's own. -/
theorem new_row {m : Mem} {bs : List UInt8} {K : Nat → Mem → Prop} (h : ∀ b m', Le m m' → CellsAt m' (some ⟨b, 0, none⟩) (u8s bs) → K b m') : NewC m (u8s bs).toArray T_uint8 K := fun b hb =>
  h b _ (Le.set hb _) (cells_at (set_same _ _ _) (by simp))
theorem Set_spec {B m : Mem} {r : Nat} {l : List UInt8} (hp : Pk B m r l) {R : Ending → Mem → Prop} (h : ∀ m', Chg (fun b => b = r) m m' → Pk B m' r (psR l) → R (.returned (setv (psS l))) m') :
    HC P eyotplay_Picks_Set.id #[.pointer (some ⟨r, 0, none⟩)] m R := by
  refine eyotplay_Picks_Set.ok _ _ _ ?_
  intro b2 hb2
  have c2 := Cl.mk0 (T := T_api_Set) (c := z4) hp.live hb2
  have hBb : B b2 = none := hp.base.new hb2
  have hp1 := hp.le (Le.set hb2 (.cells z4 T_api_Set (0, 0)))
  generalize m.set b2 (.cells z4 T_api_Set (0, 0)) = m1 at c2 hp1 ⊢
  refine Num_spec (k := 7) hp1 (by decide) ?_
  intro m2 hch2 hp2
  have c3 := c2.step hch2
  dsimp only [Cont]
  refine UnI.mk ?_
  have h7 := num_lt l (m := 7) (by decide)
  -- the end: this set is told
  have fin : ∀ (S : Nat → Bool) (mm : Mem), Chg (fun b => b = r) m2 mm → Pk B mm r (psR l) → S = psS l →
      St1 mm b2 0 (.int .u64 (L S 0)) fun m1 => St1 m1 b2 1 (.int .u64 (L S 1)) fun m2 => St1 m2 b2 2 (.int .u64 (L S 2)) fun m3 => St1 m3 b2 3 (.int .u64 (L S 3)) fun m4 =>
        LdV m4 b2 0 fun v => UnI v .u64 fun x0 => LdV m4 b2 1 fun v => UnI v .u64 fun x1 => LdV m4 b2 2 fun v => UnI v .u64 fun x2 => LdV m4 b2 3 fun v => UnI v .u64 fun x3 => R (.returned (.agg #[.int .u64 x0, .int .u64 x1, .int .u64 x2, .int .u64 x3])) m4 := by
    rintro S mm hch hpm rfl
    have c4 := c3.step hch
    refine out4 c4.at_ ?_
    refine h _ (c4.put _).ch ?_
    exact hpm.oth c4.ne hBb _
  have hR : ∀ c, num l 7 = c → c ≤ 3 → psR l = l.tail := fun c h h' => by unfold psR; rw [if_pos (by omega)]
  refine BrE (fun e => ?_) (fun e => ?_)
  · have e : num l 7 = 0 := by omega
    refine new_row (bs := [97, 98]) ?_
    intro b m3 hle3 hc
    refine ROf_spec hc rfl (by decide) ?_
    intro m4 hle4
    refine ContSet.mk ?_
    exact fin _ m4 ((hle3.trans hle4).chg _) (by rw [hR 0 e (by decide)]; exact hp2.le (hle3.trans hle4)) (by unfold psS; rw [if_pos e])
  have e : num l 7 ≠ 0 := by omega
  refine BrE (fun e1 => ?_) (fun e1 => ?_)
  · have e1 : num l 7 = 1 := by omega
    refine new_row (bs := [98, 99, 100]) ?_
    intro b m3 hle3 hc
    refine ROf_spec hc rfl (by decide) ?_
    intro m4 hle4
    refine ContSet.mk ?_
    exact fin _ m4 ((hle3.trans hle4).chg _) (by rw [hR 1 e1 (by decide)]; exact hp2.le (hle3.trans hle4)) (by unfold psS; rw [if_neg e, if_pos e1])
  have e1 : num l 7 ≠ 1 := by omega
  refine BrE (fun e2 => ?_) (fun e2 => ?_)
  · have e2 : num l 7 = 2 := by omega
    refine new_row (bs := [97, 10]) ?_
    intro b m3 hle3 hc
    refine ROf_spec hc rfl (by decide) ?_
    intro m4 hle4
    refine ContSet.mk ?_
    refine RNot_spec ?_
    intro m5 hle5
    refine ContSet.mk ?_
    have hle := (hle3.trans hle4).trans hle5
    exact fin _ m5 (hle.chg _) (by rw [hR 2 e2 (by decide)]; exact hp2.le hle) (by unfold psS; rw [if_neg e, if_neg e1, if_pos e2])
  have e2 : num l 7 ≠ 2 := by omega
  refine BrE (fun e3 => ?_) (fun e3 => ?_)
  · have e3 : num l 7 = 3 := by omega
    refine new_row (bs := [48, 49, 50]) ?_
    intro b m3 hle3 hc
    refine ROf_spec hc rfl (by decide) ?_
    intro m4 hle4
    refine ContSet.mk ?_
    exact fin _ m4 ((hle3.trans hle4).chg _) (by rw [hR 3 e3 (by decide)]; exact hp2.le (hle3.trans hle4)) (by unfold psS; rw [if_neg e, if_neg e1, if_neg e2, if_pos e3])
  have e3 : num l 7 ≠ 3 := by omega
  refine Num_spec (k := 6) hp2 (by decide) ?_
  intro m3 hch3 hp3
  dsimp only [Cont]
  refine UnI.mk ?_
  have h6 := num_lt l.tail (m := 6) (by decide)
  have hsz : (ByteArray.mk #[97, 98, 49, 10, 32, 45]).size = 6 := rfl
  refine ⟨by omega, by omega, ?_⟩
  have hbt : bt (ByteArray.mk #[97, 98, 49, 10, 32, 45]) (num l.tail 6 : Nat) = (((few.getD (num l.tail 6) 0).toNat : Nat) : Int) := by
    generalize num l.tail 6 = q at h6
    have : q = 0 ∨ q = 1 ∨ q = 2 ∨ q = 3 ∨ q = 4 ∨ q = 5 := by omega
    rcases this with rfl | rfl | rfl | rfl | rfl | rfl <;> rfl
  rw [hbt]
  refine new_row (bs := [few.getD (num l.tail 6) 0]) ?_
  intro b m4 hle4 hc
  refine ROf_spec hc rfl (by simp) ?_
  intro m5 hle5
  refine ContSet.mk ?_
  have hle := hle4.trans hle5
  refine fin _ m5 (hch3.trans (hle.chg _) (fun _ _ e => e)) ?_ ?_
  · have : psR l = l.tail.tail := by unfold psR; rw [if_neg (by omega)]
    rw [this]; exact hp3.le hle
  · unfold psS; rw [if_neg e, if_neg e1, if_neg e2, if_neg e3]
end Go.E.Rg
set_option linter.unusedVariables false
set_option linter.unusedSimpArgs false
set_option maxRecDepth 20000
namespace Go.E.Rg
open Go.H Go.E
attribute [local irreducible] BiN MkS ConvN LookN MapUpN CallV HC limb dbTab
theorem Pk.chg {B m m' : Mem} {r : Nat} {l : List UInt8} {S : Nat → Prop} (h : Pk B m r l) (k : Chg S m m') (hs : ∀ b, S b → b ≠ r ∧ B b = none) : Pk B m' r l := by
  obtain ⟨la, cap, ps, n, h1, h2, h3, h4⟩ := h
  refine ⟨la, cap, ps, n, k.eq _ _ h1 (fun hS => (hs r hS).1 rfl), h2, fun x o' hx => ?_, h4⟩
  have := h3 x o' hx
  by_cases e : x = r
  · rw [wo_out (F := fun b => b = r) e] at this; cases this
  · rw [wo_in (F := fun b => b = r) e] at this ⊢
    exact k.eq x o' this (fun hS => by rw [(hs x hS).2] at hx; cases hx)
theorem Cl.with {T : TypeId} {m mm : Mem} {r b b' : Nat} {c : Array Value} (h : Cl T m mm r b c) (hne : b ≠ b') (o : Obj) (hm : m b' = none) : Cl T m (mm.set b' o) r b c := by
  refine ⟨(set_other _ _ hne).trans h.at_, h.ne, h.new, ?_⟩
  refine h.ch.trans (Chg.set mm b' o) (fun x hx e => ?_)
  rw [show x = b' from e, hm] at hx; exact absurd rfl hx
def PrxOK (d : Nat) : Prop := ∀ {B m : Mem} {r : Nat} {l : List UInt8} {R : Ending → Mem → Prop}, Pk B m r l → (∀ m' v, Chg (fun b => b = r) m m' → Pk B m' r (prx d l).2 → ArgC (newB m m') (prx d l).1 v → R (.returned (rxA (prx d l).1.k (prx d l).1.S v)) m') → HC P eyotplay_Picks_Rx.id #[.pointer (some ⟨r, 0, none⟩), .int .i64 (d : Int)] m R
section
variable {B m m1 : Mem} {r b4 b8 : Nat} {d n : Nat} {kind : Int} {l0 : List UInt8} {R : Ending → Mem → Prop}
/-- One more part is put on. -/
theorem k5_spec {K3 : Option Addr → Int → Nat → Nat → Int → Int → Nat → Nat → Int → Mem → Prop} {x0 : Option Addr} {x1 : Int} {x4o : Nat} {i : Nat} {mm : Mem} {b10 : Nat} {a : Option Addr} {c : Nat} {prs : List (Rx × Value)} {y : Rx} {a' : Option Addr} {l' c' : Nat} {lr : List UInt8}
    (hle1 : Le B m1) (hrl1 : m1 r ≠ none) (hl4 : m1 b4 ≠ none) (hl8 : m1 b8 ≠ none) (hup : ∀ b, m b ≠ none → m1 b ≠ none) (h48 : b4 ≠ b8) (hm8 : m b8 = none)
    (c4 : Cl T_api_Rx m mm r b4 zRx) (c8 : Cl T_api_Rx m mm r b8 (rxO kind noS (.slice a prs.length c))) (hL : RL m1 mm a c prs) (hp : Pk B mm r lr) (hupm : ∀ b, m1 b ≠ none → mm b ≠ none)
    (h10 : mm b10 = some (.cells (rxO y.k y.S (.slice a' l' c')) T_api_Rx (0, 0))) (hy : ArgC (on mm fun b => m1 b = none ∧ blk a ≠ some b) y (.slice a' l' c')) (hlen : prs.length ≤ 100) (hi : i ≤ 100) (hB8 : B b8 = none)
    (hK : ∀ m' a2 c2, Cl T_api_Rx m m' r b4 zRx → Cl T_api_Rx m m' r b8 (rxO kind noS (.slice a2 (prs.length + 1) c2)) → RL m1 m' a2 c2 (prs ++ [(y, .slice a' l' c')]) → Pk B m' r lr → (∀ b, m1 b ≠ none → m' b ≠ none) → K3 x0 x1 b4 x4o kind (n : Int) b8 0 ((i + 1 : Nat) : Int) m') :
    eyotplay_Picks_Rx.k5 K3 x0 x1 b4 x4o kind (n : Int) b8 0 (i : Int) b10 0 R mm := by
  unfold eyotplay_Picks_Rx.k5
  refine LdV.s5 c8.at_ (UnS.mk ?_)
  refine get6 h10 ?_
  refine RL.push hL (x := y) rfl hy (by omega) hupm ?_
  intro a2 c2 m5 hch5 hL5
  refine UnS.mk ?_
  have c45 := c4.app hch5 hL.fr hl4 hup
  have c85 := c8.app hch5 hL.fr hl8 hup
  have hp5 := hp.chg hch5 (fun b hb => ⟨fun e => by subst e; exact hrl1 (hL.fr b hb), hle1.new (hL.fr b hb)⟩)
  have hup5 : ∀ b, m1 b ≠ none → m5 b ≠ none := fun b hb => hch5.live b (hupm b hb)
  refine St1.to (rxO kind noS (.slice a2 (prs.length + 1) c2)) c85.at_ (by simp [rxO]) rfl (by simp [rxO]) ?_
  rw [show IntKind.i64.wrap ((i : Int) + 1) = ((i + 1 : Nat) : Int) by rw [wi (by omega) (by omega)]; omega]
  refine hK _ a2 c2 (c45.with h48 _ hm8) (c85.put _) (hL5.up (Chg.set m5 b8 _) (fun b e => by rw [show b = b8 from e]; exact hl8)) (hp5.oth c85.ne hB8 _) (fun b hb => (Chg.set m5 b8 _).live b (hup5 b hb))
end
theorem prx_spec : ∀ d, d ≤ 1000 → PrxOK d := by
  intro d
  induction d with
  | zero =>
    intro hd B m r l R hp k
    refine eyotplay_Picks_Rx.ok _ _ _ _ ?_
    intro b4 hb4
    have c4 := Cl.mk0 (T := T_api_Rx) (c := zRx) hp.live hb4
    have hB4 : B b4 = none := hp.base.new hb4
    have hp1 := hp.le (Le.set hb4 (.cells zRx T_api_Rx (0, 0)))
    generalize m.set b4 (.cells zRx T_api_Rx (0, 0)) = m1 at c4 hp1 ⊢
    refine Num_spec (k := 9) hp1 (by decide) ?_
    intro m2 hch2 hp2
    dsimp only [Cont]
    refine UnI.mk ?_
    refine BrDt (by omega) ?_
    unfold eyotplay_Picks_Rx.k1
    refine Br.t rfl ?_
    refine Set_spec hp2 ?_
    intro m3 hch3 hp3
    refine ContSet.mk ?_
    have c5 := (c4.step hch2).step hch3
    refine out6 (S := psS l.tail) c5.at_ ?_
    exact k _ (.slice none 0 0) (c5.put _).ch (hp3.oth c5.ne hB4 _) ArgC.none
  | succ d ih =>
    intro hd B m r l R hp k
    refine eyotplay_Picks_Rx.ok _ _ _ _ ?_
    intro b4 hb4
    have c4 := Cl.mk0 (T := T_api_Rx) (c := zRx) hp.live hb4
    have hB4 : B b4 = none := hp.base.new hb4
    have hle0 : Le m (m.set b4 (.cells zRx T_api_Rx (0, 0))) := Le.set hb4 _
    have hp1 := hp.le hle0
    have hl40 : (m.set b4 (.cells zRx T_api_Rx (0, 0))) b4 ≠ none := by rw [set_same]; simp
    generalize m.set b4 (.cells zRx T_api_Rx (0, 0)) = m0 at c4 hp1 hle0 hl40 ⊢
    refine Num_spec (k := 9) hp1 (by decide) ?_
    intro m2 hch2 hp2
    dsimp only [Cont]
    refine UnI.mk ?_
    have c42 := c4.step hch2
    have hl42 : m2 b4 ≠ none := hch2.live _ hl40
    have hup2 : ∀ b, m b ≠ none → m2 b ≠ none := fun b hb => hch2.live b (hle0.live hb)
    refine BrDf (by omega) ?_
    have h9 := num_lt l (m := 9) (by decide)
    have hprx : prx (d + 1) l = (if num l 9 < 4 then (st (psS l.tail), psR l.tail)
      else if kindOf (num l 9) ≤ 3 then (.mk (kindOf (num l 9)) noS (kidsF (prx d) (kindOf (num l 9)) (2 + num l.tail 2) l.tail.tail).1, (kidsF (prx d) (kindOf (num l 9)) (2 + num l.tail 2) l.tail.tail).2)
      else (.mk (kindOf (num l 9)) noS (kidsF (prx d) (kindOf (num l 9)) 1 l.tail).1, (kidsF (prx d) (kindOf (num l 9)) 1 l.tail).2)) := rfl
    unfold eyotplay_Picks_Rx.k1
    refine BrD (fun hlt => ?_) (fun hge => ?_)
    · rw [hprx, if_pos (by omega)] at k
      refine Set_spec hp2 ?_
      intro m3 hch3 hp3
      refine ContSet.mk ?_
      have c5 := c42.step hch3
      refine out6 (S := psS l.tail) c5.at_ ?_
      exact k _ (.slice none 0 0) (c5.put _).ch (hp3.oth c5.ne hB4 _) ArgC.none
    rw [hprx, if_neg (by omega)] at k
    have hki : kindOf (num l 9) = 2 + (((num l 9 + 1) % 5 : Nat) : Int) := rfl
    have ekind : IntKind.i64.wrap (2 + (Int.tmod (IntKind.i64.wrap (((num l 9 : Nat) : Int) + 1)) 5)) = kindOf (num l 9) := by
      rw [wi (n := ((num l 9 : Nat) : Int) + 1) (by omega) (by omega)]
      have : Int.tmod (((num l 9 : Nat) : Int) + 1) 5 = (((num l 9 + 1) % 5 : Nat) : Int) := by
        rw [Int.tmod_eq_emod_of_nonneg (by omega)]; omega
      rw [this, hki, wi (by omega) (by omega)]
    rw [ekind]
    have hkin := kindOf_in (num l 9)
    generalize kindOf (num l 9) = kind at k hkin ⊢
    -- so many parts
    have parts : ∀ (n : Nat) (l0 : List UInt8) (m3 : Mem), n ≤ 3 → Chg (fun b => b = r) m2 m3 → Pk B m3 r l0 →
        (∀ m' v, Chg (fun b => b = r) m m' → Pk B m' r (kidsF (prx d) kind n l0).2 → ArgC (newB m m') (.mk kind noS (kidsF (prx d) kind n l0).1) v → R (.returned (rxA kind noS v)) m') →
        eyotplay_Picks_Rx.k2 (some ⟨r, 0, none⟩) ((d + 1 : Nat) : Int) b4 0 kind (n : Int) R m3 := by
      intro n l0 m3 hn hch3 hp3 hk
      unfold eyotplay_Picks_Rx.k2
      intro b8 hb8
      have c43 := c42.step hch3
      have hm8 : m b8 = none := c43.ch.new hb8
      have hB8 : B b8 = none := hp3.base.new hb8
      have h48 : b4 ≠ b8 := by rintro rfl; rw [c43.at_] at hb8; cases hb8
      have h8r : b8 ≠ r := by rintro rfl; exact hp3.live hb8
      have key := put6 (m := m3.set b8 (.cells zRx T_api_Rx (0, 0))) (b := b8) (k := kind) (S := noS) (a := none) (l := 0) (c := 0) (e := T_api_Rx) (K := fun m7 => eyotplay_Picks_Rx.l3 (some ⟨r, 0, none⟩) ((d + 1 : Nat) : Int) b4 0 kind (n : Int) b8 0 0 R m7) (set_same _ _ _) (by
        rw [set_set]
        have c44 : Cl T_api_Rx m (m3.set b8 (.cells (rxO kind noS (.slice none 0 0)) T_api_Rx (0, 0))) r b4 zRx := c43.le (Le.set hb8 _)
        have c84 : Cl T_api_Rx m (m3.set b8 (.cells (rxO kind noS (.slice none 0 0)) T_api_Rx (0, 0))) r b8 (rxO kind noS (.slice none 0 0)) := Cl.mkAt c43.ch hp.live hb8
        have hp4 := hp3.le (Le.set hb8 (.cells (rxO kind noS (.slice none 0 0)) T_api_Rx (0, 0)))
        have hl8 : (m3.set b8 (.cells (rxO kind noS (.slice none 0 0)) T_api_Rx (0, 0))) b8 ≠ none := by rw [set_same]; simp
        have hl4 : (m3.set b8 (.cells (rxO kind noS (.slice none 0 0)) T_api_Rx (0, 0))) b4 ≠ none := (Le.set hb8 _).live (hch3.live _ hl42)
        have hup : ∀ b, m b ≠ none → (m3.set b8 (.cells (rxO kind noS (.slice none 0 0)) T_api_Rx (0, 0))) b ≠ none := fun b hb => (Le.set hb8 _).live (hch3.live b (hup2 b hb))
        generalize m3.set b8 (.cells (rxO kind noS (.slice none 0 0)) T_api_Rx (0, 0)) = m1 at c44 c84 hp4 hl8 hl4 hup ⊢
        have hrl1 := hp4.live
        have hle1 := hp4.base
        refine ⟨fun N x0 x1 x4b x4o x6 x7 x8b x8o i mm => x0 = some ⟨r, 0, none⟩ ∧ x1 = ((d + 1 : Nat) : Int) ∧ x4b = b4 ∧ x4o = 0 ∧ x6 = kind ∧ x7 = (n : Int) ∧ x8b = b8 ∧ x8o = 0 ∧ ∃ (j : Nat) (a : Option Addr) (c : Nat) (prs : List (Rx × Value)) (l' : List UInt8), i = (j : Int) ∧ j ≤ n ∧ N = n - j ∧ prs.length = j ∧ Cl T_api_Rx m mm r b4 zRx ∧ Cl T_api_Rx m mm r b8 (rxO kind noS (.slice a prs.length c)) ∧ RL m1 mm a c prs ∧ Pk B mm r l' ∧ (∀ b, m1 b ≠ none → mm b ≠ none) ∧
            kidsF (prx d) kind n l0 = (prs.map (·.1) ++ (kidsF (prx d) kind (n - j) l').1, (kidsF (prx d) kind (n - j) l').2), n,
          ⟨rfl, rfl, rfl, rfl, rfl, rfl, rfl, rfl, 0, none, 0, [], l0, rfl, by omega, by omega, rfl, c44, c84, ⟨Own.nil _ _ _, Fresh.none _, fun p hp => by cases hp⟩, hp4, fun b hb => hb, by simp⟩, ?_⟩
        rintro N x0 x1 x4b x4o x6 x7 x8b x8o i mm ⟨g0, g1, g2, g3, g4, g5, g6, g7, j, a, c, prs, l', rfl, hj, rfl, hpj, cm4, cm8, hL, hpm, hupm, hkids⟩
        subst x0 x1 x4b x4o x6 x7 x8b x8o
        unfold eyotplay_Picks_Rx.l3B
        refine BrD (fun hlt => ?_) (fun hge => ?_)
        rotate_left
        · have hz : n - j = 0 := by omega
          rw [hz] at hkids
          have e0 : kidsF (prx d) kind 0 l' = ([], l') := rfl
          rw [e0, List.append_nil] at hkids
          refine get6 cm8.at_ ?_
          refine out6 (S := noS) cm4.at_ ?_
          have c5 := cm4.put (rxO kind noS (.slice a prs.length c))
          have hL5 := hL.up (Chg.set mm b4 (.cells (rxO kind noS (.slice a prs.length c)) T_api_Rx (0, 0))) (fun b e => by rw [show b = b4 from e]; exact hl4)
          rw [hkids] at hk
          exact hk _ (.slice a prs.length c) c5.ch (hpm.oth cm4.ne hB4 _) ((hL5.arg (Le.refl _) (by omega) kind noS).le (newB_up hup))
        have ed : IntKind.i64.wrap (((d + 1 : Nat) : Int) - 1) = (d : Int) := by rw [wi (by omega) (by omega)]; omega
        rw [ed]
        refine ih (by omega) hpm ?_
        intro m4 v hch4 hp5 hv
        obtain ⟨a', l'', c', rfl⟩ := hv.sl
        refine ContRx.mk ?_
        refine copyRx ?_
        intro b10 m8 hb10 hle8 h10
        have cm4' := (cm4.step hch4).le hle8
        have cm8' := (cm8.step hch4).le hle8
        have hL8 := (hL.up hch4 (fun b e => by rw [show b = r from e]; exact hrl1)).up (hle8.chg fun _ => False) (fun _ h => h.elim)
        have hp8 := hp5.le hle8
        have hup8 : ∀ b, m1 b ≠ none → m8 b ≠ none := fun b hb => hle8.live (hch4.live b (hupm b hb))
        have hin : ∀ {y : Rx} {w : Value} {m9 : Mem}, ArgC (newB mm m9) y w → ArgC (on m9 fun b => m1 b = none ∧ blk a ≠ some b) y w := fun h => hL.in_ hupm h
        have hx : ArgC (newB mm m8) (prx d l').1 (.slice a' l'' c') := hv.le (newB_le hle8)
        obtain ⟨q, hq⟩ : ∃ q, n - j = q + 1 := ⟨n - j - 1, by omega⟩
        have hq' : n - (j + 1) = q := by omega
        have hks : kidsF (prx d) kind (n - j) l' = ((kidF (prx d) kind l').1 :: (kidsF (prx d) kind q (kidF (prx d) kind l').2).1, (kidsF (prx d) kind q (kidF (prx d) kind l').2).2) := by rw [hq]; rfl
        rw [hks] at hkids
        -- this part, or a set in its place
        have k4 : ∀ z : Bool, (z = true ↔ ((prx d l').1.k = kind ∨ (4 ≤ kind ∧ 4 ≤ (prx d l').1.k))) → eyotplay_Picks_Rx.k4 (fun x0 x1 x4b x4o x6 x7 x8b x8o i mm => ∃ N1, N1 < n - j ∧ (x0 = some ⟨r, 0, none⟩ ∧ x1 = ((d + 1 : Nat) : Int) ∧ x4b = b4 ∧ x4o = 0 ∧ x6 = kind ∧ x7 = (n : Int) ∧ x8b = b8 ∧ x8o = 0 ∧ ∃ (j : Nat) (a : Option Addr) (c : Nat) (prs : List (Rx × Value)) (l' : List UInt8), i = (j : Int) ∧ j ≤ n ∧ N1 = n - j ∧ prs.length = j ∧ Cl T_api_Rx m mm r b4 zRx ∧ Cl T_api_Rx m mm r b8 (rxO kind noS (.slice a prs.length c)) ∧ RL m1 mm a c prs ∧ Pk B mm r l' ∧ (∀ b, m1 b ≠ none → mm b ≠ none) ∧
            kidsF (prx d) kind n l0 = (prs.map (·.1) ++ (kidsF (prx d) kind (n - j) l').1, (kidsF (prx d) kind (n - j) l').2))) (some ⟨r, 0, none⟩) ((d + 1 : Nat) : Int) b4 0 kind (n : Int) b8 0 (j : Int) b10 0 z R m8 := by
          intro z hz
          have goOn : ∀ {m9 : Mem} {y : Rx} {ay : Option Addr} {ly cy : Nat} {lr : List UInt8}, kidF (prx d) kind l' = (y, lr) → Cl T_api_Rx m m9 r b4 zRx → Cl T_api_Rx m m9 r b8 (rxO kind noS (.slice a prs.length c)) → RL m1 m9 a c prs → Pk B m9 r lr → (∀ b, m1 b ≠ none → m9 b ≠ none) → m9 b10 = some (.cells (rxO y.k y.S (.slice ay ly cy)) T_api_Rx (0, 0)) → ArgC (on m9 fun b => m1 b = none ∧ blk a ≠ some b) y (.slice ay ly cy) →
              eyotplay_Picks_Rx.k5 (fun x0 x1 x4b x4o x6 x7 x8b x8o i mm => ∃ N1, N1 < n - j ∧ (x0 = some ⟨r, 0, none⟩ ∧ x1 = ((d + 1 : Nat) : Int) ∧ x4b = b4 ∧ x4o = 0 ∧ x6 = kind ∧ x7 = (n : Int) ∧ x8b = b8 ∧ x8o = 0 ∧ ∃ (j : Nat) (a : Option Addr) (c : Nat) (prs : List (Rx × Value)) (l' : List UInt8), i = (j : Int) ∧ j ≤ n ∧ N1 = n - j ∧ prs.length = j ∧ Cl T_api_Rx m mm r b4 zRx ∧ Cl T_api_Rx m mm r b8 (rxO kind noS (.slice a prs.length c)) ∧ RL m1 mm a c prs ∧ Pk B mm r l' ∧ (∀ b, m1 b ≠ none → mm b ≠ none) ∧
                kidsF (prx d) kind n l0 = (prs.map (·.1) ++ (kidsF (prx d) kind (n - j) l').1, (kidsF (prx d) kind (n - j) l').2))) (some ⟨r, 0, none⟩) ((d + 1 : Nat) : Int) b4 0 kind (n : Int) b8 0 (j : Int) b10 0 R m9 := by
            intro m9 y ay ly cy lr hkf d4 d8 dL dp dup d10 dy
            refine k5_spec (m := m) (m1 := m1) hle1 hrl1 hl4 hl8 hup h48 hm8 d4 d8 dL dp dup d10 dy (by omega) (by omega) hB8 ?_
            intro m' a2 c2 e4 e8 eL ep eup
            refine ⟨n - (j + 1), by omega, rfl, rfl, rfl, rfl, rfl, rfl, rfl, rfl, j + 1, a2, c2, prs ++ [(y, .slice ay ly cy)], lr, rfl, by omega, rfl, by simp [hpj], e4, by rw [List.length_append]; exact e8, eL, ep, eup, ?_⟩
            rw [hq', hkids, hkf]
            simp
          unfold eyotplay_Picks_Rx.k4
          refine Br.mk (fun ht => ?_) (fun hf => ?_)
          · have hc := hz.mp ht
            have hkf : kidF (prx d) kind l' = (st (psS (prx d l').2), psR (prx d l').2) := by unfold kidF; rw [if_pos hc]
            refine Set_spec hp8 ?_
            intro m9 hch9 hp9
            refine ContSet.mk ?_
            have h10r : b10 ≠ r := by rintro rfl; exact hp5.live hb10
            have h109 := hch9.eq _ _ h10 h10r
            refine put6 (S := psS (prx d l').2) h109 ?_
            have hb10m1 : m1 b10 = none := by
              cases h : m1 b10 with
              | none => rfl
              | some o => exact absurd hb10 (hch4.live _ (hupm _ (by rw [h]; simp)))
            have hne4 : b4 ≠ b10 := by rintro rfl; exact hl4 hb10m1
            have hne8 : b8 ≠ b10 := by rintro rfl; exact hl8 hb10m1
            have hm10 : m b10 = none := by
              cases h : m b10 with
              | none => rfl
              | some o => exact absurd hb10m1 (hup _ (by rw [h]; simp))
            refine goOn hkf ((cm4'.step hch9).with hne4 _ hm10) ((cm8'.step hch9).with hne8 _ hm10) ?_ (hp9.oth h10r (hle1.new hb10m1) _) (fun b hb => (Chg.set m9 b10 _).live b (hch9.live b (hup8 b hb))) (set_same _ _ _) ArgC.none
            have hL9 := hL8.up hch9 (fun b e => by rw [show b = r from e]; exact hrl1)
            have hab : blk a ≠ some b10 := fun e => by
              have := (hL.up hch4 (fun b e => by rw [show b = r from e]; exact hrl1)).own.live b10 e
              exact this hb10
            have hchS := Chg.set m9 b10 (.cells (rxO 1 (psS (prx d l').2) (.slice none 0 0)) T_api_Rx (0, 0))
            refine ⟨hL9.own.chg hchS (fun b hb e => hab (by rw [hb]; rw [show b = b10 from e])), hL9.fr, fun p hpp => ?_⟩
            -- what the parts have lies elsewhere: it is older than b10
            have h0 := (hL.up hch4 (fun b e => by rw [show b = r from e]; exact hrl1)).ok p hpp
            refine h0.le ?_
            intro b o hb
            obtain ⟨g1, g2⟩ := on_live hb
            have hbne : b ≠ b10 := by rintro rfl; rw [hb10] at g2; cases g2
            have hbr : b ≠ r := fun e => hrl1 (e ▸ g1.1)
            rw [on_in (G := fun b => m1 b = none ∧ blk a ≠ some b) g1, set_other _ _ hbne]
            exact hch9.eq _ _ (hle8 _ _ g2) hbr
          · have hc : ¬ ((prx d l').1.k = kind ∨ (4 ≤ kind ∧ 4 ≤ (prx d l').1.k)) := by rw [← hz, hf]; decide
            have hkf : kidF (prx d) kind l' = ((prx d l').1, (prx d l').2) := by unfold kidF; rw [if_neg hc]
            exact goOn hkf cm4' cm8' hL8 hp8 hup8 h10 (hin hx)
        refine LdV.s0 h10 (UnI.mk ?_)
        refine BrE (fun e => ?_) (fun e => ?_)
        · exact k4 true (by simp [e])
        refine BrD (fun h4 => ?_) (fun h4 => ?_)
        · refine LdV.s0 h10 (UnI.mk ?_)
          refine k4 _ ?_
          simp only [ge_iff_le, decide_eq_true_eq]
          exact ⟨fun h => .inr ⟨by omega, h⟩, fun h => by rcases h with h | h; exact absurd h e; exact h.2⟩
        · refine k4 false ⟨fun h => (by cases h), fun h => ?_⟩
          rcases h with h | h
          · exact absurd h e
          · omega)
      rw [noS_L, noS_L, noS_L, noS_L] at key
      exact key
    refine BrD (fun h3 => ?_) (fun h3 => ?_)
    · rw [if_pos (by omega)] at k
      refine Num_spec (k := 2) hp2 (by decide) ?_
      intro m3 hch3 hp3
      dsimp only [Cont]
      refine UnI.mk ?_
      have h2 := num_lt l.tail (m := 2) (by decide)
      have e2 : IntKind.i64.wrap (2 + ((num l.tail 2 : Nat) : Int)) = ((2 + num l.tail 2 : Nat) : Int) := by rw [wi (by omega) (by omega)]; omega
      rw [e2]
      exact parts _ _ m3 (by omega) hch3 hp3 k
    · rw [if_neg (by omega)] at k
      exact parts 1 _ m2 (by omega) (Chg.refl _ _) hp2 k
end Go.E.Rg
set_option linter.unusedVariables false
set_option linter.unusedSimpArgs false
set_option maxRecDepth 20000
namespace Go.E.Rg
open Go.H Go.E
theorem kid_nodes {f : List UInt8 → Rx × List UInt8} {D : Nat} (hD : 1 ≤ D) (hf : ∀ l, nodes (f l).1 ≤ D) (kind : Int) (l : List UInt8) : nodes (kidF f kind l).1 ≤ D := by
  unfold kidF
  split
  · show nodes (st _) ≤ D
    unfold st
    rw [nodes_mk', nodesL_nil]; omega
  · exact hf l
theorem kids_nodes {f : List UInt8 → Rx × List UInt8} {D : Nat} (hD : 1 ≤ D) (hf : ∀ l, nodes (f l).1 ≤ D) (kind : Int) : ∀ (n : Nat) (l : List UInt8), nodesL (kidsF f kind n l).1 ≤ n * D
  | 0, l => by show nodesL [] ≤ _; rw [nodesL_nil]; omega
  | n + 1, l => by
    show nodesL ((kidF f kind l).1 :: _) ≤ _
    rw [nodesL_cons', Nat.add_mul, Nat.one_mul]
    have h1 := kid_nodes hD hf kind l
    have h2 := kids_nodes hD hf kind n (kidF f kind l).2
    omega
theorem prx_nodes : ∀ (d : Nat) (l : List UInt8), nodes (prx d l).1 ≤ 4 ^ d
  | 0, l => by
    show nodes (st _) ≤ _
    unfold st
    rw [nodes_mk', nodesL_nil]; simp
  | d + 1, l => by
    have hD : 1 ≤ 4 ^ d := Nat.pow_pos (by decide)
    have hs : ∀ S, nodes (st S) = 1 := fun S => by unfold st; rw [nodes_mk', nodesL_nil]
    unfold prx
    have h2 := num_lt l.tail (m := 2) (by decide)
    rw [Nat.pow_succ]
    split
    · show nodes (st _) ≤ _
      rw [hs]; omega
    split
    · show nodes (Rx.mk _ _ _) ≤ _
      rw [nodes_mk']
      have := kids_nodes hD (prx_nodes d) (kindOf (num l 9)) (2 + num l.tail 2) l.tail.tail
      have h3 : (2 + num l.tail 2) * 4 ^ d ≤ 3 * 4 ^ d := Nat.mul_le_mul_right _ (by omega)
      omega
    · show nodes (Rx.mk _ _ _) ≤ _
      rw [nodes_mk']
      have := kids_nodes hD (prx_nodes d) (kindOf (num l 9)) 1 l.tail
      omega
end Go.E.Rg
set_option linter.unusedVariables false
set_option linter.unusedSimpArgs false
set_option maxRecDepth 20000
namespace Go.E.Rg
open Go.H Go.E
attribute [local irreducible] BiN MkS ConvN LookN MapUpN CallV HC limb dbTab
theorem conv_bytes {P : Program} {t e : TypeId} (ht : P.underlying t = some (.slice e)) (he : P.underlying e = some (.int .u8)) {m : Mem} {b l c : Nat} {cur : Array Value} (hb : m b = some (.cells cur e (0, 0))) {K : Value → Mem → Prop} {Pn : List PanicEntry → Mem → Prop}
    (k : K (.slice (some ⟨b, 0, none⟩) l c) (m.set b (.cells cur e (cur.size, cur.size + 1)))) : ConvN P t t (.slice (some ⟨b, 0, none⟩) l c) m K Pn := by
  unfold ConvN
  rw [pt_bind]
  unfold convert
  rw [pt_bind, pt_under ht, pt_bind, pt_under ht]
  simp only [beq_self_eq_true]
  rw [pt_bind, pt_under he]
  simp only []
  rw [pt_bind]
  unfold markStringish
  rw [pt_bind]
  refine ⟨_, hb, ?_⟩
  simp only [shapeOf]
  show ∃ o, _
  refine ⟨_, hb, ?_⟩
  simp only [freezeObj]
  exact k
/-- The bytes of a text that is written in the program. -/
theorem lit_bytes {m : Mem} {bs : List UInt8} {K : Option Addr → Nat → Nat → Mem → Prop} {Pn : List PanicEntry → Mem → Prop} (h : ∀ b m', Le m m' → CellsAt m' (some ⟨b, 0, none⟩) (u8s bs) → K (some ⟨b, 0, none⟩) bs.length bs.length m') :
    NewC m (u8s bs).toArray T_uint8 fun b m1 => ConvN P T_sl_uint8 T_sl_uint8 (.slice (some ⟨b, 0, none⟩) bs.length bs.length) m1 (fun w m2 => UnS w fun a l c => K a l c m2) Pn := by
  intro b hb
  refine conv_bytes (by kernel_rfl) (by kernel_rfl) (set_same _ _ _) ?_
  refine UnS.mk ?_
  rw [set_set]
  exact h b _ (Le.set hb _) (cells_at (set_same _ _ _) (by simp))
/-- What Parse answers. -/
theorem ContPR.mk {k u0 u1 u2 u3 e : Int} {a : Option Addr} {l c : Nat} {K : Int → Int → Int → Int → Int → Option Addr → Nat → Nat → Int → Mem → Prop} {Pn : List PanicEntry → Mem → Prop} {m : Mem} (h : K k u0 u1 u2 u3 a l c e m) :
    Cont (fun v m => UnTup v fun us0 => UnCons us0 fun w us1 => UnAgg w fun l => UnCons l fun v l => UnI v .i64 fun x0 => UnCons l fun v l => UnI v .u64 fun x1 => UnCons l fun v l => UnI v .u64 fun x2 => UnCons l fun v l => UnI v .u64 fun x3 => UnCons l fun v l => UnI v .u64 fun x4 => UnCons l fun v l => UnS v fun xa xl xc => UnNil l (
      UnCons us1 fun w us2 => UnI w .i64 fun e => UnNil us2 (K x0 x1 x2 x3 x4 xa xl xc e m))) Pn
      (.returned (.tuple #[.agg #[.int .i64 k, .int .u64 u0, .int .u64 u1, .int .u64 u2, .int .u64 u3, .slice a l c], .int .i64 e])) m := h
/-- Parse told at once: what it answers, as an expression with a word why not. -/
def prs (l : List UInt8) : Rx × Int := match parse l with | .ok x => (x, 0) | .error e => (rx0, e)
theorem bstr_beq (a b : List UInt8) : ((bstr a).toList == (bstr b).toList) = (a == b) := by
  rw [Bool.eq_iff_iff, beq_iff_eq, beq_iff_eq, ByteArray.toList_eq, ByteArray.toList_eq]
  exact Iff.rfl
theorem Made_spec {B m : Mem} {la : Option Addr} {cap : Nat} {ps : List UInt8} (hB : Le B m) (hc : CellsAt B la (u8s ps)) (hl : ps.length ≤ 1000000) {R : Ending → Mem → Prop} (h : ∀ m' r, Le m m' → m r = none → Pk B m' r ps → R (.returned (.pointer (some ⟨r, 0, none⟩))) m') :
    HC P eyotplay_Made.id #[.slice la ps.length cap] m R := by
  refine eyotplay_Made.ok _ _ _ _ _ ?_
  intro r hr
  refine h _ r (Le.set hr _) hr ⟨la, cap, ps, 0, set_same _ _ _, hc, le_wo (hB.trans (Le.set hr _)) (fun b e => by rw [show b = r from e]; exact hB.new hr), by omega, hl, by simp⟩
/-- An expression made of numbers. -/
theorem made_rx {B m : Mem} {la : Option Addr} {cap d : Nat} {ps : List UInt8} (hB : Le B m) (hc : CellsAt B la (u8s ps)) (hl : ps.length ≤ 1000000) (hd : d ≤ 1000) {R : Ending → Mem → Prop} {Pn : List PanicEntry → Mem → Prop}
    (h : ∀ m' a l c, Le m m' → ArgC m' (prx d ps).1 (.slice a l c) → R (.returned (rxA (prx d ps).1.k (prx d ps).1.S (.slice a l c))) m') :
    HC P eyotplay_Made.id #[.slice la ps.length cap] m (Cont (fun v m2 => UnP v fun x => HC P eyotplay_Picks_Rx.id #[.pointer x, .int .i64 (d : Int)] m2 R) Pn) := by
  refine Made_spec hB hc hl ?_
  intro m1 r hle1 hr hp
  dsimp only [Cont]
  refine UnP.mk ?_
  refine prx_spec d hd hp ?_
  intro m2 v hch hp2 hv
  obtain ⟨a, l, c, rfl⟩ := hv.sl
  exact h m2 a l c (hch.to_le hle1 (fun b e => by rw [show b = r from e]; exact hr)) (hv.le (on_le _ _))
/-- A result in a place of its own. -/
theorem own6 {m : Mem} {k : Int} {S : Nat → Bool} {a : Option Addr} {l c : Nat} {x0 x1 x2 x3 x4 x5 : Value} {K : Nat → Mem → Prop}
    (h : ∀ b m1, m b = none → Le m m1 → m1 b = some (.cells (rxO k S (.slice a l c)) T_api_Rx (0, 0)) → K b m1) :
    NewC m #[x0, x1, x2, x3, x4, x5] T_api_Rx fun b m1 => St1 m1 b 0 (.int .i64 k) fun m2 => St1 m2 b 1 (.int .u64 (L S 0)) fun m3 => St1 m3 b 2 (.int .u64 (L S 1)) fun m4 => St1 m4 b 3 (.int .u64 (L S 2)) fun m5 => St1 m5 b 4 (.int .u64 (L S 3)) fun m6 => St1 m6 b 5 (.slice a l c) fun m7 => K b m7 := copyRx h
theorem begun_spec {m : Mem} (hG : Glob m) {R : Ending → Mem → Prop} (k : ∀ m', Le m m' → R (.returned (.bool true)) m') : HC P eyotlaw9_begun.id #[] m R := by
  refine eyotlaw9_begun.ok _ _ ?_
  have hl : lst (ByteArray.mk #[97, 40, 98, 124, 99, 41, 42]) = bgT := rfl
  refine Parse_ok hG (by decide) (fun x hx m1 v hle1 hv => ?_) (fun e he => by rw [hl, bg_parse] at he; cases he)
  rw [hl, bg_parse] at hx
  cases hx
  obtain ⟨a, l, c, rfl⟩ := hv.sl
  refine ContPR.mk ?_
  refine own6 ?_
  intro b m8 hb hle8 h8
  have hv8 := hv.le hle8
  refine BrEt rfl ?_
  refine get6 h8 ?_
  have hnod : nodes bgR ≤ 1000 := by decide +kernel
  refine Show_ok bgR hv8 (by omega) (by rw [bg_show]; decide) ?_
  intro m9 hle9
  dsimp only [Cont]
  refine UnStr.mk ?_
  rw [bg_show]
  refine Br.t (by show ((bstr bgT).toList == (bstr bgT).toList) = true; rw [bstr_beq]; simp) ?_
  have h9 := hle9 _ _ h8
  refine get6 h9 ?_
  refine May_spec (hv8.le hle9) (by omega) ?_
  intro m10 hle10
  dsimp only [Cont]
  refine UnI.mk ?_
  refine BrEt bg_may ?_
  have h10 := hle10 _ _ h9
  have hv10 := (hv8.le hle9).le hle10
  refine get6 h10 ?_
  refine Null_spec bgR hv10 ?_
  intro m11 hle11
  dsimp only [Cont]
  refine UnB.mk ?_
  rw [bg_null]
  refine Br.t rfl ?_
  have h11 := hle11 _ _ h10
  have hv11 := hv10.le hle11
  refine get6 h11 ?_
  refine lit_bytes (bs := [97, 98, 99]) ?_
  intro bb m13 hle13 hc13
  refine In_spec (w := [97, 98, 99]) (hv11.le hle13) (by omega) hc13 (by decide) ?_
  intro m14 hle14
  dsimp only [Cont]
  refine UnB.mk ?_
  rw [bg_in.1]
  refine Br.t rfl ?_
  have h14 := hle14 _ _ (hle13 _ _ h11)
  have hv14 := (hv11.le hle13).le hle14
  refine get6 h14 ?_
  refine lit_bytes (bs := [98]) ?_
  intro bb m16 hle16 hc16
  refine In_spec (w := [98]) (hv14.le hle16) (by omega) hc16 (by decide) ?_
  intro m17 hle17
  dsimp only [Cont]
  refine UnB.mk ?_
  rw [bg_in.2]
  exact k m17 (((((hle1.trans hle8).trans (hle9.trans hle10)).trans (hle11.trans hle13)).trans (hle14.trans hle16)).trans hle17)
end Go.E.Rg
set_option linter.unusedVariables false
set_option maxRecDepth 100000
namespace Go.E
open Go.H
noncomputable section
/-! ### eyot/eyotlaw9.RegexEmpty -/
namespace eyotlaw9_RegexEmpty
noncomputable def fn : Func := Go.Proofs.Tryd.f12
noncomputable def body : Code := fn.body.getD .skip
def od : Nat → Ord := fun _ => .done
def tb : Nat → Tab := fun _ => (0, [], [])
def e0 (a_0a : Option Addr) (a_0l : Nat) (a_0c : Nat) (R : Ending → Mem → Prop) (m : Mem) : Prop :=
 HC P eyotlaw9_begun.id #[] m (Cont (fun v m1 =>
   UnB v fun x8 =>
   Br (!x8) (
    R (.returned (.bool false)) m1) (
    Br (decide (((a_0l : Nat) : Int) > 20)) (
     R (.returned (.bool true)) m1) (
     HC P eyotplay_Made.id #[.slice a_0a a_0l a_0c] m1 (Cont (fun v m2 =>
       UnP v fun x14 =>
       HC P eyotplay_Picks_Rx.id #[.pointer x14, .int .i64 2] m2 (Cont (fun v m3 =>
        UnAgg v fun l =>
        UnCons l fun v l =>
        UnI v .i64 fun x15_0 =>
        UnCons l fun v l =>
        UnI v .u64 fun x15_1 =>
        UnCons l fun v l =>
        UnI v .u64 fun x15_2 =>
        UnCons l fun v l =>
        UnI v .u64 fun x15_3 =>
        UnCons l fun v l =>
        UnI v .u64 fun x15_4 =>
        UnCons l fun v l =>
        UnS v fun x15_5a x15_5l x15_5c =>
        UnNil l (
        NewC m3 #[.int .i64 0, .int .u64 0, .int .u64 0, .int .u64 0, .int .u64 0, .slice none 0 0] T_api_Rx fun b_x_3 m4 =>
        St1 m4 b_x_3 0 (.int .i64 x15_0) fun m5 =>
        St1 m5 b_x_3 1 (.int .u64 x15_1) fun m6 =>
        St1 m6 b_x_3 2 (.int .u64 x15_2) fun m7 =>
        St1 m7 b_x_3 3 (.int .u64 x15_3) fun m8 =>
        St1 m8 b_x_3 4 (.int .u64 x15_4) fun m9 =>
        St1 m9 b_x_3 5 (.slice x15_5a x15_5l x15_5c) fun m10 =>
        LdV m10 b_x_3 0 fun v =>
        UnI v .i64 fun x16_0 =>
        LdV m10 b_x_3 1 fun v =>
        UnI v .u64 fun x16_1 =>
        LdV m10 b_x_3 2 fun v =>
        UnI v .u64 fun x16_2 =>
        LdV m10 b_x_3 3 fun v =>
        UnI v .u64 fun x16_3 =>
        LdV m10 b_x_3 4 fun v =>
        UnI v .u64 fun x16_4 =>
        LdV m10 b_x_3 5 fun v =>
        UnS v fun x16_5a x16_5l x16_5c =>
        HC P eyotref8_May.id #[.agg #[.int .i64 x16_0, .int .u64 x16_1, .int .u64 x16_2, .int .u64 x16_3, .int .u64 x16_4, .slice x16_5a x16_5l x16_5c]] m10 (Cont (fun v m11 =>
        UnI v .i64 fun x17 =>
        Br (x17 != 0) (
        R (.returned (.bool true)) m11) (
        LdV m11 b_x_3 0 fun v =>
        UnI v .i64 fun x19_0 =>
        LdV m11 b_x_3 1 fun v =>
        UnI v .u64 fun x19_1 =>
        LdV m11 b_x_3 2 fun v =>
        UnI v .u64 fun x19_2 =>
        LdV m11 b_x_3 3 fun v =>
        UnI v .u64 fun x19_3 =>
        LdV m11 b_x_3 4 fun v =>
        UnI v .u64 fun x19_4 =>
        LdV m11 b_x_3 5 fun v =>
        UnS v fun x19_5a x19_5l x19_5c =>
        HC P regex_Null.id #[.agg #[.int .i64 x19_0, .int .u64 x19_1, .int .u64 x19_2, .int .u64 x19_3, .int .u64 x19_4, .slice x19_5a x19_5l x19_5c]] m11 (Cont (fun v m12 =>
        UnB v fun x20 =>
        LdV m12 b_x_3 0 fun v =>
        UnI v .i64 fun x22_0 =>
        LdV m12 b_x_3 1 fun v =>
        UnI v .u64 fun x22_1 =>
        LdV m12 b_x_3 2 fun v =>
        UnI v .u64 fun x22_2 =>
        LdV m12 b_x_3 3 fun v =>
        UnI v .u64 fun x22_3 =>
        LdV m12 b_x_3 4 fun v =>
        UnI v .u64 fun x22_4 =>
        LdV m12 b_x_3 5 fun v =>
        UnS v fun x22_5a x22_5l x22_5c =>
        HC P regex_In.id #[.agg #[.int .i64 x22_0, .int .u64 x22_1, .int .u64 x22_2, .int .u64 x22_3, .int .u64 x22_4, .slice x22_5a x22_5l x22_5c], .slice none 0 0] m12 (Cont (fun v m13 =>
        UnB v fun x23 =>
        Br (!(x20 == x23)) (
        R (.returned (.bool false)) m13) (
        LdV m13 b_x_3 0 fun v =>
        UnI v .i64 fun x26 =>
        Br (decide (x26 ≥ 4)) (
        LdV m13 b_x_3 0 fun v =>
        UnI v .i64 fun x30 =>
        Br (x30 != 5) (
        R (.returned (.bool (x20 == true))) m13) (
        LdV m13 b_x_3 5 fun v =>
        UnS v fun x34a x34l x34c =>
        IxS x34a x34l 0 6 fun x35b x35o =>
        LdV m13 x35b x35o fun v =>
        UnI v .i64 fun x36_0 =>
        LdV m13 x35b (x35o + 1) fun v =>
        UnI v .u64 fun x36_1 =>
        LdV m13 x35b (x35o + 2) fun v =>
        UnI v .u64 fun x36_2 =>
        LdV m13 x35b (x35o + 3) fun v =>
        UnI v .u64 fun x36_3 =>
        LdV m13 x35b (x35o + 4) fun v =>
        UnI v .u64 fun x36_4 =>
        LdV m13 x35b (x35o + 5) fun v =>
        UnS v fun x36_5a x36_5l x36_5c =>
        HC P regex_Null.id #[.agg #[.int .i64 x36_0, .int .u64 x36_1, .int .u64 x36_2, .int .u64 x36_3, .int .u64 x36_4, .slice x36_5a x36_5l x36_5c]] m13 (Cont (fun v m14 =>
        UnB v fun x37 =>
        R (.returned (.bool (x20 == x37))) m14) (panicR R)))) (
        LdV m13 b_x_3 0 fun v =>
        UnI v .i64 fun x40_0 =>
        LdV m13 b_x_3 1 fun v =>
        UnI v .u64 fun x40_1 =>
        LdV m13 b_x_3 2 fun v =>
        UnI v .u64 fun x40_2 =>
        LdV m13 b_x_3 3 fun v =>
        UnI v .u64 fun x40_3 =>
        LdV m13 b_x_3 4 fun v =>
        UnI v .u64 fun x40_4 =>
        LdV m13 b_x_3 5 fun v =>
        UnS v fun x40_5a x40_5l x40_5c =>
        NewC m13 #[.int .i64 x40_0, .int .u64 x40_1, .int .u64 x40_2, .int .u64 x40_3, .int .u64 x40_4, .slice x40_5a x40_5l x40_5c] T_api_Rx fun b41 m14 =>
        NewC m14 #[.int .i64 0, .int .u64 0, .int .u64 0, .int .u64 0, .int .u64 0, .slice none 0 0] T_api_Rx fun b_star_5 m15 =>
        St1 m15 b_star_5 0 (.int .i64 4) fun m16 =>
        St1 m16 b_star_5 1 (.int .u64 0) fun m17 =>
        St1 m17 b_star_5 2 (.int .u64 0) fun m18 =>
        St1 m18 b_star_5 3 (.int .u64 0) fun m19 =>
        St1 m19 b_star_5 4 (.int .u64 0) fun m20 =>
        St1 m20 b_star_5 5 (.slice (some ⟨b41, 0, none⟩) 1 1) fun m21 =>
        LdV m21 b_x_3 0 fun v =>
        UnI v .i64 fun x43_0 =>
        LdV m21 b_x_3 1 fun v =>
        UnI v .u64 fun x43_1 =>
        LdV m21 b_x_3 2 fun v =>
        UnI v .u64 fun x43_2 =>
        LdV m21 b_x_3 3 fun v =>
        UnI v .u64 fun x43_3 =>
        LdV m21 b_x_3 4 fun v =>
        UnI v .u64 fun x43_4 =>
        LdV m21 b_x_3 5 fun v =>
        UnS v fun x43_5a x43_5l x43_5c =>
        NewC m21 #[.int .i64 x43_0, .int .u64 x43_1, .int .u64 x43_2, .int .u64 x43_3, .int .u64 x43_4, .slice x43_5a x43_5l x43_5c] T_api_Rx fun b44 m22 =>
        NewC m22 #[.int .i64 0, .int .u64 0, .int .u64 0, .int .u64 0, .int .u64 0, .slice none 0 0] T_api_Rx fun b_plus_6 m23 =>
        St1 m23 b_plus_6 0 (.int .i64 5) fun m24 =>
        St1 m24 b_plus_6 1 (.int .u64 0) fun m25 =>
        St1 m25 b_plus_6 2 (.int .u64 0) fun m26 =>
        St1 m26 b_plus_6 3 (.int .u64 0) fun m27 =>
        St1 m27 b_plus_6 4 (.int .u64 0) fun m28 =>
        St1 m28 b_plus_6 5 (.slice (some ⟨b44, 0, none⟩) 1 1) fun m29 =>
        LdV m29 b_x_3 0 fun v =>
        UnI v .i64 fun x46_0 =>
        LdV m29 b_x_3 1 fun v =>
        UnI v .u64 fun x46_1 =>
        LdV m29 b_x_3 2 fun v =>
        UnI v .u64 fun x46_2 =>
        LdV m29 b_x_3 3 fun v =>
        UnI v .u64 fun x46_3 =>
        LdV m29 b_x_3 4 fun v =>
        UnI v .u64 fun x46_4 =>
        LdV m29 b_x_3 5 fun v =>
        UnS v fun x46_5a x46_5l x46_5c =>
        NewC m29 #[.int .i64 x46_0, .int .u64 x46_1, .int .u64 x46_2, .int .u64 x46_3, .int .u64 x46_4, .slice x46_5a x46_5l x46_5c] T_api_Rx fun b47 m30 =>
        NewC m30 #[.int .i64 0, .int .u64 0, .int .u64 0, .int .u64 0, .int .u64 0, .slice none 0 0] T_api_Rx fun b_opt_7 m31 =>
        St1 m31 b_opt_7 0 (.int .i64 6) fun m32 =>
        St1 m32 b_opt_7 1 (.int .u64 0) fun m33 =>
        St1 m33 b_opt_7 2 (.int .u64 0) fun m34 =>
        St1 m34 b_opt_7 3 (.int .u64 0) fun m35 =>
        St1 m35 b_opt_7 4 (.int .u64 0) fun m36 =>
        St1 m36 b_opt_7 5 (.slice (some ⟨b47, 0, none⟩) 1 1) fun m37 =>
        LdV m37 b_star_5 0 fun v =>
        UnI v .i64 fun x49_0 =>
        LdV m37 b_star_5 1 fun v =>
        UnI v .u64 fun x49_1 =>
        LdV m37 b_star_5 2 fun v =>
        UnI v .u64 fun x49_2 =>
        LdV m37 b_star_5 3 fun v =>
        UnI v .u64 fun x49_3 =>
        LdV m37 b_star_5 4 fun v =>
        UnI v .u64 fun x49_4 =>
        LdV m37 b_star_5 5 fun v =>
        UnS v fun x49_5a x49_5l x49_5c =>
        HC P regex_Null.id #[.agg #[.int .i64 x49_0, .int .u64 x49_1, .int .u64 x49_2, .int .u64 x49_3, .int .u64 x49_4, .slice x49_5a x49_5l x49_5c]] m37 (Cont (fun v m38 =>
        UnB v fun x50 =>
        Br x50 (
        LdV m38 b_opt_7 0 fun v =>
        UnI v .i64 fun x52_0 =>
        LdV m38 b_opt_7 1 fun v =>
        UnI v .u64 fun x52_1 =>
        LdV m38 b_opt_7 2 fun v =>
        UnI v .u64 fun x52_2 =>
        LdV m38 b_opt_7 3 fun v =>
        UnI v .u64 fun x52_3 =>
        LdV m38 b_opt_7 4 fun v =>
        UnI v .u64 fun x52_4 =>
        LdV m38 b_opt_7 5 fun v =>
        UnS v fun x52_5a x52_5l x52_5c =>
        HC P regex_Null.id #[.agg #[.int .i64 x52_0, .int .u64 x52_1, .int .u64 x52_2, .int .u64 x52_3, .int .u64 x52_4, .slice x52_5a x52_5l x52_5c]] m38 (Cont (fun v m39 =>
        UnB v fun x53 =>
        Br x53 (
        LdV m39 b_plus_6 0 fun v =>
        UnI v .i64 fun x56_0 =>
        LdV m39 b_plus_6 1 fun v =>
        UnI v .u64 fun x56_1 =>
        LdV m39 b_plus_6 2 fun v =>
        UnI v .u64 fun x56_2 =>
        LdV m39 b_plus_6 3 fun v =>
        UnI v .u64 fun x56_3 =>
        LdV m39 b_plus_6 4 fun v =>
        UnI v .u64 fun x56_4 =>
        LdV m39 b_plus_6 5 fun v =>
        UnS v fun x56_5a x56_5l x56_5c =>
        HC P regex_Null.id #[.agg #[.int .i64 x56_0, .int .u64 x56_1, .int .u64 x56_2, .int .u64 x56_3, .int .u64 x56_4, .slice x56_5a x56_5l x56_5c]] m39 (Cont (fun v m40 =>
        UnB v fun x57 =>
        R (.returned (.bool (x57 == x20))) m40) (panicR R))) (
        R (.returned (.bool false)) m39)) (panicR R))) (
        R (.returned (.bool false)) m38)) (panicR R))))) (panicR R))) (panicR R)))) (panicR R)))) (panicR R))) (panicR R))))) (panicR R))
noncomputable def e0A (R : Ending → Mem → Prop) : ACode := (.code (body))
theorem e0_eq (a_0a : Option Addr) (a_0l : Nat) (a_0c : Nat) (R : Ending → Mem → Prop) (m : Mem) : e0 a_0a a_0l a_0c R m = acpt P od (panicR R) (e0A R) (bodyQ P fn R) (argE (#[.slice a_0a a_0l a_0c] : Array Value).toList) m := by kernel_rfl
theorem ok (a_0a : Option Addr) (a_0l : Nat) (a_0c : Nat) (R : Ending → Mem → Prop) (m : Mem) (h : e0 a_0a a_0l a_0c R m) : HC P id #[.slice a_0a a_0l a_0c] m R := by
  refine HC_of (fn := fn) (c := body) (od := od) (tb := tb) Go.Proofs.Tryd.func12 (by kernel_rfl) (by kernel_rfl) follows (by kernel_rfl) (of_decide_eq_true (by kernel_rfl)) ?_
  have he : (e0A R).erase = body := by kernel_rfl
  rw [← he]
  refine acpt_sound (P := P) (e0A R) _ _ _ True.intro ?_
  exact Eq.mp (e0_eq a_0a a_0l a_0c R m) h
end eyotlaw9_RegexEmpty
end
end Go.E
set_option linter.unusedVariables false
set_option linter.unusedSimpArgs false
set_option maxRecDepth 20000
namespace Go.E.Rg
open Go.H Go.E
attribute [local irreducible] BiN MkS ConvN LookN MapUpN CallV HC limb dbTab
theorem boxC {m : Mem} {b : Nat} {k : Int} {S : Nat → Bool} {x : Rx} {v : Value} {e : TypeId} {fr : Nat × Nat} (h : m b = some (.cells #[.int .i64 x.k, .int .u64 (L x.S 0), .int .u64 (L x.S 1), .int .u64 (L x.S 2), .int .u64 (L x.S 3), v] e fr)) (hv : ArgC m x v) : ArgC m (.mk k S [x]) (.slice (some ⟨b, 0, none⟩) 1 1) := by
  have := ArgC.mk (m := m) (k := k) (S := S) (prs := [(x, v)]) (a := some ⟨b, 0, none⟩) (c := 1) (by simp) (by simp) (cells_at h (by simp [rxRow])) (fun p hp => by
    have : p = (x, v) := by simpa using hp
    subst this; exact hv)
  exact this
theorem own6z {m : Mem} {k : Int} {a : Option Addr} {l c : Nat} {x0 x1 x2 x3 x4 x5 : Value} {K : Nat → Mem → Prop}
    (h : ∀ b m1, m b = none → Le m m1 → m1 b = some (.cells (rxO k noS (.slice a l c)) T_api_Rx (0, 0)) → K b m1) :
    NewC m #[x0, x1, x2, x3, x4, x5] T_api_Rx fun b m1 => St1 m1 b 0 (.int .i64 k) fun m2 => St1 m2 b 1 (.int .u64 0) fun m3 => St1 m3 b 2 (.int .u64 0) fun m4 => St1 m4 b 3 (.int .u64 0) fun m5 => St1 m5 b 4 (.int .u64 0) fun m6 => St1 m6 b 5 (.slice a l c) fun m7 => K b m7 := by
  have key := own6 (m := m) (k := k) (S := noS) (a := a) (l := l) (c := c) (x0 := x0) (x1 := x1) (x2 := x2) (x3 := x3) (x4 := x4) (x5 := x5) h
  rw [noS_L, noS_L, noS_L, noS_L] at key
  exact key
theorem newBox {m : Mem} {x : Rx} {a : Option Addr} {l c : Nat} {K : Nat → Mem → Prop} (h : ∀ b m1, m b = none → Le m m1 → m1 b = some (.cells #[.int .i64 x.k, .int .u64 (L x.S 0), .int .u64 (L x.S 1), .int .u64 (L x.S 2), .int .u64 (L x.S 3), .slice a l c] T_api_Rx (0, 0)) → K b m1) :
    NewC m #[.int .i64 x.k, .int .u64 (L x.S 0), .int .u64 (L x.S 1), .int .u64 (L x.S 2), .int .u64 (L x.S 3), .slice a l c] T_api_Rx K := fun b hb => h b _ hb (Le.set hb _) (set_same _ _ _)
theorem RegexEmpty_m {la : Option Addr} {c : Nat} {ps : List UInt8} {m : Mem} (hG : Glob m) (hc : CellsAt m la (u8s ps)) : HC P eyotlaw9_RegexEmpty.id #[.slice la ps.length c] m (Fine m) := by
  refine eyotlaw9_RegexEmpty.ok _ _ _ _ _ ?_
  refine begun_spec hG ?_
  intro m1 hle1
  dsimp only [Cont]
  refine UnB.mk ?_
  refine Br.f rfl ?_
  refine BrD (fun _ => ⟨rfl, hle1⟩) (fun hs => ?_)
  refine made_rx (d := 2) hle1 hc (by omega) (by decide) ?_
  intro m3 a l c hle3 hv
  have hn := prx_nodes 2 ps
  generalize (prx 2 ps).1 = r at hv hn ⊢
  refine ContRx.mk ?_
  refine own6 ?_
  intro b m10 hb hle10 h10
  have hv10 := hv.le hle10
  have hle := (hle1.trans hle3).trans hle10
  refine get6 h10 ?_
  refine RMay_spec hv10 (by omega) ?_
  intro m11 hle11
  dsimp only [Cont]
  refine UnI.mk ?_
  refine BrN (fun _ => ⟨rfl, hle.trans hle11⟩) (fun h0 => ?_)
  have hf := (may_form h0).1
  have h11 := hle11 _ _ h10
  have hv11 := hv10.le hle11
  refine get6 h11 ?_
  refine Null_spec r hv11 ?_
  intro m12 hle12
  dsimp only [Cont]
  refine UnB.mk ?_
  refine get6 (hle12 _ _ h11) ?_
  refine In_spec (w := []) (hv11.le hle12) (by omega) (CellsAt.empty _ _) (by simp) ?_
  intro m13 hle13
  dsimp only [Cont]
  refine UnB.mk ?_
  have hni := null_in h0
  refine Br.f (by rw [hni]; simp) ?_
  have hle13' := hle12.trans hle13
  have h13 := hle13' _ _ h11
  have hv13 := hv11.le hle13'
  have hl0 := (hle.trans hle11).trans hle13'
  refine LdV.s0 h13 (UnI.mk ?_)
  refine BrD (fun h4 => ?_) (fun h4 => ?_)
  · obtain ⟨k, S, qs⟩ := r
    obtain ⟨x, rfl, hnull⟩ := null_sign hf h4
    rw [hnull]
    refine LdV.s0 h13 (UnI.mk ?_)
    refine BrN (fun h5 => ⟨?_, hl0⟩) (fun h5 => ?_)
    · have h5' : k ≠ 5 := h5
      rw [decide_eq_true h5']; rfl
    have h5 : k = 5 := h5
    obtain ⟨pr, a', c', hps, he, h1, h2, hcc, hpp⟩ := hv13.inv
    obtain ⟨p, rfl⟩ : ∃ p, pr = [p] := by
      have := congrArg List.length hps
      rw [List.length_map] at this
      exact List.length_eq_one_iff.mp this.symm
    have hxp : x = p.1 := by simpa using hps
    subst hxp
    cases he
    obtain ⟨a2, l2, c2, hv2⟩ := (hpp p (by simp)).sl
    refine LdV.s5 h13 (UnS.mk ?_)
    refine IxS.rx6 (prs := [p]) hcc (j := 0) (by simp) hv2 ?_
    have hp2 := hpp p (by simp)
    rw [hv2] at hp2
    refine Null_spec p.1 hp2 ?_
    intro m14 hle14
    dsimp only [Cont]
    refine UnB.mk ?_
    refine ⟨?_, hl0.trans hle14⟩
    rw [decide_eq_false (fun h => h h5)]; simp
  · refine get6 h13 ?_
    refine newBox ?_
    intro b41 m14 hb41 hle14 h41
    refine own6z ?_
    intro bs m21 hbs hle21 hsS
    have l21 := hle14.trans hle21
    refine get6 (l21 _ _ h13) ?_
    refine newBox ?_
    intro b44 m22 hb44 hle22 h44
    refine own6z ?_
    intro bp m29 hbp hle29 hpS
    have l29 := (l21.trans hle22).trans hle29
    refine get6 (l29 _ _ h13) ?_
    refine newBox ?_
    intro b47 m30 hb47 hle30 h47
    refine own6z ?_
    intro bo m37 hbo hle37 hoS
    have l37 := (l29.trans hle30).trans hle37
    have hv37 := hv13.le l37
    have e1 : ArgC m37 (.mk 4 noS [r]) (.slice (some ⟨b41, 0, none⟩) 1 1) := boxC ((((hle21.trans hle22).trans hle29).trans (hle30.trans hle37)) _ _ h41) hv37
    have e2 : ArgC m37 (.mk 5 noS [r]) (.slice (some ⟨b44, 0, none⟩) 1 1) := boxC ((hle29.trans (hle30.trans hle37)) _ _ h44) hv37
    have e3 : ArgC m37 (.mk 6 noS [r]) (.slice (some ⟨b47, 0, none⟩) 1 1) := boxC (hle37 _ _ h47) hv37
    obtain ⟨n4, n6, n5⟩ := @null_of 4 r
    refine get6 ((((hle22.trans hle29).trans (hle30.trans hle37))) _ _ hsS) ?_
    refine Null_spec (.mk 4 noS [r]) e1 ?_
    intro m38 hle38
    dsimp only [Cont]
    refine UnB.mk ?_
    rw [n4]
    refine Br.t rfl ?_
    refine get6 (hle38 _ _ hoS) ?_
    refine Null_spec (.mk 6 noS [r]) (e3.le hle38) ?_
    intro m39 hle39
    dsimp only [Cont]
    refine UnB.mk ?_
    rw [n6]
    refine Br.t rfl ?_
    refine get6 (((hle30.trans hle37).trans (hle38.trans hle39)) _ _ hpS) ?_
    refine Null_spec (.mk 5 noS [r]) (e2.le (hle38.trans hle39)) ?_
    intro m40 hle40
    dsimp only [Cont]
    refine UnB.mk ?_
    rw [n5]
    refine ⟨by simp, ((hl0.trans l37).trans (hle38.trans hle39)).trans hle40⟩
end Go.E.Rg
namespace Go.E
open Go.H Go.E.Rg
theorem RegexEmpty_arg {W : World} {v : Value} (hG : Glob (heapM W)) (h : Arg P W T_sl_uint8 v) : HC P eyotlaw9_RegexEmpty.id #[v] (heapM W) (Fine (heapM W)) := by
  obtain ⟨a, l, c, bs2, rfl, hlc, hl2, hc, hc2⟩ := h.u8s (e := T_uint8) (by kernel_rfl) (by kernel_rfl)
  have e : (bs2.take l).length = l := by rw [List.length_take]; omega
  have := RegexEmpty_m (c := c) hG hc2
  rw [e] at this
  exact this
end Go.E
