import Derived.Test.YthkfeojdbneneaaLW
set_option linter.unusedVariables false
namespace Go.E
open Go.H

theorem begun_spec {m : Mem} {R : Ending → Mem → Prop} (h : ∀ m', Le m m' → R (.returned (.bool true)) m') : HC P eyotlaw3_begun.id #[] m R := by
  refine eyotlaw3_begun.ok _ _ ?_
  intro b6 hb6
  refine New_spec (bs := [1, 2, 3]) (cells_at (set_same _ _ _) rfl) rfl (fun h => by simp at h) ?_
  intro _ _ _ bp F m2 hle hF hp
  have hle2 : Le m m2 := (Le.set hb6 _).trans hle
  have hF2 : ∀ b, F b → m b = none := fun b hb => (Le.set hb6 _).new (hF b hb)
  refine BrNf rfl ?_
  refine Br.f rfl ?_
  refine Read_in hp (i := 1) (by decide) (by decide) (by decide) (fun e => by cases e) ?_
  intro _ F' m3 a' c' hch hF' hp3 ho hfr hn
  have hle3 : Le m m3 := hch.to_le hle2 hF2
  have hpg : pg [1, 2, 3] 2 1 = [3] := by decide
  rw [hpg] at ho
  rw [hpg]
  refine BrEt rfl ?_
  refine BrEt (by simp) ?_
  refine IxS.u8s ho.cells (by simp) (by simp) (by simp) ?_
  intro x hx
  cases hx
  refine BrEt rfl ?_
  refine Count_spec hp3 ?_
  intro m4 hle4
  refine BrEt (by decide) ?_
  refine Len_spec (hp3.le hle4) ?_
  intro m5 hle5
  refine BrEt rfl ?_
  refine Reads_spec ((hp3.le hle4).le hle5) (by simp) ?_
  intro ra rc m6 hle6 _ _
  exact h m6 (hle3.trans (hle4.trans (hle5.trans hle6)))

theorem tmod_bnd {x n : Int} (hx : 0 ≤ x) (hn : 0 < n) : Int.tmod x n = x % n ∧ 0 ≤ x % n ∧ x % n < n :=
  ⟨Int.tmod_eq_emod_of_nonneg hx, Int.emod_nonneg _ (by omega), Int.emod_lt_of_pos _ hn⟩

theorem pg_get (bs : List UInt8) {size i : Int} {j : Nat} (hj : (j : Int) < size) : (pg bs size i)[j]? = bs[(i * size).toNat + j]? := by
  unfold pg
  rw [List.getElem?_take, if_pos (by omega), List.getElem?_drop]

theorem PageBytes_spec {m : Mem} {a : Option Addr} {l c : Nat} {bs : List UInt8} (hc : CellsAt m a (u8s bs)) (hl : bs.length = l) (a1 a2 : Int) (h10 : 0 ≤ a1) (h11 : a1 < 256) (h20 : 0 ≤ a2) (h21 : a2 < 65536) :
    HC P eyotlaw3_PageBytes.id #[.slice a l c, .int .u8 a1, .int .u16 a2] m (fun e m' => e = .returned (.bool true) ∧ Le m m') := by
  refine eyotlaw3_PageBytes.ok _ _ _ _ _ _ _ ?_
  refine begun_spec ?_
  intro m1 hle1
  refine Br.f rfl ?_
  refine BrE (fun _ => ⟨rfl, hle1⟩) (fun hl0 => ?_)
  refine BrD (fun _ => ⟨rfl, hle1⟩) (fun hl1 => ?_)
  have hb40 := tmod_bnd (x := a1) (n := 40) h10 (by decide)
  have hat := tmod_bnd (x := a2) (n := (l : Nat)) h20 (by omega)
  rw [wi (n := a1) (by omega) (by omega), wi (n := a2) (by omega) (by omega), hb40.1, hat.1, wi (n := 1 + a1 % 40) (by omega) (by omega)]
  have s1 : 1 ≤ 1 + a1 % 40 := by omega
  have s2 : 1 + a1 % 40 ≤ 40 := by omega
  obtain ⟨_, at0, at1⟩ := hat
  generalize 1 + a1 % 40 = size at s1 s2
  generalize a2 % ((l : Nat) : Int) = k at at0 at1
  clear hb40
  have hoff := tmod_bnd (x := k) (n := size) at0 (by omega)
  have hdiv : Int.tdiv k size = k / size := Int.tdiv_eq_ediv_of_nonneg at0
  have hd0 : 0 ≤ k / size := Int.ediv_nonneg at0 (by omega)
  have hdm := Int.mul_ediv_add_emod k size
  have hdk : k / size ≤ k := Int.ediv_le_self size at0
  have hm0 : 0 ≤ k / size * size := Int.mul_nonneg hd0 (by omega)
  have hcm : k / size * size = size * (k / size) := Int.mul_comm _ _
  rw [hdiv, hoff.1, wi (n := k / size) (by omega) (by omega)]
  refine New_spec (CellsAt.le hle1 hc) hl (fun h => by omega) ?_
  intro _ _ _ bp F m2 hle2 hF2 hp2
  have hle02 := hle1.trans hle2
  have hF02 : ∀ b, F b → m b = none := fun b e => hle1.new (hF2 b e)
  refine BrNf rfl ?_
  refine Br.f rfl ?_
  refine NzI.mk (by omega) ?_
  refine NzI.mk (by omega) ?_
  have hik : k / size * size ≤ k := by omega
  have hi : k / size < cnt bs.length size := (cnt_lt s1).mpr (by omega)
  refine Read_in hp2 hd0 hi (by simp) (fun e => by cases e) ?_
  intro _ F3 m3 pa pc hch3 hF3 hp3 ho3 hfr3 hn3
  have hle03 : Le m m3 := hch3.to_le hle02 hF02
  have hF03 : ∀ b, F3 b → m b = none := fun b e => (hF3 b e).elim (hF02 b) hle02.new
  refine Count_spec hp3 ?_
  intro m4 hle4
  refine Read_out (hp3.le hle4) (.inr (Int.le_refl _)) ?_
  intro m5 hle5
  refine Read_out ((hp3.le hle4).le hle5) (.inl (by decide)) ?_
  intro m6 hle6
  have hle36 := hle4.trans (hle5.trans hle6)
  refine ⟨m6, Le.refl _, ?_⟩
  refine BrEt rfl ?_
  refine NzI.mk (by omega) ?_
  have hgl : (pg bs size (k / size)).length = min size.toNat (bs.length - (k / size * size).toNat) := by simp [pg]
  have hol : k % size < (pg bs size (k / size)).length := by rw [hgl]; omega
  refine BrDt hol ?_
  refine NzI.mk (by omega) ?_
  refine IxS.u8s (CellsAt.le hle36 ho3.cells) rfl (by omega) hol ?_
  intro x hx
  refine IxS.u8s (CellsAt.le (hle03.trans hle36) hc) hl (by omega) (by omega) ?_
  intro y hy
  have hxy : x = y := by
    rw [pg_get _ (by omega)] at hx
    have e : (k / size * size).toNat + (k % size).toNat = k.toNat := by omega
    rw [e, hy] at hx
    cases hx; rfl
  subst hxy
  refine BrEt rfl ?_
  refine BrEt rfl ?_
  refine BrEt rfl ?_
  have hcl := cnt_le bs.length s1
  have hc1 : 1 ≤ cnt bs.length size := by omega
  have hmulc : (cnt bs.length size - 1) * size < bs.length := (cnt_lt s1).mp (by omega)
  have hmulc2 : ¬ cnt bs.length size * size < bs.length := fun h => absurd ((cnt_lt s1).mpr h) (by omega)
  have hm1 : (cnt bs.length size - 1) * size = cnt bs.length size * size - size := by rw [Int.sub_mul, Int.one_mul]
  refine Count_spec (((hp3.le hle4).le hle5).le hle6) ?_
  intro m8 hle8
  refine Lk.all hle8 ?_
  refine BrDt ?_ ?_
  · rw [wi (n := cnt bs.length size - 1) (by omega) (by omega), wi (n := (cnt bs.length size - 1) * size) (by omega) (by omega)]
    omega
  refine Count_spec ((((hp3.le hle4).le hle5).le hle6).le hle8) ?_
  intro m10 hle10
  refine Lk.all hle10 ?_
  refine BrDt ?_ ?_
  · rw [wi (n := cnt bs.length size * size) (by omega) (by omega)]
    omega
  refine Reads_spec (((((hp3.le hle4).le hle5).le hle6).le hle8).le hle10) (by simp) ?_
  intro ra rc m12 hle12 _ _
  refine Lk.all hle12 ?_
  exact ⟨rfl, hle03.trans (hle36.trans (hle8.trans (hle10.trans hle12)))⟩
end Go.E
