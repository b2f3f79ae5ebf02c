import Derived.Test.YthkfeojdbneneaaPG4
set_option linter.unusedVariables false
namespace Go.E
open Go.H

theorem pg_len (bs : List UInt8) (size i : Int) : (pg bs size i).length = min size.toNat (bs.length - (i * size).toNat) := by simp [pg]
theorem pg_take (bs : List UInt8) {size i : Int} (hi : 0 ≤ i) (hs : 0 ≤ size) : bs.take (i * size).toNat ++ pg bs size i = bs.take ((i + 1) * size).toNat := by
  have hm : 0 ≤ i * size := Int.mul_nonneg hi hs
  have e : ((i + 1) * size).toNat = (i * size).toNat + size.toNat := by
    rw [Int.add_mul, Int.one_mul]; omega
  rw [e, List.take_add]; rfl

theorem PageWhole_spec {m : Mem} {a : Option Addr} {l c : Nat} {bs : List UInt8} (hc : CellsAt m a (u8s bs)) (hl : bs.length = l) (a1 : Int) (h10 : 0 ≤ a1) (h11 : a1 < 256) :
    HC P eyotlaw3_PageWhole.id #[.slice a l c, .int .u8 a1] m (fun e m' => e = .returned (.bool true) ∧ Le m m') := by
  refine eyotlaw3_PageWhole.ok _ _ _ _ _ _ ?_
  refine begun_spec ?_
  intro m1 hle1
  refine Br.f rfl ?_
  refine BrD (fun _ => ⟨rfl, hle1⟩) (fun hl1 => ?_)
  have hb60 := tmod_bnd (x := a1) (n := 60) h10 (by decide)
  rw [wi (n := a1) (by omega) (by omega), hb60.1, wi (n := 1 + a1 % 60) (by omega) (by omega)]
  have s1 : 1 ≤ 1 + a1 % 60 := by omega
  have s2 : 1 + a1 % 60 ≤ 60 := by omega
  generalize 1 + a1 % 60 = size at s1 s2
  clear hb60
  refine New_spec (CellsAt.le hle1 hc) hl (fun h => by omega) ?_
  intro _ _ _ bp F m2 hle2 hF2 hp2
  have hle02 := hle1.trans hle2
  have hF02 : ∀ b, F b → m b = none := fun b e => hle1.new (hF2 b e)
  refine BrNf rfl ?_
  refine Br.f rfl ?_
  have hcl := cnt_le bs.length s1
  have hc0 := cnt_nn bs.length s1
  refine ⟨fun N x0a x0l x0c x5 x6 xa xl xc i mm => x0a = a ∧ x0l = l ∧ x0c = c ∧ x5 = size ∧ x6 = some ⟨bp, 0, none⟩ ∧ Le m mm ∧ 0 ≤ i ∧ i ≤ cnt bs.length size ∧ (N : Int) = cnt bs.length size - i ∧
    ∃ F' log, (∀ b, F' b → m b = none) ∧ (log.length : Int) = i ∧ Pg mm F' bp bs size (fun _ => false) log ∧ Own mm T_uint8 1 xa xl xc (u8s (bs.take (i * size).toNat)) ∧ Fresh m xa ∧ (∀ b, blk xa = some b → ¬ F' b),
    (cnt bs.length size).toNat, ⟨rfl, rfl, rfl, rfl, rfl, hle02, by omega, by omega, by omega, F, [], hF02, rfl, hp2, by simpa [u8s] using Own.nil m2 T_uint8 1, Fresh.none m, fun b e => by cases e⟩, ?_⟩
  rintro N x0a x0l x0c x5 x6 xa xl xc i mm ⟨rfl, rfl, rfl, rfl, rfl, hle, hi0, hi1, hN, F', log, hF', hlog, hp, ho, hfr, hn⟩
  have hxl : xl = min (i * x5).toNat bs.length := by have := ho.1; simp [u8s] at this; omega
  -- what comes at the end
  have fin : ∀ mz, Le mm mz → ¬ i < cnt bs.length x5 → eyotlaw3_PageWhole.k3 x0a x0l x0c x5 xa xl xc (fun e m' => e = .returned (.bool true) ∧ Le m m') mz := by
    intro mz hlz hge
    have hall : (i * x5).toNat ≥ bs.length := by
      have : ¬ i * x5 < bs.length := fun h => hge ((cnt_lt s1).mpr h)
      omega
    unfold eyotlaw3_PageWhole.k3
    refine make_one eU8 rfl (by omega) (by omega) (by omega) (by omega) ?_
    intro bz hbz
    have hlz2 := (hle.trans hlz).trans (Le.set hbz (.cells (List.replicate (4001 : Int).toNat (.int .u8 0)).toArray T_uint8 (0, 0)))
    refine New_spec (bs := List.replicate 4001 0) (cells_at (set_same _ _ _) ?_) (by rw [List.length_replicate]; rfl) ?_ (fun _ _ h => ?_)
    · rw [u8s, List.map_replicate]; rfl
    · intro _
      refine ⟨bs, by omega, ?_, bs, hl, CellsAt.le hlz2 hc, ?_⟩
      · have := (Own.le (Le.set hbz (.cells (List.replicate (4001 : Int).toNat (.int .u8 0)).toArray T_uint8 (0, 0))) (Own.le hlz ho)).cells
        rwa [List.take_of_length_le hall] at this
      · exact Br.t (by simp) ⟨rfl, hlz2⟩
    · exact absurd h (by decide)
  refine Count_spec hp ?_
  intro m3 hle3
  refine BrD (fun hlt => ?_) (fun hge => fin m3 hle3 hge)
  refine BrDt (by omega) ?_
  refine Read_in (hp.le hle3) hi0 hlt (by omega) (fun e => by cases e) ?_
  intro _ F4 m4 pa pc hch4 hF4 hp4 ho4 hfr4 hn4
  have hle4 : Le m m4 := hch4.to_le (hle.trans hle3) hF'
  have hF04 : ∀ b, F4 b → m b = none := fun b e => (hF4 b e).elim (hF' b) (hle.trans hle3).new
  have hmul := (cnt_lt s1).mp hlt
  have hm0 : 0 ≤ i * x5 := Int.mul_nonneg hi0 (by omega)
  have hpl := pg_len bs x5 i
  refine BrNf rfl ?_
  refine BrDf (by omega) ?_
  refine BrDf (by omega) ?_
  -- all goes on
  have hoa : Own m4 T_uint8 1 xa xl xc (u8s (bs.take (i * x5).toNat)) := (Own.le hle3 ho).chg hch4 hn
  have next : ∀ mz, Le m4 mz → eyotlaw3_PageWhole.k2 (fun x0a' x0l' x0c' x5' x6 xa xl xc i mm => ∃ N1, N1 < N ∧ (x0a' = x0a ∧ x0l' = x0l ∧ x0c' = x0c ∧ x5' = x5 ∧ x6 = some ⟨bp, 0, none⟩ ∧ Le m mm ∧ 0 ≤ i ∧ i ≤ cnt bs.length x5 ∧ (N1 : Int) = cnt bs.length x5 - i ∧
    ∃ F' log, (∀ b, F' b → m b = none) ∧ (log.length : Int) = i ∧ Pg mm F' bp bs x5 (fun _ => false) log ∧ Own mm T_uint8 1 xa xl xc (u8s (bs.take (i * x5).toNat)) ∧ Fresh m xa ∧ (∀ b, blk xa = some b → ¬ F' b)))
      x0a x0l x0c x5 (some ⟨bp, 0, none⟩) xa xl xc i pa (pg bs x5 i).length pc (fun e m' => e = .returned (.bool true) ∧ Le m m') mz := by
    intro mz hlz
    unfold eyotlaw3_PageWhole.k2
    refine append_own eU8 (Own.le hlz hoa) (Own.le hlz ho4).cells (by simp [u8s]) (u8s_one _) (by decide) (by omega) (by omega) ?_
    intro a' c' m5 ho5 hg5
    have hFm4 : ∀ b, blk xa = some b → ¬ F4 b := fun b e hx => (hF4 b hx).elim (hn b e) (fun h => (Own.le hle3 ho).live b e h)
    have hpz := hp4.le hlz
    refine ⟨N - 1, by omega, rfl, rfl, rfl, rfl, rfl, hg5.1.to_le (hle4.trans hlz) (fun b e => hfr b e), ?_, ?_, ?_, F4, log ++ [i], hF04, ?_, ?_, ?_, ?_, ?_⟩
    · rw [wi (n := i + 1) (by omega) (by omega)]; omega
    · rw [wi (n := i + 1) (by omega) (by omega)]; omega
    · rw [wi (n := i + 1) (by omega) (by omega)]; omega
    · rw [wi (n := i + 1) (by omega) (by omega)]; simp; omega
    · exact hpz.chg hg5.1 (fun b e hx => hFm4 b hx e)
    · rw [wi (n := i + 1) (by omega) (by omega)]
      have e : u8s (bs.take (i * x5).toNat) ++ u8s (pg bs x5 i) = u8s (bs.take ((i + 1) * x5).toNat) := by
        rw [← pg_take bs hi0 (by omega)]; simp [u8s]
      rw [e] at ho5
      exact ho5
    · intro b e
      rcases hg5.2 with h | h
      · exact hfr b (h ▸ e)
      · exact (hle4.trans hlz).new (h b e)
    · intro b e hx
      rcases hg5.2 with h | h
      · exact hFm4 b (h ▸ e) hx
      · exact hpz.lv b hx (h b e)
  refine BrD (fun hshort => ?_) (fun _ => next m4 (Le.refl _))
  refine Count_spec hp4 ?_
  intro m6 hle6
  refine BrDf ?_ (next m6 hle6)
  rw [wi (n := cnt bs.length x5 - 1) (by omega) (by omega)]
  intro hlt2
  have h1 : i + 1 < cnt bs.length x5 := by omega
  have h2 := (cnt_lt s1).mp h1
  rw [Int.add_mul, Int.one_mul] at h2
  omega
end Go.E
