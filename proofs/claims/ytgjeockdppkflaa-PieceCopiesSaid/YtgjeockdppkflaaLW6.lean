/- The laws' own helpers (eyotlaw0). -/
import Derived.Test.YtgjeockdppkflaaPC7
set_option linter.unusedVariables false
namespace Go.E
open Go.H

theorem Spoil_spec {m : Mem} {b : Nat} {cur : Array Value} (hb : m b = some (.cells cur T_uint8 (0, 0))) {l : Nat} (hsz : cur.size ≤ 9223372036854775807) {R : Ending → Mem → Prop}
    (h : ∀ m', Chg (fun k => k = b) m m' → R (.returned (.tuple #[])) m') : HC P eyotlaw0_Spoil.id #[.slice (some ⟨b, 0, none⟩) l cur.size] m R := by
  refine eyotlaw0_Spoil.ok _ _ _ _ _ ?_
  refine ⟨by omega, by omega, by omega, ?_⟩
  have e : shf (some ⟨b, 0, none⟩) (0 : Int).toNat 1 cur.size = some ⟨b, 0, none⟩ := by
    unfold shf; split
    · rfl
    · simp [add_none]
  rw [e]
  refine ⟨fun N a' l' c' i mm => a' = some ⟨b, 0, none⟩ ∧ l' = cur.size ∧ (∃ cur2 : Array Value, mm b = some (.cells cur2 T_uint8 (0, 0)) ∧ cur2.size = cur.size) ∧ Chg (fun k => k = b) m mm ∧ ∃ k : Nat, i = k ∧ k ≤ cur.size ∧ N = cur.size - k, cur.size,
    ⟨rfl, by simp, ⟨cur, hb, rfl⟩, Chg.refl _ _, 0, rfl, by omega, by omega⟩, ?_⟩
  rintro N a' l' c' i mm ⟨rfl, rfl, ⟨cur2, hb2, hs2⟩, hch, k, rfl, hk, rfl⟩
  refine BrD (fun hlt => ?_) (fun _ => h mm hch)
  refine IxS.st hb2 (by omega) (by omega) (by omega) rfl ?_
  refine ⟨cur.size - (k + 1), by omega, rfl, rfl, ⟨_, set_same _ _ _, by simp [hs2]⟩, hch.trans (Chg.set _ _ _) (fun _ _ h => h), k + 1, ?_, by omega, rfl⟩
  rw [wi (by omega) (by omega)]; omega
theorem Spoil_nil {m : Mem} {R : Ending → Mem → Prop} (h : R (.returned (.tuple #[])) m) : HC P eyotlaw0_Spoil.id #[.slice none 0 0] m R := by
  refine eyotlaw0_Spoil.ok _ _ _ _ _ ?_
  refine ⟨by omega, by omega, by omega, ?_⟩
  refine ⟨fun N a' l' c' i mm => l' = 0 ∧ i = 0 ∧ mm = m, 0, ⟨rfl, rfl, rfl⟩, ?_⟩
  rintro N a' l' c' i mm ⟨rfl, rfl, rfl⟩
  exact BrDf (by simp) h
/-- Spoil over an own row. -/
theorem Spoil_own {m : Mem} {a : Option Addr} {l c : Nat} {xs : List Value} (ho : Own m T_uint8 1 a l c xs) {R : Ending → Mem → Prop}
    (h : ∀ m', Chg (fun k => blk a = some k) m m' → R (.returned (.tuple #[])) m') : HC P eyotlaw0_Spoil.id #[.slice a l c] m R := by
  obtain ⟨_, hx⟩ := ho
  rcases hx with ⟨rfl, rfl, rfl⟩ | ⟨b, cur, rfl, hb, hlc, hs, _, hcm⟩
  · exact Spoil_nil (h m (Chg.refl _ _))
  · have e : c = cur.size := by omega
    subst e
    exact Spoil_spec hb hcm (fun m' hch => h m' (hch.mono (fun k e => by subst e; rfl)))

/-- A twin's row: the bytes, and three marks behind. -/
def twinRow (bs : List UInt8) : Array Value := (u8s bs ++ List.replicate 3 (Value.int .u8 229)).toArray
theorem Twin_spec {m : Mem} {a : Option Addr} {l c : Nat} {bs : List UInt8} (hc : CellsAt m a (u8s bs)) (hl : bs.length = l) (hb : l ≤ 1000000) {R : Ending → Mem → Prop}
    (h : ∀ b m', Le m m' → m b = none → m' b = some (.cells (twinRow bs) T_uint8 (0, 0)) → R (.returned (.slice (some ⟨b, 0, none⟩) l (l + 3))) m') : HC P eyotlaw0_Twin.id #[.slice a l c] m R := by
  refine eyotlaw0_Twin.ok _ _ _ _ _ ?_
  rw [eyotlaw0_Twin.e0, wi (n := ((l : Nat) : Int) + 3) (by omega) (by omega)]
  refine make_one eU8 rfl (by omega) (by omega) (by omega) (by omega) ?_
  intro b hfb
  have e3 : (((l : Nat) : Int) + 3).toNat = l + 3 := by omega
  rw [e3]
  refine copy_into eU8 (vs := u8s bs) (set_same _ _ _) (hc.le (Le.set hfb _)) ?_ (u8s_one bs) (by simp [u8s_len]; omega) ?_
  · rw [u8s_len, hl, Nat.mul_one]; exact (Nat.min_eq_left (by omega)).symm
  rw [set_set]
  have hle : ∀ o, Le m (m.set b o) := fun o => Le.set hfb o
  -- the loop: marks
  refine ⟨fun N a' l' c' x xl xc i mm => l' = l ∧ x = some ⟨b, 0, none⟩ ∧ xl = l + 3 ∧ xc = l + 3 ∧ ∃ k : Nat, k ≤ 3 ∧ i = ((l + k : Nat) : Int) ∧ N = 3 - k ∧
      ∃ cur : Array Value, cur.toList = u8s bs ++ List.replicate k (.int .u8 229) ++ List.replicate (3 - k) (.int .u8 0) ∧ mm = m.set b (.cells cur T_uint8 (0, 0)), 3, ⟨rfl, rfl, rfl, rfl, 0, by omega, by simp, rfl, _, ?_, rfl⟩, ?_⟩
  · apply List.ext_getElem?
    intro j
    rw [Array.getElem?_toList, putCells_get _ _ _ _ (by simp [u8s_len]; omega)]
    simp only [List.replicate_zero, List.append_nil, u8s_len, Nat.zero_add, Nat.zero_le, true_and, Nat.sub_zero]
    rw [List.getElem?_append, u8s_len]
    split
    · rfl
    · rename_i hj
      simp only [List.getElem?_toArray, List.getElem?_replicate]
      have : (j < l + 3) = (j - bs.length < 3) := by rw [hl]; apply propext; omega
      simp only [this]
  · rintro N a' l' c' x xl xc i mm ⟨rfl, rfl, rfl, rfl, k, hk, rfl, rfl, cur, hcur, rfl⟩
    have hsz : cur.size = l' + 3 := by
      rw [← Array.length_toList, hcur]; simp [u8s_len]; omega
    refine BrD (fun hlt => ?_) (fun hge => ?_)
    · refine IxS.st (set_same _ _ _) (by omega) (by omega) (by omega) rfl ?_
      rw [set_set]
      refine ⟨3 - (k + 1), by omega, rfl, rfl, rfl, rfl, k + 1, by omega, ?_, rfl, _, ?_, rfl⟩
      · rw [wi (by omega) (by omega)]; omega
      · rw [Array.toList_setIfInBounds, hcur]
        have e : ((l' + k : Nat) : Int).toNat = (u8s bs ++ List.replicate k (Value.int .u8 229)).length := by simp [u8s_len]; omega
        rw [e]
        have e2 : 3 - k = (3 - (k + 1)) + 1 := by omega
        rw [e2, List.replicate_succ, List.set_append_right _ _ (Nat.le_refl _), Nat.sub_self, List.set_cons_zero, List.replicate_succ' (n := k)]
        simp
    · have hk3 : k = 3 := by omega
      subst hk3
      unfold eyotlaw0_Twin.k2
      refine ⟨by omega, by omega, by omega, ?_⟩
      have e : shf (some ⟨b, 0, none⟩) (0 : Int).toNat 1 (l' + 3) = some ⟨b, 0, none⟩ := by
        unfold shf; split
        · rfl
        · simp [add_none]
      rw [e]
      have e2 : cur = twinRow bs := by
        apply Array.ext'
        rw [hcur]; simp [twinRow]
      rw [e2]
      exact h b _ (hle _) hfb (set_same _ _ _)

theorem toList_beq (bs : List UInt8) : (!((⟨bs.toArray⟩ : ByteArray).toList == (⟨bs.toArray⟩ : ByteArray).toList)) = false := by simp

theorem twin_cells {m : Mem} {b : Nat} {bs : List UInt8} (h : m b = some (.cells (twinRow bs) T_uint8 (0, 0))) : CellsAt m (some ⟨b, 0, none⟩) (u8s bs ++ List.replicate 3 (Value.int .u8 229)) := by
  intro j u hu
  rw [Nat.zero_add]
  exact cell_of h (by simpa [twinRow] using hu)
theorem Kept_spec {m : Mem} {b : Nat} {bs : List UInt8} (h : m b = some (.cells (twinRow bs) T_uint8 (0, 0))) {a : Option Addr} {l c : Nat} (hc : CellsAt m a (u8s bs)) (hl : bs.length = l) (hb : l ≤ 1000000) {R : Ending → Mem → Prop}
    (k : R (.returned (.bool true)) m) : HC P eyotlaw0_Kept.id #[.slice (some ⟨b, 0, none⟩) l (l + 3), .slice a l c] m R := by
  refine eyotlaw0_Kept.ok _ _ _ _ _ _ _ _ ?_
  refine ⟨by omega, by omega, by omega, ?_⟩
  rw [shf_zero]
  have ht := twin_cells h
  refine ⟨bs, hl, ht.left, ?_⟩
  refine ⟨bs, hl, hc, ?_⟩
  refine Br.f (toList_beq bs) ?_
  rw [wi (n := ((l : Nat) : Int) + 3) (by omega) (by omega)]
  refine BrDf (by omega) ?_
  refine ⟨fun N a' l' c' y yl yc i mm => l' = l ∧ y = some ⟨b, 0, none⟩ ∧ yl = l + 3 ∧ mm = m ∧ ∃ k : Nat, k ≤ 3 ∧ i = ((l + k : Nat) : Int) ∧ N = 3 - k, 3, ⟨rfl, rfl, by omega, rfl, 0, by omega, by simp, rfl⟩, ?_⟩
  rintro N a' l' c' y yl yc i mm ⟨rfl, rfl, rfl, rfl, j, hj, rfl, rfl⟩
  rw [eyotlaw0_Kept.l1B, wi (n := ((l' : Nat) : Int) + 3) (by omega) (by omega)]
  refine BrD (fun hlt => ?_) (fun _ => k)
  refine IxS.ld ht (by simp [u8s_len, hl]) (by omega) (by omega) ?_
  intro v hv
  have hv2 : v = .int .u8 229 := by
    rw [Int.toNat_natCast, List.getElem?_append_right (by rw [u8s_len]; omega), List.getElem?_replicate] at hv
    split at hv
    · cases hv; rfl
    · cases hv
  subst hv2
  refine BrNf rfl ?_
  refine ⟨3 - (j + 1), by omega, rfl, rfl, rfl, rfl, j + 1, by omega, ?_, rfl⟩
  rw [wi (by omega) (by omega)]; omega
end Go.E
