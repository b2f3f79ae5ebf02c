import Derived.Test.YtjdkdeekniephaaPG1
import Derived.Test.YtjdkdeekniephaaS1
set_option linter.unusedVariables false
set_option maxRecDepth 20000
namespace Go.E
open Go.H
attribute [local irreducible] BiN MkS ConvN LookN MapUpN CallV HC

def cnt (n : Nat) (size : Int) : Int := ((n : Int) + size - 1) / size
theorem cnt_nn (n : Nat) {size : Int} (h : 1 ≤ size) : 0 ≤ cnt n size := Int.ediv_nonneg (by omega) (by omega)
theorem cnt_lt {n : Nat} {size i : Int} (h : 1 ≤ size) : i < cnt n size ↔ i * size < n := by
  unfold cnt
  have e : i < ((n : Int) + size - 1) / size ↔ i + 1 ≤ ((n : Int) + size - 1) / size := by omega
  rw [e, Int.le_ediv_iff_mul_le (by omega)]
  rw [Int.add_mul, Int.one_mul]
  omega
theorem cnt_le (n : Nat) {size : Int} (h : 1 ≤ size) : cnt n size ≤ n := by
  have h0 := cnt_nn n h
  cases hc : cnt n size with
  | negSucc k => omega
  | ofNat k =>
    cases k with
    | zero => simp
    | succ k =>
      have hk : (k : Int) < cnt n size := by rw [hc]; simp; omega
      have := (cnt_lt h).mp hk
      have h1 : (k : Int) * 1 ≤ k * size := Int.mul_le_mul_of_nonneg_left h (by omega)
      simp; omega

theorem Count_spec {m : Mem} {F : Nat → Prop} {bp : Nat} {bs : List UInt8} {size : Int} {f : Int → Bool} {log : List Int} (hp : Pg m F bp bs size f log) {R : Ending → Mem → Prop}
    (h : ∀ m', Le m m' → R (.returned (.int .i64 (cnt bs.length size))) m') : HC P page_Pages_Count.id #[.pointer (some ⟨bp, 0, none⟩)] m R := by
  refine page_Pages_Count.ok _ _ _ ?_
  intro bn hbn
  have hle : Le m (m.set bn (.cells #[.pointer (some ⟨bp, 0, none⟩)] T_ptr_page_Pages (0, 0))) := Le.set hbn _
  have hp1 := hp.le hle
  obtain ⟨⟨ba, bl, bc, fa, ra, rl, rc, h1, h2, h3, h4, h5, h6, h7⟩, _, s1, s2, l1⟩ := hp1
  refine safe_int (R0 := fun e m' => e = .returned (.int .i64 (cnt bs.length size)) ∧ m' = m.set bn (.cells #[.pointer (some ⟨bp, 0, none⟩)] T_ptr_page_Pages (0, 0))) (gn := page_Pages_Count_1.fn) (by kernel_rfl) (by kernel_rfl) (by kernel_rfl) ?_ ?_
  · refine page_Pages_Count_1.ok _ _ _ _ ?_
    refine ⟨_, Le.refl _, ?_⟩
    have hs := set_same m bn (.cells #[.pointer (some ⟨bp, 0, none⟩)] T_ptr_page_Pages (0, 0))
    refine LdV.of hs (v := .pointer (some ⟨bp, 0, none⟩)) rfl ?_
    refine LdV.of h1 rfl ?_
    refine LdV.of hs (v := .pointer (some ⟨bp, 0, none⟩)) rfl ?_
    refine LdV.of h1 rfl ?_
    refine LdV.of hs (v := .pointer (some ⟨bp, 0, none⟩)) rfl ?_
    refine LdV.of h1 rfl ?_
    refine NzI.mk (by omega) ⟨?_, rfl⟩
    subst h3
    rw [wi (n := ((bs.length : Nat) : Int) + size) (by omega) (by omega), wi (n := ((bs.length : Nat) : Int) + size - 1) (by omega) (by omega), Int.tdiv_eq_ediv_of_nonneg (by omega)]
    have q1 := cnt_nn bs.length s1
    have q2 := cnt_le bs.length s1
    show Ending.returned (.int .i64 (IntKind.i64.wrap (cnt bs.length size))) = _
    rw [wi (n := cnt bs.length size) (by omega) (by omega)]
  · rintro e m' ⟨rfl, rfl⟩
    exact .inl ⟨_, rfl, h _ hle⟩

theorem Len_spec {m : Mem} {F : Nat → Prop} {bp : Nat} {bs : List UInt8} {size : Int} {f : Int → Bool} {log : List Int} (hp : Pg m F bp bs size f log) {R : Ending → Mem → Prop}
    (h : ∀ m', Le m m' → R (.returned (.int .i64 (bs.length : Nat))) m') : HC P page_Pages_Len.id #[.pointer (some ⟨bp, 0, none⟩)] m R := by
  refine page_Pages_Len.ok _ _ _ ?_
  intro bn hbn
  have hle : Le m (m.set bn (.cells #[.pointer (some ⟨bp, 0, none⟩)] T_ptr_page_Pages (0, 0))) := Le.set hbn _
  have hp1 := hp.le hle
  obtain ⟨⟨ba, bl, bc, fa, ra, rl, rc, h1, h2, h3, h4, h5, h6, h7⟩, _, s1, s2, l1⟩ := hp1
  refine safe_int (R0 := fun e m' => e = .returned (.int .i64 (bs.length : Nat)) ∧ m' = m.set bn (.cells #[.pointer (some ⟨bp, 0, none⟩)] T_ptr_page_Pages (0, 0))) (gn := page_Pages_Len_1.fn) (by kernel_rfl) (by kernel_rfl) (by kernel_rfl) ?_ ?_
  · refine page_Pages_Len_1.ok _ _ _ _ ?_
    refine LdV.of (set_same m bn (.cells #[.pointer (some ⟨bp, 0, none⟩)] T_ptr_page_Pages (0, 0))) (v := .pointer (some ⟨bp, 0, none⟩)) rfl ?_
    refine LdV.of h1 rfl ⟨?_, rfl⟩
    rw [h3]
  · rintro e m' ⟨rfl, rfl⟩
    exact .inl ⟨_, rfl, h _ hle⟩

theorem Reads_spec {m : Mem} {F : Nat → Prop} {bp : Nat} {bs : List UInt8} {size : Int} {f : Int → Bool} {log : List Int} (hp : Pg m F bp bs size f log) (hlog : log.length ≤ 1000000000) {R : Ending → Mem → Prop}
    (h : ∀ a' c' m', Le m m' → Own m' T_int 1 a' log.length c' (ints log) → Fresh m a' → R (.returned (.slice a' log.length c')) m') : HC P page_Pages_Reads.id #[.pointer (some ⟨bp, 0, none⟩)] m R := by
  refine page_Pages_Reads.ok _ _ _ ?_
  intro bn hbn
  have hle : Le m (m.set bn (.cells #[.pointer (some ⟨bp, 0, none⟩)] T_ptr_page_Pages (0, 0))) := Le.set hbn _
  have hp1 := hp.le hle
  obtain ⟨⟨ba, bl, bc, fa, ra, rl, rc, h1, h2, h3, h4, h5, h6, h7⟩, _, s1, s2, l1⟩ := hp1
  refine safe_s_int (R0 := fun e m' => ∃ a' c', e = .returned (.slice a' log.length c') ∧ Le m m' ∧ Own m' T_int 1 a' log.length c' (ints log) ∧ Fresh m a') (gn := page_Pages_Reads_1.fn) (by kernel_rfl) (by kernel_rfl) (by kernel_rfl) ?_ ?_
  · refine page_Pages_Reads_1.ok _ _ _ _ ?_
    refine LdV.of (set_same m bn (.cells #[.pointer (some ⟨bp, 0, none⟩)] T_ptr_page_Pages (0, 0))) (v := .pointer (some ⟨bp, 0, none⟩)) rfl ?_
    refine LdV.of h1 rfl ?_
    subst h6
    refine clone_int h5.cells rfl hlog ?_
    intro a' c' m' hle' ho hf
    exact ⟨a', c', rfl, hle.trans hle', ho, hf.le hle⟩
  · rintro e m' ⟨a', c', rfl, g1, g2, g3⟩
    exact .inl ⟨_, _, _, rfl, h _ _ _ g1 g2 g3⟩

theorem Read_out {m : Mem} {F : Nat → Prop} {bp : Nat} {bs : List UInt8} {size : Int} {f : Int → Bool} {log : List Int} (hp : Pg m F bp bs size f log) {i : Int} (hi : i < 0 ∨ cnt bs.length size ≤ i) {R : Ending → Mem → Prop}
    (h : ∀ m', Le m m' → R (.returned (.tuple #[.slice none 0 0, .int .i64 1])) m') : HC P page_Pages_Read.id #[.pointer (some ⟨bp, 0, none⟩), .int .i64 i] m R := by
  refine page_Pages_Read.ok _ _ _ _ ?_
  refine BrD (fun _ => h m (Le.refl m)) (fun h0 => ?_)
  refine Count_spec hp ?_
  intro m1 hle
  refine BrDt (p := i ≥ cnt bs.length size) (by omega) ?_
  exact h m1 hle

/-- A page's bytes. -/
def pg (bs : List UInt8) (size i : Int) : List UInt8 := (bs.drop (i * size).toNat).take size.toNat

theorem Read_in {m : Mem} {F : Nat → Prop} {bp : Nat} {bs : List UInt8} {size : Int} {f : Int → Bool} {log : List Int} (hp : Pg m F bp bs size f log) {i : Int} (hi : 0 ≤ i) (hi2 : i < cnt bs.length size) (hlog : log.length ≤ 1000000) {R : Ending → Mem → Prop}
    (hbad : f i = true → ∀ F' m', Chg F m m' → (∀ b, F' b → F b ∨ m b = none) → Pg m' F' bp bs size f (log ++ [i]) → R (.returned (.tuple #[.slice none 0 0, .int .i64 11])) m')
    (h : f i = false → ∀ F' m' a' c', Chg F m m' → (∀ b, F' b → F b ∨ m b = none) → Pg m' F' bp bs size f (log ++ [i]) → Own m' T_uint8 1 a' (pg bs size i).length c' (u8s (pg bs size i)) →
      Fresh m a' → (∀ b, blk a' = some b → ¬ F' b) → R (.returned (.tuple #[.slice a' (pg bs size i).length c', .int .i64 0])) m') :
    HC P page_Pages_Read.id #[.pointer (some ⟨bp, 0, none⟩), .int .i64 i] m R := by
  have s1 := hp.s1
  have s2 := hp.s2
  have l1 := hp.l1
  have hcl := cnt_le bs.length s1
  have hmul := (cnt_lt s1).mp hi2
  have hm0 : 0 ≤ i * size := Int.mul_nonneg hi (by omega)
  have hmn : (i + 1) * size = i * size + size := by rw [Int.add_mul, Int.one_mul]
  refine page_Pages_Read.ok _ _ _ _ ?_
  refine BrDf (by omega) ?_
  refine Count_spec hp ?_
  intro m1 hle1
  refine BrDf (p := i ≥ cnt bs.length size) (by omega) ?_
  obtain ⟨⟨ba, bl, bc, fa, ra, rl, rc, h1, h2, h3, h4, h5, h6, h7, h8, h9, h10⟩, lv, _, _, _⟩ := hp.le hle1
  refine LdV.of h1 rfl ?_
  intro bn hbn
  have hne : bp ≠ bn := by intro e; subst e; rw [h1] at hbn; cases hbn
  have hle2 : Le m1 (m1.set bn (.cells #[.int .i64 i] T_int (0, 0))) := Le.set hbn _
  refine append_own eInt (h5.le hle2) (news := [.int .i64 i]) ?_ rfl ?_ (by decide) (by omega) (by omega) ?_
  · intro j u hu
    cases j with
    | zero => cases hu; exact cell_of (set_same _ _ _) rfl
    | succ j => simp at hu
  · intro v hv; simp at hv; subst hv; rfl
  intro ra' rc' m3 ho3 hg3
  have hbp3 : m3 bp = some (.cells #[.slice ba bl bc, .int .i64 size, .map fa, .slice ra rl rc] T_page_Pages (0, 0)) := hg3.1.eq bp _ (hle2 _ _ h1) (fun e => ?_)
  rotate_left
  · obtain ⟨_, hx⟩ := h5
    rcases hx with ⟨rfl, _, _⟩ | ⟨b, cur, rfl, hb, _⟩
    · cases e
    · cases e; rw [h1] at hb; cases hb
  refine St1.to #[.slice ba bl bc, .int .i64 size, .map fa, .slice ra' (rl + 1) rc'] (o := 3) hbp3 (by simp) rfl rfl ?_
  have hs4 := set_same m3 bp (.cells #[.slice ba bl bc, .int .i64 size, .map fa, .slice ra' (rl + 1) rc'] T_page_Pages (0, 0))
  have hch : Chg F m (m3.set bp (.cells #[.slice ba bl bc, .int .i64 size, .map fa, .slice ra' (rl + 1) rc'] T_page_Pages (0, 0))) :=
    (((hle1.trans hle2).chg F).trans hg3.1 (fun b _ e => h9 b e)).trans (Chg.set _ _ _) (fun b _ e => e ▸ h7)
  have hfr : ∀ b, blk ra' = some b → F b ∨ m b = none := by
    intro b e
    rcases hg3.2 with e2 | e2
    · exact .inl (h9 b (e2 ▸ e))
    · exact .inr (Fresh.le (hle1.trans hle2) e2 b e)
  have hchA : Chg (fun b => blk ra = some b ∨ b = bp) m1 (m3.set bp (.cells #[.slice ba bl bc, .int .i64 size, .map fa, .slice ra' (rl + 1) rc'] T_page_Pages (0, 0))) :=
    ((hle2.chg _).trans hg3.1 (fun b _ e => .inl e)).trans (Chg.set _ _ _) (fun b _ e => .inr e)
  have nba : ∀ b, blk ba = some b → ¬ (blk ra = some b ∨ b = bp) := by
    intro b e
    obtain ⟨_, hx⟩ := h2
    rcases hx with ⟨rfl, _, _⟩ | ⟨b2, cur, rfl, hb, _⟩
    · cases e
    · cases e
      rintro (e | rfl)
      · obtain ⟨_, hy⟩ := h5
        rcases hy with ⟨rfl, _, _⟩ | ⟨b3, cur3, rfl, hb3, _⟩
        · cases e
        · cases e; rw [hb] at hb3; cases hb3
      · rw [h1] at hb; cases hb
  have nfa : ∀ b, fa = some b → ¬ (blk ra = some b ∨ b = bp) := by
    rintro b rfl
    obtain ⟨es, ck, hr, _⟩ := h4
    rintro (e | rfl)
    · obtain ⟨_, hy⟩ := h5
      rcases hy with ⟨rfl, _, _⟩ | ⟨b3, cur3, rfl, hb3, _⟩
      · cases e
      · cases e; rw [hr] at hb3; cases hb3
    · rw [h1] at hr; cases hr
  have hra : Own (m3.set bp (.cells #[.slice ba bl bc, .int .i64 size, .map fa, .slice ra' (rl + 1) rc'] T_page_Pages (0, 0))) T_int 1 ra' (rl + 1) rc' (ints log ++ [.int .i64 i]) := by
    refine ho3.chg (Chg.set _ _ _) (fun b e hb => ?_)
    subst hb
    obtain ⟨_, hy⟩ := ho3
    rcases hy with ⟨rfl, _, _⟩ | ⟨b3, cur3, rfl, hb3, _⟩
    · cases e
    · cases e; rw [hbp3] at hb3; cases hb3
  have hP : Pg (m3.set bp (.cells #[.slice ba bl bc, .int .i64 size, .map fa, .slice ra' (rl + 1) rc'] T_page_Pages (0, 0))) (fun b => F b ∨ blk ra' = some b) bp bs size f (log ++ [i]) :=
    ⟨⟨ba, bl, bc, fa, ra', rl + 1, rc', hs4, h2.chg hchA nba, h3, h4.chg hchA nfa, by simpa [ints] using hra, by simp [h6], .inl h7, fun b e => .inl (h8 b e), fun b e => .inr e, fun b e => .inl (h10 b e)⟩, ?_, s1, s2, l1⟩
  rotate_left
  · rintro b (e | e)
    · exact hchA.live b (lv b e)
    · exact hra.live b e
  have hF' : ∀ b, (F b ∨ blk ra' = some b) → F b ∨ m b = none := fun b e => e.elim .inl (hfr b)
  have h4' := h4.chg hchA nfa
  have h2' := h2.chg hchA nba
  clear h4
  generalize hm4 : m3.set bp (.cells #[.slice ba bl bc, .int .i64 size, .map fa, .slice ra' (rl + 1) rc'] T_page_Pages (0, 0)) = m4 at *
  refine LdV.of (m := m4) (b := bp) (o := 0 + 2) hs4 rfl ?_
  have hlook : ∀ {K : Value → Prop}, K (.bool (f i)) → LookN P m4 T_map_int_bool (.map fa) (.int .i64 i) false K := by
    intro K hK
    cases fa with
    | none => exact look_nil mIB i (by rw [h4' i] at hK; exact hK)
    | some r =>
      obtain ⟨es, ck, hr, hk⟩ := h4'
      exact look_keys mIB hr hk i hK
  refine hlook ?_
  refine Br.mk (fun e => hbad e _ m4 hch hF' hP) (fun e => ?_)
  refine ⟨m4, Le.refl _, ?_⟩
  refine LdV.of (m := m4) (b := bp) (o := 0) hs4 rfl ?_
  refine LdV.of (m := m4) (b := bp) (o := 0 + 1) hs4 rfl ?_
  refine LdV.of (m := m4) (b := bp) (o := 0 + 1) hs4 rfl ?_
  refine LdV.of (m := m4) (b := bp) (o := 0) hs4 rfl ?_
  rw [wi (n := i + 1) (by omega) (by omega), wi (n := (i + 1) * size) (by rw [hmn]; omega) (by rw [hmn]; omega), wi (n := i * size) (by omega) (by omega), hmn]
  subst h3
  have hlenpg : (pg bs size i).length = min size.toNat (bs.length - (i * size).toNat) := by simp [pg]
  refine ⟨hm0, by split <;> omega, ?_, ?_⟩
  · have hbc : bs.length ≤ bc := by
      obtain ⟨_, hx⟩ := h2'
      rcases hx with ⟨_, q, r⟩ | ⟨_, _, _, _, q, _⟩ <;> omega
    split <;> omega
  have hlen : (if ((bs.length : Nat) : Int) < i * size + size then ((bs.length : Nat) : Int) else i * size + size).toNat - (i * size).toNat = (pg bs size i).length := by
    rw [hlenpg]; split <;> omega
  rw [hlen]
  refine clone_u8 (bs := pg bs size i) (m := m4) ?_ rfl (by rw [hlenpg]; omega) ?_
  · refine h2'.cells.part _ ?_ ?_ rfl ?_
    · intro j u hu
      unfold pg u8s at *
      rw [List.getElem?_map] at hu ⊢
      rw [List.getElem?_take] at hu
      split at hu
      · rw [List.getElem?_drop] at hu; exact hu
      · cases hu
    · intro h0
      have : bs = [] := by simpa [u8s] using h0
      subst this
      simp [pg, u8s]
    · intro hbc
      have hbc2 : bs.length ≤ bc := by
        obtain ⟨_, hx⟩ := h2'
        rcases hx with ⟨_, q, r⟩ | ⟨_, _, _, _, q, _⟩ <;> omega
      exfalso; omega
  · intro a' c' m6 hle6 ho6 hf6
    refine h e _ m6 a' c' (hch.trans (hle6.chg F) (fun _ _ h => h)) hF' (hP.le hle6) ho6 ?_ ?_
    · exact fun b hb => hch.new (hf6 b hb)
    · exact fun b hb hx => hP.lv b hx (hf6 b hb)
end Go.E
