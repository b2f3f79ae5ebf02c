import Derived.Test.YtjdkdeekniephaaPG2
set_option linter.unusedVariables false
set_option maxRecDepth 20000
namespace Go.E
open Go.H
attribute [local irreducible] BiN MkS ConvN LookN MapUpN CallV HC

theorem Clear_nil {m : Mem} {R : Ending → Mem → Prop} (h : R (.returned (.tuple #[])) m) : HC P page_Pages_Clear.id #[.pointer none] m R := by
  refine page_Pages_Clear.ok _ _ _ ?_
  exact Br.f rfl h
theorem Clear_spec {m : Mem} {F : Nat → Prop} {bp : Nat} {bs : List UInt8} {size : Int} {f : Int → Bool} {log : List Int} (hp : Pg m F bp bs size f log) {R : Ending → Mem → Prop}
    (h : ∀ m', Chg F m m' → Pg m' F bp bs size f [] → R (.returned (.tuple #[])) m') : HC P page_Pages_Clear.id #[.pointer (some ⟨bp, 0, none⟩)] m R := by
  refine page_Pages_Clear.ok _ _ _ ?_
  refine Br.t rfl ?_
  obtain ⟨⟨ba, bl, bc, fa, ra, rl, rc, h1, h2, h3, h4, h5, h6, h7, h8, h9, h10⟩, lv, s1, s2, l1⟩ := hp
  refine St1.to #[.slice ba bl bc, .int .i64 size, .map fa, .slice none 0 0] (o := 3) h1 (by simp) rfl rfl ?_
  have hc := Chg.set m bp (.cells #[.slice ba bl bc, .int .i64 size, .map fa, .slice none 0 0] T_page_Pages (0, 0))
  refine h _ (hc.mono (fun b e => e ▸ h7)) ⟨⟨ba, bl, bc, fa, none, 0, 0, set_same _ _ _, h2.chg hc ?_, h3, h4.chg hc ?_, Own.nil _ _ _, rfl, h7, h8, fun b e => (by cases e), h10⟩, fun b e => hc.live b (lv b e), s1, s2, l1⟩
  · rintro b e rfl
    obtain ⟨_, hx⟩ := h2
    rcases hx with ⟨rfl, _, _⟩ | ⟨b2, cur, rfl, hb, _⟩
    · cases e
    · cases e; rw [h1] at hb; cases hb
  · rintro b rfl rfl
    obtain ⟨es, ck, hr, _⟩ := h4
    rw [h1] at hr; cases hr

theorem Fault_nil {m : Mem} {v : Value} {a : Option Addr} {l c : Nat} {R : Ending → Mem → Prop} (h : R (.returned (.tuple #[])) m) : HC P page_Pages_Fault.id #[.pointer none, .slice a l c] m R := by
  refine page_Pages_Fault.ok _ _ _ _ _ _ ?_
  exact Br.t rfl h

theorem Fault_spec {m : Mem} {F : Nat → Prop} {bp : Nat} {bs : List UInt8} {size : Int} {f : Int → Bool} {log : List Int} (hp : Pg m F bp bs size f log) {la : Option Addr} {ll lc : Nat} {ls : List Int}
    (hc : CellsAt m la (ints ls)) (hl : ls.length = ll) (hlb : ll ≤ 1000000000) (hla : ∀ b, blk la = some b → ¬ F b ∧ m b ≠ none) {R : Ending → Mem → Prop}
    (h : ∀ F' m', Chg F m m' → (∀ b, F' b → F b ∨ m b = none) → Pg m' F' bp bs size (fun k => ls.contains k) log → R (.returned (.tuple #[])) m') :
    HC P page_Pages_Fault.id #[.pointer (some ⟨bp, 0, none⟩), .slice la ll lc] m R := by
  refine page_Pages_Fault.ok _ _ _ _ _ _ ?_
  refine Br.f rfl ?_
  intro b9 hb9
  have hle : Le m (m.set b9 (.map #[] 0)) := Le.set hb9 _
  obtain ⟨⟨ba, bl, bc, fa, ra, rl, rc, h1, h2, h3, h4, h5, h6, h7, h8, h9, h10⟩, lv, s1, s2, l1⟩ := hp
  refine St1.to #[.slice ba bl bc, .int .i64 size, .map (some b9), .slice ra rl rc] (o := 2) (hle _ _ h1) (by simp) rfl rfl ?_
  have hne : bp ≠ b9 := by rintro rfl; rw [h1] at hb9; cases hb9
  have hcs := Chg.set (m.set b9 (.map #[] 0)) bp (.cells #[.slice ba bl bc, .int .i64 size, .map (some b9), .slice ra rl rc] T_page_Pages (0, 0))
  have nx : ∀ {a : Option Addr} {e : TypeId} {l c : Nat} {xs : List Value}, Own m e 1 a l c xs → e ≠ T_page_Pages → ∀ b, blk a = some b → ¬ b = bp := by
    rintro a e l c xs ho hne b hb rfl
    obtain ⟨_, hx⟩ := ho
    rcases hx with ⟨rfl, _, _⟩ | ⟨b2, cur, rfl, hb2, _⟩
    · cases hb
    · cases hb; rw [h1] at hb2; cases hb2; exact hne rfl
  let F' : Nat → Prop := fun b => F b ∨ b = b9
  have hP : Pg ((m.set b9 (.map #[] 0)).set bp (.cells #[.slice ba bl bc, .int .i64 size, .map (some b9), .slice ra rl rc] T_page_Pages (0, 0))) F' bp bs size (fun k => (ls.take 0).contains k) log := by
    refine ⟨⟨ba, bl, bc, some b9, ra, rl, rc, set_same _ _ _, (h2.le hle).chg hcs (nx h2 (by decide)), h3, ⟨#[], 0, ?_, ?_⟩, (h5.le hle).chg hcs (nx h5 (by decide)), h6, .inl h7, fun b e => .inl (h8 b e), fun b e => .inl (h9 b e), fun b e => .inr (by cases e; rfl)⟩, ?_, s1, s2, l1⟩
    · rw [set_other _ _ (Ne.symm hne), set_same]
    · exact ⟨by simp, by intro k; simp⟩
    · rintro b (e | rfl)
      · exact hcs.live b (hle.live (lv b e))
      · exact hcs.live b (by rw [set_same]; simp)
  have hch : Chg F m ((m.set b9 (.map #[] 0)).set bp (.cells #[.slice ba bl bc, .int .i64 size, .map (some b9), .slice ra rl rc] T_page_Pages (0, 0))) := (hle.chg F).trans hcs (fun b _ e => e ▸ h7)
  have hmb := set_same (m.set b9 (.map #[] 0)) bp (.cells #[.slice ba bl bc, .int .i64 size, .map (some b9), .slice ra rl rc] T_page_Pages (0, 0))
  generalize hm2 : (m.set b9 (.map #[] 0)).set bp (.cells #[.slice ba bl bc, .int .i64 size, .map (some b9), .slice ra rl rc] T_page_Pages (0, 0)) = m2 at *
  clear h1 h2 h4 h5 hcs nx hle
  refine ⟨fun N p a l c n i mm => p = some ⟨bp, 0, none⟩ ∧ a = la ∧ l = ll ∧ n = ((ll : Nat) : Int) ∧ ∃ k : Nat, i = k ∧ k ≤ ll ∧ N = ll - k ∧ Chg F m mm ∧ (∃ x y z, mm bp = some (.cells #[x, y, .map (some b9), z] T_page_Pages (0, 0))) ∧ Pg mm F' bp bs size (fun x => (ls.take k).contains x) log, ll,
    ⟨rfl, rfl, rfl, rfl, 0, rfl, by omega, by omega, hch, ⟨_, _, _, hmb⟩, hP⟩, ?_⟩
  rintro N p a l c n i mm ⟨rfl, rfl, rfl, rfl, k, rfl, hk, rfl, hch, ⟨qx, qy, qz, hq⟩, hP⟩
  refine BrD (fun hlt => ?_) (fun hge => ?_)
  · have hkl : k < ls.length := by omega
    have hcm := hc.chg hch (fun b e => (hla b e).1)
    refine IxS.ints hcm (by omega) (by omega) (by omega) ?_
    intro x hx
    have hx' : ls[k]? = some x := hx
    obtain ⟨⟨ba, bl, bc, fa, ra, rl, rc, h1, h2, h3, h4, h5, h6, h7, h8, h9, h10⟩, lv, _, _, _⟩ := hP
    refine LdV.of (o := 0 + 2) h1 rfl ?_
    cases fa with
    | none =>
      rw [h1] at hq; cases hq
    | some r =>
      obtain ⟨es, ck, hr, hk⟩ := h4
      refine update_keys mIB hr hk x ?_
      intro es' ck' hk'
      have hcr := Chg.set mm r (.map es' ck')
      have nr : ∀ {a : Option Addr} {e : TypeId} {l c : Nat} {xs : List Value}, Own mm e 1 a l c xs → ∀ b, blk a = some b → ¬ b = r := by
        rintro a e l c xs ho b hb rfl
        obtain ⟨_, hx⟩ := ho
        rcases hx with ⟨rfl, _, _⟩ | ⟨b2, cur, rfl, hb2, _⟩
        · cases hb
        · cases hb; rw [hr] at hb2; cases hb2
      have hbr : bp ≠ r := by rintro rfl; rw [h1] at hr; cases hr
      refine ⟨ls.length - (k + 1), by omega, rfl, rfl, by omega, by omega, k + 1, ?_, by omega, by omega, hch.trans hcr ?_, ⟨qx, qy, qz, by rw [set_other _ _ hbr]; exact hq⟩, ⟨⟨ba, bl, bc, some r, ra, rl, rc, ?_, h2.chg hcr (nr h2), h3, ⟨es', ck', set_same _ _ _, ?_⟩, h5.chg hcr (nr h5), h6, h7, h8, h9, h10⟩, fun b e => hcr.live b (lv b e), s1, s2, l1⟩⟩
      · rw [wi (by omega) (by omega)]; omega
      · rintro b hb rfl
        rcases h10 b rfl with e | e
        · exact e
        · subst e; exact absurd hb9 hb
      · rw [set_other _ _ hbr]; exact h1
      · have e : (fun y => (ls.take (k + 1)).contains y) = fun y => (ls.take k).contains y || y == x := by
          funext y
          rw [List.take_add_one, hx', Bool.eq_iff_iff]
          simp
        rw [e]; exact hk'
  · have e : ls.take k = ls := List.take_of_length_le (by omega)
    rw [e] at hP
    refine h F' mm hch ?_ hP
    rintro b (e | rfl)
    · exact .inl e
    · exact .inr hb9
end Go.E
