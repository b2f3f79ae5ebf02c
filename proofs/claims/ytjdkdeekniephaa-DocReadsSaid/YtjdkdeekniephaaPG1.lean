/- The page layer: what its functions do. -/
import Derived.Test.YtjdkdeekniephaaH10
import Derived.Test.YtjdkdeekniephaaEU
set_option linter.unusedVariables false
set_option maxRecDepth 20000
namespace Go.E
open Go.H
attribute [local irreducible] BiN MkS ConvN LookN MapUpN CallV HC

theorem mIB : MapIB P T_map_int_bool := .of (by kernel_rfl)

theorem clone_u8 {m : Mem} {a : Option Addr} {l c : Nat} {bs : List UInt8} (hc : CellsAt m a (u8s bs)) (hl : bs.length = l) (hlen : l ≤ 1000000000) {R : Ending → Mem → Prop}
    (h : ∀ a' c' m', Le m m' → Own m' T_uint8 1 a' l c' (u8s bs) → Fresh m a' → R (.returned (.slice a' l c')) m') :
    HC P slices_Clone_s_byte_byte.id #[.slice a l c] m R := by
  refine slices_Clone_s_byte_byte.ok _ _ _ _ _ ?_
  unfold slices_Clone_s_byte_byte.e0
  cases a with
  | none =>
    refine Br.t rfl ?_
    have e : bs = [] := by
      have h0 : u8s bs = [] := hc
      simpa [u8s] using h0
    subst e
    subst hl
    exact h none 0 m (Le.refl m) (Own.nil _ _ _) (Fresh.none m)
  | some a =>
    refine Br.f rfl ?_
    intro b5 hb
    refine clone_gen eU8 (by decide) hc (by simp [u8s, hl]) (u8s_one bs) (by omega) (by omega) ?_ b5 hb
    exact h

theorem clone_int {m : Mem} {a : Option Addr} {l c : Nat} {xs : List Int} (hc : CellsAt m a (ints xs)) (hl : xs.length = l) (hlen : l ≤ 1000000000) {R : Ending → Mem → Prop}
    (h : ∀ a' c' m', Le m m' → Own m' T_int 1 a' l c' (ints xs) → Fresh m a' → R (.returned (.slice a' l c')) m') :
    HC P slices_Clone_s_int_int.id #[.slice a l c] m R := by
  refine slices_Clone_s_int_int.ok _ _ _ _ _ ?_
  unfold slices_Clone_s_int_int.e0
  cases a with
  | none =>
    refine Br.t rfl ?_
    have e : xs = [] := by
      have h0 : ints xs = [] := hc
      simpa [ints] using h0
    subst e
    subst hl
    exact h none 0 m (Le.refl m) (Own.nil _ _ _) (Fresh.none m)
  | some a =>
    refine Br.f rfl ?_
    intro b5 hb
    refine clone_gen eInt (by decide) hc (by simp [ints, hl]) (ints_one xs) (by omega) (by omega) ?_ b5 hb
    exact h

/-- The faults' map. -/
def Flt (m : Mem) (fa : Option Nat) (f : Int → Bool) : Prop :=
  match fa with
  | none => ∀ k, f k = false
  | some r => ∃ es ck, m r = some (.map es ck) ∧ KeysOf es f
/-- A *Pages: its block, what it spells, how great a page is, what fails, what was read. -/
structure Pg (m : Mem) (F : Nat → Prop) (bp : Nat) (bs : List UInt8) (size : Int) (f : Int → Bool) (log : List Int) : Prop where
  ex : ∃ ba bl bc fa ra rl rc, m bp = some (.cells #[.slice ba bl bc, .int .i64 size, .map fa, .slice ra rl rc] T_page_Pages (0, 0)) ∧
    Own m T_uint8 1 ba bl bc (u8s bs) ∧ bs.length = bl ∧ Flt m fa f ∧ Own m T_int 1 ra rl rc (ints log) ∧ log.length = rl ∧
    F bp ∧ (∀ b, blk ba = some b → F b) ∧ (∀ b, blk ra = some b → F b) ∧ ∀ b, fa = some b → F b
  lv : ∀ b, F b → m b ≠ none
  s1 : 1 ≤ size
  s2 : size ≤ 512
  l1 : bs.length ≤ 4000

theorem Flt.le {m m' : Mem} (h : Le m m') {fa : Option Nat} {f : Int → Bool} (k : Flt m fa f) : Flt m' fa f := by
  cases fa with
  | none => exact k
  | some r => obtain ⟨es, ck, h1, h2⟩ := k; exact ⟨es, ck, h _ _ h1, h2⟩
theorem Flt.chg {S : Nat → Prop} {m m' : Mem} (h : Chg S m m') {fa : Option Nat} {f : Int → Bool} (k : Flt m fa f) (hn : ∀ b, fa = some b → ¬ S b) : Flt m' fa f := by
  cases fa with
  | none => exact k
  | some r => obtain ⟨es, ck, h1, h2⟩ := k; exact ⟨es, ck, h.eq _ _ h1 (hn r rfl), h2⟩
theorem Pg.le {m m' : Mem} (h : Le m m') {F : Nat → Prop} {bp : Nat} {bs : List UInt8} {size : Int} {f : Int → Bool} {log : List Int} (k : Pg m F bp bs size f log) : Pg m' F bp bs size f log := by
  obtain ⟨⟨ba, bl, bc, fa, ra, rl, rc, h1, h2, h3, h4, h5, h6, h7⟩, lv, s1, s2, l1⟩ := k
  exact ⟨⟨ba, bl, bc, fa, ra, rl, rc, h _ _ h1, h2.le h, h3, h4.le h, h5.le h, h6, h7⟩, fun b hb => h.live (lv b hb), s1, s2, l1⟩
theorem Pg.chg {S : Nat → Prop} {m m' : Mem} (h : Chg S m m') {F : Nat → Prop} {bp : Nat} {bs : List UInt8} {size : Int} {f : Int → Bool} {log : List Int} (k : Pg m F bp bs size f log) (hn : ∀ b, F b → ¬ S b) : Pg m' F bp bs size f log := by
  obtain ⟨⟨ba, bl, bc, fa, ra, rl, rc, h1, h2, h3, h4, h5, h6, h7, h8, h9, h10⟩, lv, s1, s2, l1⟩ := k
  exact ⟨⟨ba, bl, bc, fa, ra, rl, rc, h.eq _ _ h1 (hn _ h7), h2.chg h (fun b e => hn _ (h8 b e)), h3, h4.chg h (fun b e => hn _ (h10 b e)), h5.chg h (fun b e => hn _ (h9 b e)), h6, h7, h8, h9, h10⟩, fun b hb => h.live b (lv b hb), s1, s2, l1⟩

theorem New_spec {m : Mem} {a : Option Addr} {l c : Nat} {bs : List UInt8} {size : Int} (hc : CellsAt m a (u8s bs)) (hl : bs.length = l) {R : Ending → Mem → Prop}
    (hbad : size < 1 ∨ 512 < size ∨ 4000 < l → R (.returned (.tuple #[.pointer none, .int .i64 1])) m)
    (h : 1 ≤ size → size ≤ 512 → l ≤ 4000 → ∀ bp F m', Le m m' → (∀ b, F b → m b = none) → Pg m' F bp bs size (fun _ => false) [] → R (.returned (.tuple #[.pointer (some ⟨bp, 0, none⟩), .int .i64 0])) m') :
    HC P page_New.id #[.slice a l c, .int .i64 size] m R := by
  refine page_New.ok _ _ _ _ _ _ ?_
  refine BrD (fun h1 => hbad (.inl h1)) (fun h1 => ?_)
  refine BrD (fun h2 => hbad (.inr (.inl h2))) (fun h2 => ?_)
  refine BrD (fun h3 => hbad (.inr (.inr (by omega)))) (fun h3 => ?_)
  refine clone_u8 hc hl (by omega) ?_
  intro a' c' m1 hle ho hf
  intro bp hbp
  refine h (by omega) (by omega) (by omega) bp (fun b => b = bp ∨ blk a' = some b) _ (hle.trans (Le.set hbp _)) ?_ ⟨?_, ?_, by omega, by omega, by omega⟩
  · rintro b (rfl | e)
    · exact Fresh.le hle (a := some ⟨b, 0, none⟩) (by intro b e; cases e; exact hbp) b rfl
    · exact hf b e
  · exact ⟨a', l, c', none, none, 0, 0, set_same _ _ _, ho.le (Le.set hbp _), hl, fun _ => rfl, Own.nil _ _ _, rfl, .inl rfl, fun b e => .inr e, fun b e => (by cases e), fun b e => (by cases e)⟩
  · rintro b (rfl | e)
    · rw [set_same]; simp
    · exact (Le.set hbp _).live (ho.live b e)
end Go.E
