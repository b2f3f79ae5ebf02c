/- A file through pages: bytes, plain. -/
import Derived.Test.YtjdkdeekniephaaFI1
set_option linter.unusedVariables false
set_option maxRecDepth 20000
set_option linter.unusedSimpArgs false
namespace Go.E
open Go.H
attribute [local irreducible] BiN MkS ConvN LookN MapUpN CallV HC

/-- Page by page: which are kept, which were read, did all go well. -/
def goP (f : Int → Bool) (most : Int) : List Int → List Int → List Int → List Int × List Int × Bool
  | [], ks, log => (ks, log, true)
  | i :: r, ks, log => if i ∈ ks then goP f most r (useK i ks) log else if f i = true then (ks, log ++ [i], false) else goP f most r (putK most i ks) (log ++ [i])
/-- How many pages. -/
def npg (w a b : Nat) : Nat := if a < b then (b - 1) / w + 1 - a / w else 0
def pgs (w a n : Nat) : List Int := (List.range' (a / w) n).map fun (j : Nat) => (j : Int)
theorem npg_lt {w a b j : Nat} (hw : 1 ≤ w) : j < npg w a b ↔ a < b ∧ (a / w + j) * w < b := by
  unfold npg
  by_cases h : a < b
  · rw [if_pos h]
    have h1 : a / w + j ≤ (b - 1) / w ↔ (a / w + j) * w ≤ b - 1 := Nat.le_div_iff_mul_le (by omega)
    omega
  · rw [if_neg h]; omega
theorem pgs_cons {w a n : Nat} (j : Nat) (h : j < n) : (pgs w a n).drop j = ((a / w + j : Nat) : Int) :: (pgs w a n).drop (j + 1) := by
  have hl : j < (pgs w a n).length := by unfold pgs; simpa using h
  have hg : (pgs w a n)[j]? = some ((a / w + j : Nat) : Int) := by
    unfold pgs
    rw [List.getElem?_map, List.getElem?_range' h]; simp
  rw [List.drop_eq_getElem_cons hl]
  rw [List.getElem?_eq_getElem hl] at hg
  rw [Option.some.inj hg]
def seg (bs : List UInt8) (x y : Nat) : List UInt8 := (bs.drop x).take (y - x)
theorem seg_len {bs : List UInt8} {x y : Nat} (h : y ≤ bs.length) : (seg bs x y).length = y - x := by unfold seg; simp; omega
theorem seg_self (bs : List UInt8) (x : Nat) : seg bs x x = [] := by simp [seg]
theorem seg_join {bs : List UInt8} {x y z : Nat} (h1 : x ≤ y) (h2 : y ≤ z) : seg bs x y ++ seg bs y z = seg bs x z := by
  unfold seg
  rw [show z - x = (y - x) + (z - y) by omega, List.take_add, List.drop_drop, show x + (y - x) = y by omega]
theorem pg_len {bs : List UInt8} {w i : Nat} : (pg bs (w : Int) (i : Int)).length = min w (bs.length - i * w) := by
  have h : ((i : Int) * (w : Int)).toNat = i * w := by rw [← Int.natCast_mul]; rfl
  simp [pg, h]
theorem pg_seg {bs : List UInt8} {w i lo hi : Nat} (h : hi ≤ (pg bs (w : Int) (i : Int)).length) (hl : lo ≤ hi) : ((pg bs (w : Int) (i : Int)).take hi).drop lo = seg bs (i * w + lo) (i * w + hi) := by
  have h2 : ((i : Int) * (w : Int)).toNat = i * w := by rw [← Int.natCast_mul]; rfl
  have hw : hi ≤ w := by rw [pg_len] at h; omega
  unfold pg seg
  rw [h2, Int.toNat_natCast, List.take_take, Nat.min_eq_left hw, List.drop_take, List.drop_drop, show i * w + hi - (i * w + lo) = hi - lo by omega]
theorem pg_cnt {n w i : Nat} (hw : 1 ≤ w) : ((i : Int) < cnt n (w : Int)) ↔ i * w < n := by
  rw [cnt_lt (by omega)]
  rw [← Int.natCast_mul]; omega

section
variable {m m' : Mem} {F G : Nat → Prop} {bf bp : Nat} {bs : List UInt8} {size : Int} {f : Int → Bool} {log : List Int} {most : Int} {ks : List Int}
theorem Fl.pointers (h : Fl m F G bf bp bs size f log most ks) : ∃ bc, m bf = some (.cells #[.pointer (some ⟨bp, 0, none⟩), .pointer (some ⟨bc, 0, none⟩)] T_file_File (0, 0)) := by
  obtain ⟨⟨Fp, Fc, bc, es, p, c, k, i1, i2, i3, hf, he⟩, _⟩ := h
  exact ⟨bc, hf⟩
theorem Fl.pages (h : Fl m F G bf bp bs size f log most ks) : ∃ Fp, Pg m Fp bp bs size f log ∧ ∀ b, Fp b → F b := by
  obtain ⟨⟨Fp, Fc, bc, es, p, c, k, i1, i2, i3, hf, he⟩, _⟩ := h
  exact ⟨Fp, p, i1⟩
theorem Fl.s1 (h : Fl m F G bf bp bs size f log most ks) : 1 ≤ size := by obtain ⟨_, p, _⟩ := h.pages; exact p.s1
theorem Fl.s2 (h : Fl m F G bf bp bs size f log most ks) : size ≤ 512 := by obtain ⟨_, p, _⟩ := h.pages; exact p.s2
theorem Fl.l1 (h : Fl m F G bf bp bs size f log most ks) : bs.length ≤ 4000 := by obtain ⟨_, p, _⟩ := h.pages; exact p.l1

theorem FLen_spec (h : Fl m F G bf bp bs size f log most ks) {R : Ending → Mem → Prop} (k : ∀ m', Le m m' → R (.returned (.int .i64 (bs.length : Nat))) m') : HC P file_File_Len.id #[.pointer (some ⟨bf, 0, none⟩)] m R := by
  obtain ⟨bc, hf⟩ := h.pointers
  obtain ⟨Fp, p, _⟩ := h.pages
  refine file_File_Len.ok _ _ _ ?_
  refine Br.f rfl ?_
  refine LdV.s0 hf ?_
  refine UnP.mk ?_
  refine Len_spec p ?_
  intro m' hle
  exact k m' hle
end

/-- Bytes under way. -/
structure By (m mm : Mem) (F G F' G' : Nat → Prop) (bf bp b6 b7 : Nat) (bs : List UInt8) (size : Int) (f : Int → Bool) (log : List Int) (most : Int) (ks : List Int) (sa : Option Addr) (sc : Nat) (got : List UInt8) : Prop where
  fl : Fl mm F' G' bf bp bs size f log most ks
  ch : Chg F m mm
  gF : ∀ b, F' b → F b ∨ m b = none
  gG : ∀ b, G' b → G b ∨ m b = none
  inG : ∀ b, G b → G' b
  e6 : mm b6 = some (.cells #[.slice sa got.length sc] T_sl_uint8 (0, 0))
  e7 : mm b7 = some (.cells #[.int .i64 0] T_api_Errno (0, 0))
  n67 : b6 ≠ b7
  w6 : m b6 = none ∧ ¬ F' b6 ∧ ¬ G' b6
  w7 : m b7 = none ∧ ¬ F' b7 ∧ ¬ G' b7
  own : Own mm T_uint8 1 sa got.length sc (u8s got)
  fr : ∀ b, blk sa = some b → m b = none ∧ ¬ F' b ∧ ¬ G' b
section
variable {m mm : Mem} {F G F' G' : Nat → Prop} {bf bp b6 b7 : Nat} {bs : List UInt8} {size : Int} {f : Int → Bool} {log : List Int} {most : Int} {ks : List Int} {sa : Option Addr} {sc : Nat} {got : List UInt8}
/-- Behind a page. -/
theorem By.page (h : By m mm F G F' G' bf bp b6 b7 bs size f log most ks sa sc got) {F2 G2 : Nat → Prop} {m1 : Mem} {log2 ks2 : List Int} (hch : Chg F' mm m1) (gF : ∀ b, F2 b → F' b ∨ mm b = none) (gG : ∀ b, G2 b → G' b ∨ mm b = none) (inG : ∀ b, G' b → G2 b)
    (fl : Fl m1 F2 G2 bf bp bs size f log2 most ks2) : By m m1 F G F2 G2 bf bp b6 b7 bs size f log2 most ks2 sa sc got where
  fl := fl
  ch := h.ch.trans hch fun b hb e => (h.gF b e).elim id fun x => absurd x hb
  gF b e := (gF b e).elim (h.gF b) fun x => .inr (h.ch.new x)
  gG b e := (gG b e).elim (h.gG b) fun x => .inr (h.ch.new x)
  inG b e := inG b (h.inG b e)
  e6 := hch.eq _ _ h.e6 h.w6.2.1
  e7 := hch.eq _ _ h.e7 h.w7.2.1
  n67 := h.n67
  w6 := ⟨h.w6.1, fun e => (gF _ e).elim h.w6.2.1 (fun x => absurd (h.e6.symm.trans x) (by simp)), fun e => (gG _ e).elim h.w6.2.2 (fun x => absurd (h.e6.symm.trans x) (by simp))⟩
  w7 := ⟨h.w7.1, fun e => (gF _ e).elim h.w7.2.1 (fun x => absurd (h.e7.symm.trans x) (by simp)), fun e => (gG _ e).elim h.w7.2.2 (fun x => absurd (h.e7.symm.trans x) (by simp))⟩
  own := h.own.chg hch fun b e => (h.fr b e).2.1
  fr b e := ⟨(h.fr b e).1, fun x => (gF b x).elim (h.fr b e).2.1 (fun y => h.own.live b e y), fun x => (gG b x).elim (h.fr b e).2.2 (fun y => h.own.live b e y)⟩
/-- What was got grows. -/
theorem By.grow (h : By m mm F G F' G' bf bp b6 b7 bs size f log most ks sa sc got) {m3 : Mem} {sa' : Option Addr} {sc' : Nat} {new : List UInt8} (hch : Chg (fun b => blk sa = some b) mm m3) (ho : Own m3 T_uint8 1 sa' (got ++ new).length sc' (u8s (got ++ new))) (hfr : blk sa' = blk sa ∨ Fresh mm sa')
    {K : Mem → Prop} (k : ∀ m4, By m m4 F G F' G' bf bp b6 b7 bs size f log most ks sa' sc' (got ++ new) → K m4) : St1 m3 b6 0 (.slice sa' (got ++ new).length sc') K := by
  have n6 : ¬ blk sa = some b6 := own_ne h.own h.e6 (by decide)
  have n7 : ¬ blk sa = some b7 := own_ne h.own h.e7 (by decide)
  have hx6 := hch.eq _ _ h.e6 n6
  refine St1.to #[.slice sa' (got ++ new).length sc'] hx6 (by simp) rfl rfl ?_
  have hc := Chg.set m3 b6 (.cells #[.slice sa' (got ++ new).length sc'] T_sl_uint8 (0, 0))
  have hn6 : blk sa' ≠ some b6 := own_ne ho hx6 (by decide)
  have hF : ∀ b, F' b → ¬ blk sa = some b := fun b e x => (h.fr b x).2.1 e
  have hG : ∀ b, G' b → ¬ blk sa = some b := fun b e x => (h.fr b x).2.2 e
  have frs : ∀ b, blk sa' = some b → m b = none ∧ ¬ F' b ∧ ¬ G' b := by
    intro b e
    rcases hfr with e2 | e2
    · exact h.fr b (e2 ▸ e)
    · exact ⟨h.ch.new (e2 b e), fun x => h.fl.lv b (.inl x) (e2 b e), fun x => h.fl.lv b (.inr x) (e2 b e)⟩
  refine k _ ⟨(h.fl.chg hch hF hG).chg hc (fun b e x => by subst x; exact h.w6.2.1 e) (fun b e x => by subst x; exact h.w6.2.2 e), ?_, h.gF, h.gG, h.inG, set_same _ _ _, ?_, h.n67, h.w6, h.w7, ho.chg hc (fun b e x => by subst x; exact hn6 e), frs⟩
  · refine (h.ch.trans hch (fun b hb e => absurd (h.fr b e).1 hb)).trans hc (fun b hb e => ?_)
    subst e; exact absurd h.w6.1 hb
  · rw [set_other _ _ h.n67.symm]; exact hch.eq _ _ h.e7 n7
end
end Go.E
