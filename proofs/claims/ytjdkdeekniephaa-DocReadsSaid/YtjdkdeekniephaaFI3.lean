/- A file through pages: Bytes. -/
import Derived.Test.YtjdkdeekniephaaFI2
set_option linter.unusedVariables false
set_option linter.unusedSimpArgs false
set_option maxRecDepth 20000
namespace Go.E
open Go.H
attribute [local irreducible] BiN MkS ConvN LookN MapUpN CallV HC

theorem npg_mul {w a b j : Nat} (hw : 1 ≤ w) (hj : j ≤ npg w a b) : (a / w + j) * w ≤ a + b + w := by
  cases j with
  | zero => have := Nat.div_mul_le_self a w; rw [Nat.add_zero]; omega
  | succ j =>
    have := ((npg_lt hw).mp hj).2
    rw [show a / w + (j + 1) = (a / w + j) + 1 by omega, Nat.add_mul, Nat.one_mul]; omega
theorem npg_le {w a b : Nat} (h : b ≤ 4000) : npg w a b ≤ 4001 := by
  unfold npg
  split
  · have := Nat.div_le_self (b - 1) w
    generalize (b - 1) / w = y at this
    generalize a / w = z
    omega
  · omega
theorem u8s_one (bs : List UInt8) : ∀ v ∈ u8s bs, notOne v = false := by
  intro v hv
  unfold u8s at hv
  rw [List.mem_map] at hv
  obtain ⟨x, _, rfl⟩ := hv
  rfl
section
variable {m mm : Mem} {F G F' G' : Nat → Prop} {bf bp b6 b7 : Nat} {bs : List UInt8} {size : Int} {f : Int → Bool} {log : List Int} {most : Int} {ks : List Int} {sa : Option Addr} {sc : Nat} {got : List UInt8} {R : Ending → Mem → Prop}
/-- An answer that was refused. -/
theorem early {x : Value} {y : Value} {e : Int} (hle : Le m mm) (h6 : mm b6 = some (.cells #[x] T_sl_uint8 (0, 0))) (h7 : mm b7 = some (.cells #[y] T_api_Errno (0, 0))) (w6 : m b6 = none) (w7 : m b7 = none)
    (k : ∀ m', Le m m' → R (.returned (.tuple #[.slice none 0 0, .int .i64 e])) m') :
    St1 mm b6 0 (.slice none 0 0) fun m3 => St1 m3 b7 0 (.int .i64 e) fun m4 => LdV m4 b6 0 fun v => UnS v fun res0a res0l res0c => LdV m4 b7 0 fun v => UnI v .i64 fun res1 => R (.returned (.tuple #[.slice res0a res0l res0c, .int .i64 res1])) m4 := by
  have hne : b6 ≠ b7 := by rintro rfl; rw [h6] at h7; cases h7
  refine St1.to #[.slice none 0 0] h6 (by simp) rfl rfl ?_
  refine St1.to #[.int .i64 e] (by rw [set_other _ _ hne.symm]; exact h7) (by simp) rfl rfl ?_
  refine LdV.s0 (by rw [set_other _ _ hne]; exact set_same _ _ _) ?_
  refine UnS.mk ?_
  refine LdV.s0 (set_same _ _ _) ?_
  refine UnI.mk ?_
  refine k _ ?_
  have h1 := Chg.to_le (Chg.set mm b6 (.cells #[.slice none 0 0] T_sl_uint8 (0, 0))) hle (fun b e => by rw [show b = b6 from e]; exact w6)
  exact Chg.to_le (Chg.set _ b7 _) h1 (fun b e => by rw [show b = b7 from e]; exact w7)

/-- Out of bounds. -/
theorem Bytes_out (h : Fl m F G bf bp bs size f log most ks) {a b : Int} (hab : a < 0 ∨ b < a ∨ (bs.length : Int) < b) (k : ∀ m', Le m m' → R (.returned (.tuple #[.slice none 0 0, .int .i64 1])) m') :
    HC P file_File_Bytes.id #[.pointer (some ⟨bf, 0, none⟩), .int .i64 a, .int .i64 b] m R := by
  obtain ⟨bc, hf⟩ := h.pointers
  refine file_File_Bytes.ok _ _ _ _ _ ?_
  intro b6 w6 b7 w7
  have hle6 := Le.set w6 (.cells #[.slice none 0 0] T_sl_uint8 (0, 0))
  have hle7 := Le.set w7 (.cells #[.int .i64 0] T_api_Errno (0, 0))
  have hle := hle6.trans hle7
  have h6 := hle7 _ _ (set_same m b6 (.cells #[.slice none 0 0] T_sl_uint8 (0, 0)))
  have h7 := set_same (m.set b6 (.cells #[.slice none 0 0] T_sl_uint8 (0, 0))) b7 (.cells #[.int .i64 0] T_api_Errno (0, 0))
  have w7' := hle6.new w7
  refine Br.f rfl ?_
  refine LdV.s0 (hle _ _ hf) ?_
  refine UnP.mk ?_
  refine Br.f rfl ?_
  refine BrD (fun h1 => early hle h6 h7 w6 w7' k) (fun h1 => ?_)
  refine BrD (fun h2 => early hle h6 h7 w6 w7' k) (fun h2 => ?_)
  refine FLen_spec (h.le hle) ?_
  intro m3 hle3
  refine BrDt (by omega) ?_
  exact early (hle.trans hle3) (hle3 _ _ h6) (hle3 _ _ h7) w6 w7' k
theorem Bytes_nil {a b : Int} (k : ∀ m', Le m m' → R (.returned (.tuple #[.slice none 0 0, .int .i64 1])) m') : HC P file_File_Bytes.id #[.pointer none, .int .i64 a, .int .i64 b] m R := by
  refine file_File_Bytes.ok _ _ _ _ _ ?_
  intro b6 w6 b7 w7
  have hle6 := Le.set w6 (.cells #[.slice none 0 0] T_sl_uint8 (0, 0))
  have hle7 := Le.set w7 (.cells #[.int .i64 0] T_api_Errno (0, 0))
  have h6 := hle7 _ _ (set_same m b6 (.cells #[.slice none 0 0] T_sl_uint8 (0, 0)))
  refine Br.t rfl ?_
  exact early (hle6.trans hle7) h6 (set_same _ _ _) w6 (hle6.new w7) k

/-- The end of Bytes. -/
theorem Bytes_end {Y : Prop} (h : By m mm F G F' G' bf bp b6 b7 bs size f log most ks sa sc got)
    (k : ∀ m', Chg F m m' → Fl m' F' G' bf bp bs size f log most ks → Own m' T_uint8 1 sa got.length sc (u8s got) → R (.returned (.tuple #[.slice sa got.length sc, .int .i64 0])) m') :
    LdV mm b6 0 fun v => UnS v fun x77a x77l x77c => St1 mm b6 0 (.slice x77a x77l x77c) fun m1 => St1 m1 b7 0 (.int .i64 0) fun m2 =>
      DefR P file_File_Bytes_1.id #[.pointer (some ⟨b6, 0, none⟩), .pointer (some ⟨b7, 0, none⟩)] (file_File_Bytes.out b6 0 b7 0 R) (.returned (.tuple #[])) m2 := by
  refine LdV.s0 h.e6 ?_
  refine UnS.mk ?_
  refine St1.to #[.slice sa got.length sc] h.e6 (by simp) rfl rfl ?_
  refine St1.to #[.int .i64 0] (by rw [set_other _ _ h.n67.symm]; exact h.e7) (by simp) rfl rfl ?_
  refine file_File_Bytes_1.df_none _ _ _ _ ?_
  have h1 := Chg.set mm b6 (.cells #[.slice sa got.length sc] T_sl_uint8 (0, 0))
  have h2 := Chg.set (mm.set b6 (.cells #[.slice sa got.length sc] T_sl_uint8 (0, 0))) b7 (.cells #[.int .i64 0] T_api_Errno (0, 0))
  refine LdV.s0 (by rw [set_other _ _ h.n67]; exact set_same _ _ _) ?_
  refine UnS.mk ?_
  refine LdV.s0 (set_same _ _ _) ?_
  refine UnI.mk ?_
  have n6 : ¬ blk sa = some b6 := own_ne h.own h.e6 (by decide)
  have n7 : ¬ blk sa = some b7 := own_ne h.own h.e7 (by decide)
  refine k _ ((h.ch.trans h1 fun b hb e => ?_).trans h2 fun b hb e => ?_) ((h.fl.chg h1 ?_ ?_).chg h2 ?_ ?_) ((h.own.chg h1 ?_).chg h2 ?_)
  · subst e; exact absurd h.w6.1 hb
  · subst e; exact absurd h.w7.1 hb
  · rintro b e rfl; exact h.w6.2.1 e
  · rintro b e rfl; exact h.w6.2.2 e
  · rintro b e rfl; exact h.w7.2.1 e
  · rintro b e rfl; exact h.w7.2.2 e
  · rintro b e rfl; exact n6 e
  · rintro b e rfl; exact n7 e
/-- What a page that can't be read leaves. -/
theorem Bytes_fail (h : By m mm F G F' G' bf bp b6 b7 bs size f log most ks sa sc got) {e : Int}
    (k : ∀ m', Chg F m m' → Fl m' F' G' bf bp bs size f log most ks → R (.returned (.tuple #[.slice none 0 0, .int .i64 e])) m') :
    DefR P file_File_Bytes_1.id #[.pointer (some ⟨b6, 0, none⟩), .pointer (some ⟨b7, 0, none⟩)] (file_File_Bytes.out b6 0 b7 0 R) (.panicked [{ v := .iface T_api_Errno (.int .i64 e), recovered := false }]) mm := by
  refine ⟨_, rfl, file_File_Bytes_1.df_some _ _ _ _ _ ?_⟩
  refine St1.to #[.slice none 0 0] h.e6 (by simp) rfl rfl ?_
  refine St1.to #[.int .i64 e] (by rw [set_other _ _ h.n67.symm]; exact h.e7) (by simp) rfl rfl ?_
  have h1 := Chg.set mm b6 (.cells #[.slice none 0 0] T_sl_uint8 (0, 0))
  have h2 := Chg.set (mm.set b6 (.cells #[.slice none 0 0] T_sl_uint8 (0, 0))) b7 (.cells #[.int .i64 e] T_api_Errno (0, 0))
  refine LdV.s0 (by rw [set_other _ _ h.n67]; exact set_same _ _ _) ?_
  refine UnS.mk ?_
  refine LdV.s0 (set_same _ _ _) ?_
  refine UnI.mk ?_
  refine k _ ((h.ch.trans h1 fun b hb e => ?_).trans h2 fun b hb e => ?_) ((h.fl.chg h1 ?_ ?_).chg h2 ?_ ?_)
  · subst e; exact absurd h.w6.1 hb
  · subst e; exact absurd h.w7.1 hb
  · rintro b e rfl; exact h.w6.2.1 e
  · rintro b e rfl; exact h.w6.2.2 e
  · rintro b e rfl; exact h.w7.2.1 e
  · rintro b e rfl; exact h.w7.2.2 e
end

section
variable {m : Mem} {F G : Nat → Prop} {bf bp : Nat} {bs : List UInt8} {w : Nat} {f : Int → Bool} {log : List Int} {most : Int} {ks : List Int} {R : Ending → Mem → Prop}
theorem Bytes_spec (h : Fl m F G bf bp bs (w : Int) f log most ks) {a b : Nat} (hab : a ≤ b) (hb : b ≤ bs.length) (hlog : log.length ≤ 900000) {ks' log' : List Int} {ok : Bool} (hgo : goP f most (pgs w a (npg w a b)) ks log = (ks', log', ok))
    (good : ok = true → ∀ F' G' m' sa sc, Chg F m m' → (∀ b, F' b → F b ∨ m b = none) → (∀ b, G' b → G b ∨ m b = none) → (∀ b, G b → G' b) → Fl m' F' G' bf bp bs (w : Int) f log' most ks' → Own m' T_uint8 1 sa (b - a) sc (u8s (seg bs a b)) →
      (∀ x, blk sa = some x → m x = none ∧ ¬ F' x ∧ ¬ G' x) → R (.returned (.tuple #[.slice sa (b - a) sc, .int .i64 0])) m')
    (bad : ok = false → ∀ F' G' m', Chg F m m' → (∀ b, F' b → F b ∨ m b = none) → (∀ b, G' b → G b ∨ m b = none) → (∀ b, G b → G' b) → Fl m' F' G' bf bp bs (w : Int) f log' most ks' → R (.returned (.tuple #[.slice none 0 0, .int .i64 11])) m') :
    HC P file_File_Bytes.id #[.pointer (some ⟨bf, 0, none⟩), .int .i64 (a : Int), .int .i64 (b : Int)] m R := by
  have hw1 : 1 ≤ w := by have := h.s1; omega
  have hw2 : w ≤ 512 := by have := h.s2; omega
  have hl1 := h.l1
  have hf := h.pointers
  refine file_File_Bytes.ok _ _ _ _ _ ?_
  intro b6 w6 b7 w7
  have hle6 := Le.set w6 (.cells #[.slice none 0 0] T_sl_uint8 (0, 0))
  have hle7 := Le.set w7 (.cells #[.int .i64 0] T_api_Errno (0, 0))
  have hle := hle6.trans hle7
  have h6 := hle7 _ _ (set_same m b6 (.cells #[.slice none 0 0] T_sl_uint8 (0, 0)))
  have h7 := set_same (m.set b6 (.cells #[.slice none 0 0] T_sl_uint8 (0, 0))) b7 (.cells #[.int .i64 0] T_api_Errno (0, 0))
  have w7' := hle6.new w7
  obtain ⟨bc, hf⟩ := hf
  refine Br.f rfl ?_
  refine LdV.s0 (hle _ _ hf) ?_
  refine UnP.mk ?_
  refine Br.f rfl ?_
  refine BrDf (by omega) ?_
  refine BrDf (by omega) ?_
  refine FLen_spec (h.le hle) ?_
  intro m3 hle3
  refine BrDf (by omega) ?_
  have hl3 := hle.trans hle3
  have n67 : b6 ≠ b7 := by rintro rfl; rw [set_same] at w7; cases w7
  refine LdV.s0 (hl3 _ _ hf) ?_
  refine UnP.mk ?_
  obtain ⟨Fp, p, _⟩ := h.pages
  refine Size_spec (p.le hl3) ?_
  intro m4 hle4
  have hl4 := hl3.trans hle4
  refine NzI.mk (by omega) ?_
  have nl : ∀ {b : Nat} {K : Nat → Prop}, m b = none → (∀ b, K b → m b ≠ none) → ¬ K b := fun hb hk x => hk _ x hb
  have hBy : By m m4 F G F G bf bp b6 b7 bs (w : Int) f log most ks none 0 (seg bs a (max a (min ((a / w + 0) * w) b))) := by
    have e : seg bs a (max a (min ((a / w + 0) * w) b)) = [] := by
      have := Nat.div_mul_le_self a w
      rw [show max a (min ((a / w + 0) * w) b) = a by rw [Nat.add_zero]; omega]; exact seg_self _ _
    rw [e]
    exact ⟨h.le hl4, hl4.chg _, fun _ e => .inl e, fun _ e => .inl e, fun _ e => e, hle4 _ _ (hle3 _ _ h6), hle4 _ _ (hle3 _ _ h7), n67,
      ⟨w6, fun x => h.lv _ (.inl x) w6, fun x => h.lv _ (.inr x) w6⟩, ⟨w7', fun x => h.lv _ (.inl x) w7', fun x => h.lv _ (.inr x) w7'⟩, Own.nil _ _ _, fun b e => by cases e⟩
  have hdiv : IntKind.i64.wrap (Int.tdiv (a : Int) (w : Int)) = ((a / w + 0 : Nat) : Int) := by
    rw [Int.tdiv_eq_ediv_of_nonneg (by omega), Nat.add_zero]
    have : (a : Int) / (w : Int) = ((a / w : Nat) : Int) := (Int.natCast_ediv a w).symm
    have h2 := Nat.div_le_self a w
    rw [this]
    generalize a / w = z at h2
    rw [wi (by omega) (by omega)]
  rw [hdiv]
  refine ⟨fun N x0 x1 x2 x6b x6o x7b x7o x8 x9 mm => x0 = some ⟨bf, 0, none⟩ ∧ x1 = (a : Int) ∧ x2 = (b : Int) ∧ x6b = b6 ∧ x6o = 0 ∧ x7b = b7 ∧ x7o = 0 ∧ x8 = (w : Int) ∧
    ∃ (j : Nat) (F' G' : Nat → Prop) (lg kk : List Int) (sa : Option Addr) (sc : Nat), x9 = ((a / w + j : Nat) : Int) ∧ N = npg w a b - j ∧ j ≤ npg w a b ∧ By m mm F G F' G' bf bp b6 b7 bs (w : Int) f lg most kk sa sc (seg bs a (max a (min ((a / w + j) * w) b))) ∧
      goP f most ((pgs w a (npg w a b)).drop j) kk lg = (ks', log', ok) ∧ lg.length ≤ log.length + j, npg w a b,
    ⟨rfl, rfl, rfl, rfl, rfl, rfl, rfl, rfl, 0, F, G, log, ks, none, 0, rfl, rfl, by omega, hBy, hgo, by omega⟩, ?_⟩
  rintro N x0 x1 x2 x6b x6o x7b x7o x8 x9 mm ⟨rfl, rfl, rfl, rfl, rfl, rfl, rfl, rfl, j, F', G', lg, kk, sa, sc, rfl, rfl, hj, hB, hg, hlg⟩
  have hq := npg_mul hw1 hj
  obtain ⟨q, hqe⟩ : ∃ q, q = (a / w + j) * w := ⟨_, rfl⟩
  rw [← hqe] at hq hB
  have hmul : ((a / w + j : Nat) : Int) * (w : Int) = (q : Int) := by rw [hqe, Int.natCast_mul]
  have hwr : IntKind.i64.wrap (((a / w + j : Nat) : Int) * (w : Int)) = (q : Int) := by rw [hmul, wi (by omega) (by omega)]
  unfold file_File_Bytes.l2B
  rw [hwr]
  have hlt := npg_lt (w := w) (a := a) (b := b) (j := j) hw1
  rw [← hqe] at hlt
  -- the end
  have fin : ¬ (a < b ∧ q < b) → LdV mm x6b 0 fun v => UnS v fun x77a x77l x77c => St1 mm x6b 0 (.slice x77a x77l x77c) fun m1 => St1 m1 x7b 0 (.int .i64 0) fun m2 =>
      DefR P file_File_Bytes_1.id #[.pointer (some ⟨x6b, 0, none⟩), .pointer (some ⟨x7b, 0, none⟩)] (file_File_Bytes.out x6b 0 x7b 0 R) (.returned (.tuple #[])) m2 := by
    intro hno
    have hjn : ¬ j < npg w a b := fun hx => hno (hlt.mp hx)
    have he : max a (min q b) = b := by
      by_cases hh : a < b
      · have : ¬ q < b := fun hx => hno ⟨hh, hx⟩
        omega
      · omega
    rw [he] at hB
    have hjj : (pgs w a (npg w a b)).drop j = [] := by
      apply List.drop_eq_nil_of_le
      unfold pgs; simp; omega
    rw [hjj] at hg
    simp only [goP, Prod.mk.injEq] at hg
    obtain ⟨rfl, rfl, rfl⟩ := hg
    have hsl := seg_len (bs := bs) (x := a) hb
    refine Bytes_end (Y := True) hB ?_
    intro m' hch hfl hown
    rw [hsl] at hown ⊢
    exact good rfl F' G' m' sa sc hch hB.gF hB.gG hB.inG hfl hown hB.fr
  refine BrD (fun hqb => ?_) (fun hqb => fin (fun hx => hqb (by omega)))
  refine BrD (fun hab2 => ?_) (fun hab2 => fin (fun hx => hab2 (by omega)))
  have hjn : j < npg w a b := hlt.mpr ⟨by omega, by omega⟩
  have hjl : npg w a b ≤ 4001 := npg_le (by omega)
  rw [pgs_cons j hjn] at hg
  have hcnt : ((a / w + j : Nat) : Int) < cnt bs.length (w : Int) := by rw [pg_cnt hw1, ← hqe]; omega
  -- behind a page
  have nxt : ∀ (F2 G2 : Nat → Prop) (m1 : Mem) (log2 ks2 : List Int) (v : ZB.A), By m m1 F G F2 G2 bf bp x6b x7b bs (w : Int) f log2 most ks2 sa sc (seg bs a (max a (min q b))) → Row m1 G2 bs (w : Int) ((a / w + j : Nat) : Int) v →
      goP f most ((pgs w a (npg w a b)).drop (j + 1)) ks2 log2 = (ks', log', ok) → log2.length ≤ log.length + (j + 1) →
      Sub m1 fun r2 => LdV r2 x6b 0 fun v0 => UnS v0 fun x59a x59l x59c =>
        SlS v.1 v.2.2 (if 0 > (IntKind.i64.wrap ((a : Int) - (q : Int))) then 0 else IntKind.i64.wrap ((a : Int) - (q : Int))) (if ((v.2.1 : Nat) : Int) < (IntKind.i64.wrap ((b : Int) - (q : Int))) then ((v.2.1 : Nat) : Int) else IntKind.i64.wrap ((b : Int) - (q : Int))) 1 fun x75a x75l x75c =>
          BiN P .append #[T_sl_uint8, T_sl_uint8] T_sl_uint8 #[false, false] #[.slice x59a x59l x59c, .slice x75a x75l x75c] m1 (fun w3 m3 =>
            UnS w3 fun x76a x76l x76c => St1 m3 x6b 0 (.slice x76a x76l x76c) fun m4 =>
              ∃ N1, N1 < npg w a b - j ∧ ((some ⟨bf, 0, none⟩ : Option Addr) = some ⟨bf, 0, none⟩ ∧ (a : Int) = (a : Int) ∧ (b : Int) = (b : Int) ∧ x6b = x6b ∧ 0 = 0 ∧ x7b = x7b ∧ 0 = 0 ∧ (w : Int) = (w : Int) ∧
                ∃ (j' : Nat) (F' G' : Nat → Prop) (lg kk : List Int) (sa : Option Addr) (sc : Nat), IntKind.i64.wrap (((a / w + j : Nat) : Int) + 1) = ((a / w + j' : Nat) : Int) ∧ N1 = npg w a b - j' ∧ j' ≤ npg w a b ∧ By m m4 F G F' G' bf bp x6b x7b bs (w : Int) f lg most kk sa sc (seg bs a (max a (min ((a / w + j') * w) b))) ∧
                  goP f most ((pgs w a (npg w a b)).drop j') kk lg = (ks', log', ok) ∧ lg.length ≤ log.length + j'))
            (panicR (DefR P file_File_Bytes_1.id #[.pointer (some ⟨x6b, 0, none⟩), .pointer (some ⟨x7b, 0, none⟩)] (file_File_Bytes.out x6b 0 x7b 0 R))) := by
    intro F2 G2 m1 log2 ks2 v hB1 hrow hg2 hl2
    have hpl := pg_len (bs := bs) (w := w) (i := a / w + j)
    rw [← hqe] at hpl
    obtain ⟨r1, r2, r3, r4⟩ := hrow
    rw [hpl] at r1
    refine ⟨m1, Le.refl _, ?_⟩
    refine LdV.s0 hB1.e6 ?_
    refine UnS.mk ?_
    rw [wi (n := (a : Int) - (q : Int)) (by omega) (by omega), wi (n := (b : Int) - (q : Int)) (by omega) (by omega)]
    have elo : (if 0 > (a : Int) - (q : Int) then 0 else (a : Int) - (q : Int)) = ((a - q : Nat) : Int) := by split <;> omega
    have ehi : (if ((v.2.1 : Nat) : Int) < (b : Int) - (q : Int) then ((v.2.1 : Nat) : Int) else (b : Int) - (q : Int)) = ((min v.2.1 (b - q) : Nat) : Int) := by split <;> omega
    rw [elo, ehi]
    have haq : a < q + w := by
      have := Nat.lt_div_mul_add (a := a) (b := w) (by omega)
      have h2 : a / w * w ≤ (a / w + j) * w := Nat.mul_le_mul_right w (by omega)
      omega
    refine ⟨by omega, by omega, by omega, ?_⟩
    have hlo : ((a - q : Nat) : Int).toNat = a - q := by omega
    have hhi : ((min v.2.1 (b - q) : Nat) : Int).toNat = min v.2.1 (b - q) := by omega
    rw [hlo, hhi]
    have hsub := CellsAt.sub (sz := 1) (lo := a - q) (hi := min v.2.1 (b - q)) (c := v.2.2) r3 (by rw [u8s_len, hpl]; omega) (by omega)
    rw [Nat.mul_one, Nat.mul_one] at hsub
    have hu : ((u8s (pg bs (w : Int) ((a / w + j : Nat) : Int))).take (min v.2.1 (b - q))).drop (a - q) = u8s (seg bs (max a q) (min (q + w) b)) := by
      have : ((pg bs (w : Int) ((a / w + j : Nat) : Int)).take (min v.2.1 (b - q))).drop (a - q) = seg bs (max a q) (min (q + w) b) := by
        rw [pg_seg (by rw [hpl]; omega) (by omega), ← hqe]
        congr 1 <;> omega
      rw [← this]
      unfold u8s
      rw [List.map_drop, List.map_take]
    rw [hu] at hsub
    have hnl : (seg bs (max a q) (min (q + w) b)).length = min v.2.1 (b - q) - (a - q) := by rw [seg_len (by omega)]; omega
    have hgl := hB1.own.1
    rw [u8s_len, Nat.mul_one] at hgl
    have hgl2 : (seg bs a (max a (min q b))).length ≤ 4000 := by rw [seg_len (by omega)]; omega
    refine append_own eU8 hB1.own hsub (by rw [u8s_len, hnl, Nat.mul_one]) (u8s_one _) (by decide) (by omega) (by omega) ?_
    intro a' c' m3 ho hgr
    refine UnS.mk ?_
    have hjoin : seg bs a (max a (min q b)) ++ seg bs (max a q) (min (q + w) b) = seg bs a (max a (min ((a / w + (j + 1)) * w) b)) := by
      have e1 : (a / w + (j + 1)) * w = q + w := by rw [hqe, show a / w + (j + 1) = (a / w + j) + 1 by omega, Nat.add_mul, Nat.one_mul]
      rw [e1, show max a (min q b) = max a q by omega, seg_join (by omega) (by omega)]
      congr 1; omega
    have hu2 : u8s (seg bs a (max a (min q b))) ++ u8s (seg bs (max a q) (min (q + w) b)) = u8s (seg bs a (max a (min q b)) ++ seg bs (max a q) (min (q + w) b)) := by simp [u8s]
    have hlen2 : (seg bs a (max a (min q b))).length + (min v.2.1 (b - q) - (a - q)) = (seg bs a (max a (min q b)) ++ seg bs (max a q) (min (q + w) b)).length := by rw [List.length_append, hnl]
    rw [hu2, hlen2] at ho
    rw [hlen2]
    refine hB1.grow hgr.1 ho hgr.2 ?_
    intro m4 hB4
    rw [hjoin] at hB4
    refine ⟨npg w a b - (j + 1), by omega, rfl, rfl, rfl, rfl, rfl, rfl, rfl, rfl, j + 1, F2, G2, log2, ks2, a', c', ?_, rfl, by omega, hB4, hg2, hl2⟩
    have hz : a / w + j ≤ 10000 := by have := Nat.div_le_self a w; omega
    rw [show a / w + (j + 1) = (a / w + j) + 1 from rfl]
    generalize a / w + j = z at hz
    rw [wi (by omega) (by omega)]; omega
  refine page_spec hB.fl (Int.natCast_nonneg _) hcnt (by omega) ?_ ?_ ?_
  · intro hk F2 m1 v hch hF2 hfl hrow
    simp only [goP, if_pos hk] at hg
    exact nxt F2 G' m1 lg _ v (hB.page hch hF2 (fun _ e => .inl e) (fun _ e => e) hfl) hrow hg (by omega)
  · intro hk hfi F2 m1 hch hF2 hfl
    simp only [goP, if_neg hk, if_pos hfi, Prod.mk.injEq] at hg
    obtain ⟨rfl, rfl, rfl⟩ := hg
    have hB1 := hB.page hch hF2 (fun _ e => .inl e) (fun _ e => e) hfl
    refine Bytes_fail hB1 ?_
    intro m' hc hf'
    exact bad rfl F2 G' m' hc hB1.gF hB1.gG hB1.inG hf'
  · intro hk hfi F2 G2 m1 v hch hF2 hin hG2 hfl hrow
    simp only [goP, if_neg hk, hfi, Bool.false_eq_true, if_false] at hg
    exact nxt F2 G2 m1 _ _ v (hB.page hch hF2 hG2 hin hfl) hrow hg (by simp; omega)
end
end Go.E
