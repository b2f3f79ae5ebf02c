/- A text over a file: its state, New, none, Len. -/
import Derived.Test.YtjdkdeekniephaaDP1
import Derived.Test.YtjdkdeekniephaaPT
set_option linter.unusedVariables false
set_option linter.unusedSimpArgs false
set_option maxRecDepth 20000
namespace Go.E
open Go.H Go.E.Pz
attribute [local irreducible] BiN MkS ConvN LookN MapUpN CallV HC

/-- A *Doc: its block, its file, its pieces. -/
structure Dx (m : Mem) (F G T : Nat → Prop) (bd bf bp bt : Nat) (base : List UInt8) (w : Nat) (f : Int → Bool) (log : List Int) (most : Int) (ks : List Int) (ps : List Pc) (ad : List UInt8) (B : Nat) : Prop where
  fl : Fl m F G bf bp base (w : Int) f log most ks
  tx : Tx m T bt ps ad
  gd : Gd B ps ad
  cell : m bd = some (.cells #[.pointer (some ⟨bf, 0, none⟩), .pointer (some ⟨bt, 0, none⟩)] T_doc_Doc (0, 0))
  nb : ¬ F bd
  nt : ∀ b, T b → ¬ F b
  ins : Ins base.length ad (byt ps)
section
variable {m m' : Mem} {F G F' G' T : Nat → Prop} {bd bf bp bt : Nat} {base : List UInt8} {w : Nat} {f f2 : Int → Bool} {log log2 : List Int} {most : Int} {ks ks2 : List Int} {ps : List Pc} {ad : List UInt8} {B : Nat} {R : Ending → Mem → Prop}
theorem Dx.le (h : Dx m F G T bd bf bp bt base w f log most ks ps ad B) (k : Le m m') : Dx m' F G T bd bf bp bt base w f log most ks ps ad B :=
  ⟨h.fl.le k, h.tx.le k, h.gd, k _ _ h.cell, h.nb, h.nt, h.ins⟩
theorem Dx.step (h : Dx m F G T bd bf bp bt base w f log most ks ps ad B) (hch : Chg F m m') (gF : ∀ b, F' b → F b ∨ m b = none) (fl : Fl m' F' G' bf bp base (w : Int) f2 log2 most ks2) : Dx m' F' G' T bd bf bp bt base w f2 log2 most ks2 ps ad B :=
  ⟨fl, h.tx.chg hch h.nt, h.gd, hch.eq _ _ h.cell h.nb, fun x => (gF _ x).elim h.nb (fun y => by rw [h.cell] at y; cases y), fun b e x => (gF b x).elim (h.nt b e) (h.tx.lv b e), h.ins⟩

theorem DNew_spec {x y : Option Addr} (k : ∀ bd, m bd = none → R (.returned (.pointer (some ⟨bd, 0, none⟩))) (m.set bd (.cells #[.pointer x, .pointer y] T_doc_Doc (0, 0)))) : HC P doc_New.id #[.pointer x, .pointer y] m R := by
  refine doc_New.ok _ _ _ _ ?_
  intro bd hbd
  exact k bd hbd
theorem none_nil (k : R (.returned (.bool true)) m) : HC P doc_Doc_none.id #[.pointer none] m R := by
  refine doc_Doc_none.ok _ _ _ ?_
  exact Br.t rfl k
theorem none_half {bd : Nat} {y : Value} (h : m bd = some (.cells #[.pointer none, y] T_doc_Doc (0, 0))) (k : R (.returned (.bool true)) m) : HC P doc_Doc_none.id #[.pointer (some ⟨bd, 0, none⟩)] m R := by
  refine doc_Doc_none.ok _ _ _ ?_
  refine Br.f rfl ?_
  refine LdV.s0 h ?_
  refine UnP.mk ?_
  exact Br.t rfl k
theorem none_not {bd bf bt : Nat} (h : m bd = some (.cells #[.pointer (some ⟨bf, 0, none⟩), .pointer (some ⟨bt, 0, none⟩)] T_doc_Doc (0, 0))) (k : R (.returned (.bool false)) m) : HC P doc_Doc_none.id #[.pointer (some ⟨bd, 0, none⟩)] m R := by
  refine doc_Doc_none.ok _ _ _ ?_
  refine Br.f rfl ?_
  refine LdV.s0 h ?_
  refine UnP.mk ?_
  refine Br.f rfl ?_
  refine LdV.s1 h ?_
  refine UnP.mk ?_
  exact k
theorem DLen_nil (k : R (.returned (.int .i64 0)) m) : HC P doc_Doc_Len.id #[.pointer none] m R := by
  refine doc_Doc_Len.ok _ _ _ ?_
  refine none_nil ?_
  exact Br.t rfl k
theorem DLen_spec (h : Dx m F G T bd bf bp bt base w f log most ks ps ad B) (k : ∀ m', Le m m' → R (.returned (.int .i64 ((byt ps).length : Nat))) m') : HC P doc_Doc_Len.id #[.pointer (some ⟨bd, 0, none⟩)] m R := by
  refine doc_Doc_Len.ok _ _ _ ?_
  refine none_not h.cell ?_
  refine Br.f rfl ?_
  refine LdV.s1 h.cell ?_
  refine UnP.mk ?_
  refine Pz.Len_spec h.tx h.gd ?_
  intro m' hle
  exact k m' hle
theorem must_ok {a : Option Addr} {l c : Nat} (k : R (.returned (.slice a l c)) m) : HC P doc_must.id #[.slice a l c, .int .i64 0] m R := by
  refine doc_must.ok _ _ _ _ _ _ ?_
  exact BrNf rfl k
theorem must_bad {a : Option Addr} {l c : Nat} {e : Int} (he : e ≠ 0) (k : R (.panicked [{ v := .iface T_api_Errno (.int .i64 e), recovered := false }]) m) : HC P doc_must.id #[.slice a l c, .int .i64 e] m R := by
  refine doc_must.ok _ _ _ _ _ _ ?_
  exact BrNt he k

/-- Out of bounds. -/
theorem DBytes_out (h : Dx m F G T bd bf bp bt base w f log most ks ps ad B) {a b : Int} (hab : a < 0 ∨ b < a ∨ ((byt ps).length : Int) < b) (k : ∀ m', Le m m' → R (.returned (.tuple #[.slice none 0 0, .int .i64 1])) m') :
    HC P doc_Doc_Bytes.id #[.pointer (some ⟨bd, 0, none⟩), .int .i64 a, .int .i64 b] m R := by
  refine doc_Doc_Bytes.ok _ _ _ _ _ ?_
  intro b6 w6 b7 w7
  have hle6 := Le.set w6 (.cells #[.slice none 0 0] T_sl_uint8 (0, 0))
  have hle7 := Le.set w7 (.cells #[.int .i64 0] T_api_Errno (0, 0))
  have hle := hle6.trans hle7
  have h6 := hle7 _ _ (set_same m b6 (.cells #[.slice none 0 0] T_sl_uint8 (0, 0)))
  have h7 := set_same (m.set b6 (.cells #[.slice none 0 0] T_sl_uint8 (0, 0))) b7 (.cells #[.int .i64 0] T_api_Errno (0, 0))
  have w7' := hle6.new w7
  refine none_not (hle _ _ h.cell) ?_
  refine Br.f rfl ?_
  refine BrD (fun h1 => early hle h6 h7 w6 w7' k) (fun h1 => ?_)
  refine BrD (fun h2 => early hle h6 h7 w6 w7' k) (fun h2 => ?_)
  refine DLen_spec (h.le hle) ?_
  intro m3 hle3
  refine BrDt (by omega) ?_
  exact early (hle.trans hle3) (hle3 _ _ h6) (hle3 _ _ h7) w6 w7' k
/-- A text over no file. -/
theorem DBytes_half {a b : Int} {y : Value} (h : m bd = some (.cells #[.pointer none, y] T_doc_Doc (0, 0))) (k : ∀ m', Le m m' → R (.returned (.tuple #[.slice none 0 0, .int .i64 1])) m') :
    HC P doc_Doc_Bytes.id #[.pointer (some ⟨bd, 0, none⟩), .int .i64 a, .int .i64 b] m R := by
  refine doc_Doc_Bytes.ok _ _ _ _ _ ?_
  intro b6 w6 b7 w7
  have hle6 := Le.set w6 (.cells #[.slice none 0 0] T_sl_uint8 (0, 0))
  have hle7 := Le.set w7 (.cells #[.int .i64 0] T_api_Errno (0, 0))
  have hle := hle6.trans hle7
  have h6 := hle7 _ _ (set_same m b6 (.cells #[.slice none 0 0] T_sl_uint8 (0, 0)))
  refine none_half (hle _ _ h) ?_
  refine Br.t rfl ?_
  exact early hle h6 (set_same _ _ _) w6 (hle6.new w7) k
theorem DAt_nil {i : Int} (k : R (.returned (.tuple #[.int .u8 0, .int .i64 1])) m) : HC P doc_Doc_At.id #[.pointer none, .int .i64 i] m R := by
  refine doc_Doc_At.ok _ _ _ _ ?_
  refine BrD (fun _ => k) (fun _ => ?_)
  refine DLen_nil ?_
  refine BrDt (by omega) ?_
  exact k
theorem DAt_out (h : Dx m F G T bd bf bp bt base w f log most ks ps ad B) {i : Int} (hi : i < 0 ∨ ((byt ps).length : Int) ≤ i) (k : ∀ m', Le m m' → R (.returned (.tuple #[.int .u8 0, .int .i64 1])) m') :
    HC P doc_Doc_At.id #[.pointer (some ⟨bd, 0, none⟩), .int .i64 i] m R := by
  refine doc_Doc_At.ok _ _ _ _ ?_
  refine BrD (fun _ => k m (Le.refl _)) (fun _ => ?_)
  refine DLen_spec h ?_
  intro m' hle
  refine BrDt (by omega) ?_
  exact k m' hle
end
section
variable {m mm : Mem} {F G F' G' : Nat → Prop} {bf bp b6 b7 : Nat} {bs : List UInt8} {size : Int} {f : Int → Bool} {log : List Int} {most : Int} {ks : List Int} {sa : Option Addr} {sc : Nat} {got : List UInt8} {R : Ending → Mem → Prop}
/-- The end of Bytes. -/
theorem DBytes_end (h : By m mm F G F' G' bf bp b6 b7 bs size f log most ks sa sc got)
    (k : ∀ m', Chg F m m' → Fl m' F' G' bf bp bs size f log most ks → Own m' T_uint8 1 sa got.length sc (u8s got) → R (.returned (.tuple #[.slice sa got.length sc, .int .i64 0])) m') :
    LdV mm b6 0 fun v => UnS v fun x77a x77l x77c => St1 mm b6 0 (.slice x77a x77l x77c) fun m1 => St1 m1 b7 0 (.int .i64 0) fun m2 =>
      DefR P doc_Doc_Bytes_1.id #[.pointer (some ⟨b6, 0, none⟩), .pointer (some ⟨b7, 0, none⟩)] (doc_Doc_Bytes.out b6 0 b7 0 R) (.returned (.tuple #[])) m2 := by
  refine LdV.s0 h.e6 ?_
  refine UnS.mk ?_
  refine St1.to #[.slice sa got.length sc] h.e6 (by simp) rfl rfl ?_
  refine St1.to #[.int .i64 0] (by rw [set_other _ _ h.n67.symm]; exact h.e7) (by simp) rfl rfl ?_
  refine doc_Doc_Bytes_1.df_none _ _ _ _ ?_
  have h1 := Chg.set mm b6 (.cells #[.slice sa got.length sc] T_sl_uint8 (0, 0))
  have h2 := Chg.set (mm.set b6 (.cells #[.slice sa got.length sc] T_sl_uint8 (0, 0))) b7 (.cells #[.int .i64 0] T_api_Errno (0, 0))
  refine LdV.s0 (by rw [set_other _ _ h.n67]; exact set_same _ _ _) ?_
  refine UnS.mk ?_
  refine LdV.s0 (set_same _ _ _) ?_
  refine UnI.mk ?_
  have n6 : ¬ blk sa = some b6 := own_ne h.own h.e6 (by decide)
  have n7 : ¬ blk sa = some b7 := own_ne h.own h.e7 (by decide)
  refine k _ ((h.ch.trans h1 fun b hb e => ?_).trans h2 fun b hb e => ?_) ((h.fl.chg h1 ?_ ?_).chg h2 ?_ ?_) ((h.own.chg h1 ?_).chg h2 ?_)
  · subst e; exact absurd h.w6.1 hb
  · subst e; exact absurd h.w7.1 hb
  · rintro b e rfl; exact h.w6.2.1 e
  · rintro b e rfl; exact h.w6.2.2 e
  · rintro b e rfl; exact h.w7.2.1 e
  · rintro b e rfl; exact h.w7.2.2 e
  · rintro b e rfl; exact n6 e
  · rintro b e rfl; exact n7 e
/-- What a page that can't be read leaves. -/
theorem DBytes_fail (h : By m mm F G F' G' bf bp b6 b7 bs size f log most ks sa sc got) {e : Int}
    (k : ∀ m', Chg F m m' → Fl m' F' G' bf bp bs size f log most ks → R (.returned (.tuple #[.slice none 0 0, .int .i64 e])) m') :
    DefR P doc_Doc_Bytes_1.id #[.pointer (some ⟨b6, 0, none⟩), .pointer (some ⟨b7, 0, none⟩)] (doc_Doc_Bytes.out b6 0 b7 0 R) (.panicked [{ v := .iface T_api_Errno (.int .i64 e), recovered := false }]) mm := by
  refine ⟨_, rfl, doc_Doc_Bytes_1.df_some _ _ _ _ _ ?_⟩
  refine St1.to #[.slice none 0 0] h.e6 (by simp) rfl rfl ?_
  refine St1.to #[.int .i64 e] (by rw [set_other _ _ h.n67.symm]; exact h.e7) (by simp) rfl rfl ?_
  have h1 := Chg.set mm b6 (.cells #[.slice none 0 0] T_sl_uint8 (0, 0))
  have h2 := Chg.set (mm.set b6 (.cells #[.slice none 0 0] T_sl_uint8 (0, 0))) b7 (.cells #[.int .i64 e] T_api_Errno (0, 0))
  refine LdV.s0 (by rw [set_other _ _ h.n67]; exact set_same _ _ _) ?_
  refine UnS.mk ?_
  refine LdV.s0 (set_same _ _ _) ?_
  refine UnI.mk ?_
  refine k _ ((h.ch.trans h1 fun b hb e => ?_).trans h2 fun b hb e => ?_) ((h.fl.chg h1 ?_ ?_).chg h2 ?_ ?_)
  · subst e; exact absurd h.w6.1 hb
  · subst e; exact absurd h.w7.1 hb
  · rintro b e rfl; exact h.w6.2.1 e
  · rintro b e rfl; exact h.w6.2.2 e
  · rintro b e rfl; exact h.w7.2.1 e
  · rintro b e rfl; exact h.w7.2.2 e
end
theorem part_spl {base ad : List UInt8} {p : Pc} (h : p.Ok) (hl : p.t ≤ (if p.a then ad else base).length) : spl base ad p.bytes = ((if p.a then ad else base).take p.t.toNat).drop p.f.toNat := by
  unfold Pc.Ok at h
  apply List.ext_getElem?
  intro k
  unfold spl
  rw [List.getElem?_map, bytes_get, List.getElem?_drop, List.getElem?_take]
  by_cases hk : k < (p.t - p.f).toNat
  · rw [if_pos hk, if_pos (by omega)]
    simp only [Option.map_some, chr]
    rw [List.getD_eq_getElem?_getD, show (p.f + (k : Int)).toNat = p.f.toNat + k by omega, List.getElem?_eq_getElem (by omega)]
    rfl
  · rw [if_neg hk, if_neg (by omega)]; rfl
end Go.E
