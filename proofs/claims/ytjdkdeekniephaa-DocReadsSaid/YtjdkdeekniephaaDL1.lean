/- Layer 7: a text over a file under way; begun. -/
import Derived.Test.YtjdkdeekniephaaDC2
set_option linter.unusedVariables false
set_option linter.unusedSimpArgs false
set_option maxRecDepth 20000
namespace Go.E
open Go.H Go.E.Pz
attribute [local irreducible] BiN MkS ConvN LookN MapUpN CallV HC

/-- A law's end: true, and nothing turned. -/
def Fine (m : Mem) : Ending → Mem → Prop := fun e m' => e = .returned (.bool true) ∧ Le m m'
theorem tmod_nat (a n : Nat) : Int.tmod (a : Int) (n : Int) = ((a % n : Nat) : Int) := by rw [Int.tmod_eq_emod_of_nonneg (by omega)]; exact (Int.natCast_emod a n).symm
theorem num8 {W : World} {v : Value} (h : Arg P W T_uint8 v) : ∃ n : Nat, v = .int .u8 (n : Int) ∧ n < 256 := by
  obtain ⟨n, rfl, hw⟩ := h.int (k := .u8) (by kernel_rfl)
  have hn := wf_u8 hw
  exact ⟨n.toNat, by rw [Int.toNat_of_nonneg hn.1], by omega⟩
theorem fpg_len {w : Nat} (hw : 1 ≤ w) : ∀ {ps : List Pc}, (∀ p ∈ ps, p.Ok) → (fpg w ps).length ≤ (byt ps).length
  | [], _ => by simp [fpg]
  | p :: ps, h => by
    have ih := fpg_len hw (ps := ps) (fun p hp => h p (by simp [hp]))
    have h1 := ppg_len hw p
    have h2 := h p (by simp)
    unfold Pc.Ok at h2
    unfold Pz.Pc.lo Pz.Pc.hi at h1
    rw [fpg_cons, byt_cons, List.length_append, List.length_append, bytes_len]; omega

/-- A text over a file under way. -/
structure DT (ms mm : Mem) (F G T : Nat → Prop) (bd bf bp bt : Nat) (base : List UInt8) (w : Nat) (f : Int → Bool) (log : List Int) (most : Int) (ks : List Int) (ps : List Pc) (ad : List UInt8) (B : Nat) : Prop where
  le : Le ms mm
  dx : Dx mm F G T bd bf bp bt base w f log most ks ps ad B
  fr : ∀ b, F b ∨ G b → ms b = none
section
variable {ms mm m' : Mem} {F G F' G' T : Nat → Prop} {bd bf bp bt : Nat} {base : List UInt8} {w : Nat} {f f2 : Int → Bool} {log log2 : List Int} {most : Int} {ks ks2 : List Int} {ps : List Pc} {ad : List UInt8} {B : Nat} {R : Ending → Mem → Prop}
theorem DT.up (h : DT ms mm F G T bd bf bp bt base w f log most ks ps ad B) (k : Le mm m') : DT ms m' F G T bd bf bp bt base w f log most ks ps ad B := ⟨h.le.trans k, h.dx.le k, h.fr⟩
theorem DT.next (h : DT ms mm F G T bd bf bp bt base w f log most ks ps ad B) (hch : Chg F mm m') (gF : ∀ b, F' b → F b ∨ mm b = none) (gG : ∀ b, G' b → G b ∨ mm b = none) (hd : Dx m' F' G' T bd bf bp bt base w f2 log2 most ks2 ps ad B) : DT ms m' F' G' T bd bf bp bt base w f2 log2 most ks2 ps ad B :=
  ⟨hch.to_le h.le (fun b e => h.fr b (.inl e)), hd, fun b e => e.elim (fun e => (gF b e).elim (fun x => h.fr b (.inl x)) fun x => h.le.new x) (fun e => (gG b e).elim (fun x => h.fr b (.inr x)) fun x => h.le.new x)⟩
theorem DT.ft (h : DT ms mm F G T bd bf bp bt base w f log most ks ps ad B) : FT ms mm F G bf bp base (w : Int) f log most ks := ⟨h.le, h.dx.fl, h.fr⟩
theorem DT.fnext (h : DT ms mm F G T bd bf bp bt base w f log most ks ps ad B) (hch : Chg F mm m') (gF : ∀ b, F' b → F b ∨ mm b = none) (hf : FT ms m' F' G' bf bp base (w : Int) f2 log2 most ks2) : DT ms m' F' G' T bd bf bp bt base w f2 log2 most ks2 ps ad B :=
  ⟨hf.le, h.dx.step hch gF hf.fl, hf.fr⟩
/-- file.New and doc.New. -/
theorem DT.new {B0 : Nat} {Fp : Nat → Prop} (p : Pg mm Fp bp base (w : Int) f log) (hS : TS ms mm T bt ps ad B) (hfp : ∀ b, Fp b → ms b = none) (hd : ∀ b, T b → ¬ Fp b) (hi : Ins base.length ad (byt ps)) 
    (k : ∀ bd bf F G m', Le mm m' → (∀ b, F b → Fp b ∨ mm b = none) → DT ms m' F G T bd bf bp bt base w f log most [] ps ad B → R (.returned (.pointer (some ⟨bd, 0, none⟩))) m') {Pn : List PanicEntry → Mem → Prop} :
    HC P file_New.id #[.pointer (some ⟨bp, 0, none⟩), .int .i64 most] mm (Cont (fun v m1 => UnP v fun x => HC P doc_New.id #[.pointer x, .pointer (some ⟨bt, 0, none⟩)] m1 R) Pn) := by
  refine FNew_spec p ?_
  intro bf F G m1 hle1 hF hG fl
  dsimp only [Cont]
  refine UnP.mk ?_
  refine DNew_spec ?_
  intro bd hbd
  have hle2 := Le.set hbd (.cells #[.pointer (some ⟨bf, 0, none⟩), .pointer (some ⟨bt, 0, none⟩)] T_doc_Doc (0, 0))
  have hle := hle1.trans hle2
  have hS2 := hS.up hle
  refine k bd bf F G _ hle hF ⟨hS2.le, ⟨fl.le hle2, hS2.tx, hS.gd, set_same _ _ _, fun x => fl.lv _ (.inl x) hbd, fun b e x => ?_, hi⟩, ?_⟩
  · rcases hF b x with y | y
    · exact hd b e y
    · exact hS.tx.lv b e y
  · rintro b (e | e)
    · rcases hF b e with y | y
      · exact hfp b y
      · exact hS.le.new y
    · exact hS.le.new (hG b e)
/-- Bytes, none of whose pages fail. -/
theorem DT.bytes (h : DT ms mm F G T bd bf bp bt base w (fun _ => false) log most ks ps ad B) {a b : Nat} (hab : a ≤ b) (hb : b ≤ (byt ps).length) (hlog : log.length ≤ 300000)
    (k : ∀ F' G' m' sa sc log' ks', Chg F mm m' → (∀ b, F' b → F b ∨ mm b = none) → (∀ b, G' b → G b ∨ mm b = none) → DT ms m' F' G' T bd bf bp bt base w (fun _ => false) log' most ks' ps ad B → log'.length ≤ log.length + (b - a) → Own m' T_uint8 1 sa (b - a) sc (u8s (((spl base ad (byt ps)).take b).drop a)) →
      (∀ x, blk sa = some x → mm x = none ∧ ¬ F' x ∧ ¬ G' x) → R (.returned (.tuple #[.slice sa (b - a) sc, .int .i64 0])) m') :
    HC P doc_Doc_Bytes.id #[.pointer (some ⟨bd, 0, none⟩), .int .i64 (a : Int), .int .i64 (b : Int)] mm R := by
  have hw1 : 1 ≤ w := by have := h.dx.fl.s1; omega
  obtain ⟨ks', log', ok, hgo⟩ : ∃ ks' log' ok, goP (fun _ => false) most (fpg w (cutL (a : Int) (b : Int) 0 ps)) ks log = (ks', log', ok) := ⟨_, _, _, rfl⟩
  have hok := goP_ok (most := most) (fpg w (cutL (a : Int) (b : Int) 0 ps)) ks log
  have hlen := goP_len (f := fun _ => false) (most := most) (fpg w (cutL (a : Int) (b : Int) 0 ps)) ks log
  rw [hgo] at hok hlen
  have hpo : ∀ p ∈ ps, p.Ok := fun p hp => (h.dx.gd.ok p hp).1
  have hn := fpg_len hw1 (cut_ok (lo := (a : Int)) (hi := (b : Int)) (k := 0) hpo)
  rw [cut_bytes hpo, List.length_drop, List.length_take] at hn
  refine DBytes_spec h.dx hab hb hlog hgo ?_ (fun h0 => by rw [show ok = true from hok] at h0; cases h0)
  intro _ F' G' m' sa sc hch gF gG inG hfl hown hfr
  exact k F' G' m' sa sc log' ks' hch gF gG (h.next hch gF gG hfl) (by simp only at hlen; omega) hown hfr
theorem DT.at (h : DT ms mm F G T bd bf bp bt base w (fun _ => false) log most ks ps ad B) {i : Nat} (hb : i < (byt ps).length) (hlog : log.length ≤ 300000)
    (k : ∀ F' G' m' x log' ks', Chg F mm m' → (∀ b, F' b → F b ∨ mm b = none) → (∀ b, G' b → G b ∨ mm b = none) → DT ms m' F' G' T bd bf bp bt base w (fun _ => false) log' most ks' ps ad B → log'.length ≤ log.length + 1 → (spl base ad (byt ps))[i]? = some x → R (.returned (.tuple #[.int .u8 x.toNat, .int .i64 0])) m') :
    HC P doc_Doc_At.id #[.pointer (some ⟨bd, 0, none⟩), .int .i64 (i : Int)] mm R := by
  have hw1 : 1 ≤ w := by have := h.dx.fl.s1; omega
  obtain ⟨ks', log', ok, hgo⟩ : ∃ ks' log' ok, goP (fun _ => false) most (fpg w (cutL (i : Int) ((i + 1 : Nat) : Int) 0 ps)) ks log = (ks', log', ok) := ⟨_, _, _, rfl⟩
  have hok := goP_ok (most := most) (fpg w (cutL (i : Int) ((i + 1 : Nat) : Int) 0 ps)) ks log
  have hlen := goP_len (f := fun _ => false) (most := most) (fpg w (cutL (i : Int) ((i + 1 : Nat) : Int) 0 ps)) ks log
  rw [hgo] at hok hlen
  have hpo : ∀ p ∈ ps, p.Ok := fun p hp => (h.dx.gd.ok p hp).1
  have hn := fpg_len hw1 (cut_ok (lo := (i : Int)) (hi := ((i + 1 : Nat) : Int)) (k := 0) hpo)
  rw [cut_bytes hpo, List.length_drop, List.length_take] at hn
  refine DAt_spec h.dx hb hlog hgo ?_ (fun h0 => by rw [show ok = true from hok] at h0; cases h0)
  intro _ F' G' m' x hch gF gG inG hfl hx
  exact k F' G' m' x log' ks' hch gF gG (h.next hch gF gG hfl) (by simp only at hlen; omega) hx
end
theorem Pg.up {m m' : Mem} {F S : Nat → Prop} {bp : Nat} {bs : List UInt8} {size : Int} {f : Int → Bool} {log : List Int} (h : Pg m F bp bs size f log) (hch : Chg S m m') (hn : ∀ b, F b → ¬ S b) : Pg m' F bp bs size f log := h.chg hch hn
theorem begun_spec {m : Mem} {R : Ending → Mem → Prop} (k : ∀ m', Le m m' → R (.returned (.bool true)) m') : HC P eyotlaw7_begun.id #[] m R := by
  refine eyotlaw7_begun.ok _ _ ?_
  intro b10 hb10
  refine conv_bytes (by kernel_rfl) (by kernel_rfl) (set_same _ _ _) ?_
  rw [set_set]
  have hle0 := Le.set hb10 (.cells #[.int .u8 97, .int .u8 98, .int .u8 99, .int .u8 100] T_uint8 (4, 5))
  refine UnS.mk ?_
  refine New_spec (bs := [97, 98, 99, 100]) (cells_at (set_same _ _ _) rfl) rfl (fun h => by simp at h) ?_
  intro _ _ _ bp Fp m1 hle1 hfp p
  refine TS.new (ms := m1) (n := 4) (B := 100) (by decide) (by decide) ?_
  intro bt T m2 hS
  dsimp only [Cont]
  refine UnP.mk ?_
  intro b17 hb17
  refine conv_bytes (by kernel_rfl) (by kernel_rfl) (set_same _ _ _) ?_
  rw [set_set]
  have hle3 := Le.set hb17 (.cells #[.int .u8 120] T_uint8 (1, 2))
  refine UnS.mk ?_
  have hS3 := hS.up hle3
  have hne : ∀ x, T x ∨ Fp x → m2 x ≠ none := fun x e => e.elim (hS.tx.lv x) (fun e => hS.le.live (p.lv x e))
  have p3 := (p.le hS.le).le hle3
  have hb17' := set_same m2 b17 (.cells #[.int .u8 120] T_uint8 (1, 2))
  have hTF : ∀ x, T x → ¬ Fp x := fun x e y => p.lv x y (hS.fr x e)
  have hm3 : Le m (m2.set b17 (.cells #[.int .u8 120] T_uint8 (1, 2))) := hle0.trans (hle1.trans (hS.le.trans hle3))
  have hfp0 : ∀ x, T x ∨ Fp x → m x = none := fun x e => e.elim (fun e => hle0.new (hle1.new (hS.fr x e))) (fun e => hle0.new (hfp x e))
  generalize m2.set b17 (.cells #[.int .u8 120] T_uint8 (1, 2)) = m3 at hS3 hb17' p3 hm3 hle3 ⊢
  have hS4 : TS (m3.wo (fun x => T x ∨ Fp x)) m3 T bt (newL 4) [] 100 := ⟨wo_le _ _, hS3.tx, fun b e => wo_out (.inl e), hS3.gd⟩
  have hmw : Le m (m3.wo (fun x => T x ∨ Fp x)) := le_wo hm3 hfp0
  have hi0 : Ins ([97, 98, 99, 100] : List UInt8).length [] (byt (newL 4)) := ins_new 4 []
  have hs0 : spl [97, 98, 99, 100] [] (byt (newL 4)) = [97, 98, 99, 100] := spl_new [97, 98, 99, 100] []
  have hsp := spl_edit (base := [97, 98, 99, 100]) (a := 1) (b := 3) (s := [120]) hS4.gd hi0 (by decide)
  rw [hs0] at hsp
  have hl4 : (byt (newL 4)).length = 4 := new_len 4
  refine hS4.edit (a := 1) (b := 3) (s := [120]) (by decide) (by decide) (by rw [hl4]; decide) (CellsAt.wo (cells_at hb17' rfl) (fun x e y => by cases e; exact hne b17 y hb17)) (by decide) (by decide) ?_
  intro T' m4 hch4 hT' hS5
  dsimp only [Cont]
  refine UnI.mk ?_
  refine DT.new (B0 := 0) (w := 2) (p3.chg hch4 (fun b e x => hTF b x e)) hS5 (fun b e => wo_out (.inr e)) ?_ (ins_edit hS4.gd hi0 (by decide)) ?_
  · intro b e y
    rcases hT' b e with x | x
    · exact hTF b x y
    · exact hle3.live (hne b (.inr y)) x
  intro bd bf F G m5 hle5 _ hD
  dsimp only [Cont]
  refine UnP.mk ?_
  generalize edL (newL 4) [] 1 3 [120] = ps at hsp hD
  have hlen : (byt ps).length = 3 := by rw [← spl_len [97, 98, 99, 100] ([] ++ [120]), hsp]; rfl
  refine hD.bytes (a := 0) (b := 3) (by decide) (by rw [hlen]; decide) (by decide) ?_
  intro F6 G6 m6 sa sc log6 ks6 ch6 gF6 gG6 hD6 hl6 own6 fr6
  rw [hsp] at own6
  refine hD6.at (i := 1) (by rw [hlen]; decide) (by simp at hl6; omega) ?_
  intro F7 G7 m7 x log7 ks7 ch7 gF7 gG7 hD7 hl7 hx
  rw [hsp] at hx
  cases hx
  refine BrEt rfl ?_
  refine ⟨[97, 120, 100], rfl, (own6.chg ch7 (fun b e => (fr6 b e).2.1)).cells, ?_⟩
  refine Br.t (beq_self_eq_true _) ?_
  refine BrEt rfl ?_
  refine BrEt rfl ?_
  refine DLen_spec hD7.dx ?_
  intro m8 hle8
  dsimp only [Cont]
  refine UnI.mk ?_
  rw [hlen]
  exact k m8 (hmw.trans (hD7.le.trans hle8))
end Go.E
