/- A file through pages: At, Kept, Evict, New, what is done to its pages; a file under way. -/
import Derived.Test.YtjdkdeekniephaaFI3
set_option linter.unusedVariables false
set_option linter.unusedSimpArgs false
set_option maxRecDepth 20000
namespace Go.E
open Go.H
attribute [local irreducible] BiN MkS ConvN LookN MapUpN CallV HC

theorem goP_ok {most : Int} : ∀ (l ks log : List Int), (goP (fun _ => false) most l ks log).2.2 = true
  | [], _, _ => rfl
  | i :: r, ks, log => by
    unfold goP
    split
    · exact goP_ok r _ _
    · simp only [Bool.false_eq_true, if_false]; exact goP_ok r _ _
theorem goP_len {f : Int → Bool} {most : Int} : ∀ (l ks log : List Int), (goP f most l ks log).2.1.length ≤ log.length + l.length
  | [], _, _ => by simp [goP]
  | i :: r, ks, log => by
    unfold goP
    split
    · have := goP_len (f := f) (most := most) r (useK i ks) log; simp; omega
    · split
      · simp
      · have := goP_len (f := f) (most := most) r (putK most i ks) (log ++ [i]); simp at this ⊢; omega
theorem pgs_len (w a n : Nat) : (pgs w a n).length = n := by simp [pgs]

section
variable {m mm : Mem} {F G : Nat → Prop} {bf bp : Nat} {bs : List UInt8} {size : Int} {f : Int → Bool} {log : List Int} {most : Int} {ks : List Int} {R : Ending → Mem → Prop}
/-- Something is done to a file's pages. -/
theorem Fl.on (h : Fl m F G bf bp bs size f log most ks) : ∃ Fp, Pg m Fp bp bs size f log ∧ (∀ b, Fp b → F b) ∧ ∀ Fp' m' f2 log2, Chg Fp m m' → (∀ b, Fp' b → Fp b ∨ m b = none) → Pg m' Fp' bp bs size f2 log2 →
    ∃ F', Fl m' F' G bf bp bs size f2 log2 most ks ∧ Chg F m m' ∧ ∀ b, F' b → F b ∨ m b = none := by
  obtain ⟨⟨Fp, Fc, bc, es, p, c, k, i1, i2, i3, hf, he⟩, gf, dis, lv, nd, len⟩ := h
  refine ⟨Fp, p, i1, fun Fp' m' f2 log2 hch hF hp => ?_⟩
  have hgp : ∀ b, G b → ¬ Fp b := fun b e x => dis b (i1 b x) e
  have hcp : ∀ b, Fc b → ¬ Fp b := fun b e x => i3 b x e
  refine ⟨fun b => Fp' b ∨ Fc b, ⟨⟨Fp', Fc, bc, es, hp, c.chg hch hcp, k, fun b e => .inl e, fun b e => .inr e, ?_, hch.eq _ _ hf (hgp _ gf), ?_⟩, gf, ?_, ?_, nd, len⟩, hch.mono i1, ?_⟩
  · intro b e x
    rcases hF b e with y | y
    · exact i3 b y x
    · exact c.lv b x y
  · intro e hx
    have := he e hx
    exact ⟨this.1, this.2.1, this.2.2.chg hch hgp (fun _ h => h)⟩
  · rintro b (e | e) g
    · rcases hF b e with y | y
      · exact hgp b g y
      · exact lv b (.inr g) y
    · exact dis b (i2 b e) g
  · rintro b ((e | e) | e)
    · exact hp.lv b e
    · exact hch.live b (lv b (.inl (i2 b e)))
    · exact hch.live b (lv b (.inr e))
  · rintro b (e | e)
    · exact (hF b e).imp (i1 b) id
    · exact .inl (i2 b e)

theorem FLen_nil (k : R (.returned (.int .i64 0)) m) : HC P file_File_Len.id #[.pointer none] m R := by
  refine file_File_Len.ok _ _ _ ?_
  exact Br.t rfl k
/-- A new file. -/
theorem FNew_spec {Fp : Nat → Prop} (p : Pg m Fp bp bs size f log) (k : ∀ bf F G m', Le m m' → (∀ b, F b → Fp b ∨ m b = none) → (∀ b, G b → m b = none) → Fl m' F G bf bp bs size f log most [] → R (.returned (.pointer (some ⟨bf, 0, none⟩))) m') :
    HC P file_New.id #[.pointer (some ⟨bp, 0, none⟩), .int .i64 most] m R := by
  refine file_New.ok _ _ _ _ ?_
  refine ZB.New_spec ?_
  intro bc Fc m1 hle1 hFc hc
  dsimp only [Cont]
  refine UnP.mk ?_
  intro bf hbf
  have hle2 := Le.set hbf (.cells #[.pointer (some ⟨bp, 0, none⟩), .pointer (some ⟨bc, 0, none⟩)] T_file_File (0, 0))
  have hle := hle1.trans hle2
  have p1 := p.le hle1
  refine k bf (fun b => Fp b ∨ Fc b) (fun b => b = bf) _ hle (fun b e => e.imp id (hFc b)) (fun b e => by subst e; exact hle1.new hbf) ⟨⟨Fp, Fc, bc, [], p.le hle, hc.le hle2, rfl, fun b e => .inl e, fun b e => .inr e, fun b e x => p.lv b e (hFc b x), set_same _ _ _, fun e x => by cases x⟩, rfl, ?_, ?_, List.nodup_nil, by simp; omega⟩
  · rintro b (e | e) rfl
    · exact p1.lv _ e hbf
    · exact hc.lv _ e hbf
  · rintro b ((e | e) | rfl)
    · exact hle2.live (p1.lv b e)
    · exact hle2.live (hc.lv b e)
    · rw [set_same]; simp
end
section
variable {m : Mem} {F G : Nat → Prop} {bf bp : Nat} {bs : List UInt8} {w : Nat} {f : Int → Bool} {log : List Int} {most : Int} {ks : List Int} {R : Ending → Mem → Prop}
end

/-- A file under way. -/
structure FT (ms mm : Mem) (F G : Nat → Prop) (bf bp : Nat) (bs : List UInt8) (size : Int) (f : Int → Bool) (log : List Int) (most : Int) (ks : List Int) : Prop where
  le : Le ms mm
  fl : Fl mm F G bf bp bs size f log most ks
  fr : ∀ b, F b ∨ G b → ms b = none
section
variable {ms mm m' : Mem} {F G F' G' : Nat → Prop} {bf bp : Nat} {bs : List UInt8} {size : Int} {f f2 : Int → Bool} {log log2 : List Int} {most : Int} {ks ks2 : List Int}
theorem FT.up (h : FT ms mm F G bf bp bs size f log most ks) (k : Le mm m') : FT ms m' F G bf bp bs size f log most ks := ⟨h.le.trans k, h.fl.le k, h.fr⟩
theorem FT.base {ms' : Mem} (h : FT ms mm F G bf bp bs size f log most ks) (k : Le ms' ms) : FT ms' mm F G bf bp bs size f log most ks := ⟨k.trans h.le, h.fl, fun b e => k.new (h.fr b e)⟩
theorem FT.next (h : FT ms mm F G bf bp bs size f log most ks) (hch : Chg F mm m') (gF : ∀ b, F' b → F b ∨ mm b = none) (gG : ∀ b, G' b → G b ∨ mm b = none) (hf : Fl m' F' G' bf bp bs size f2 log2 most ks2) : FT ms m' F' G' bf bp bs size f2 log2 most ks2 :=
  ⟨hch.to_le h.le (fun b e => h.fr b (.inl e)), hf, fun b e => e.elim (fun e => (gF b e).elim (fun x => h.fr b (.inl x)) fun x => h.le.new x) (fun e => (gG b e).elim (fun x => h.fr b (.inr x)) fun x => h.le.new x)⟩
/-- What others write beside it. -/
theorem FT.side {S : Nat → Prop} (h : FT ms mm F G bf bp bs size f log most ks) (hch : Chg S mm m') (h1 : ∀ b, F b → ¬ S b) (h2 : ∀ b, G b → ¬ S b) (hS : ∀ b, S b → ms b = none) : FT ms m' F G bf bp bs size f log most ks :=
  ⟨hch.to_le h.le hS, h.fl.chg hch h1 h2, h.fr⟩
end
/-- A row that a file never writes. -/
structure Out (mm : Mem) (F : Nat → Prop) (a : Option Addr) (vs : List Value) : Prop where
  at_ : CellsAt mm a vs
  ap : ∀ b, blk a = some b → ¬ F b ∧ mm b ≠ none
theorem Out.next {mm m' : Mem} {F F' : Nat → Prop} {a : Option Addr} {vs : List Value} (h : Out mm F a vs) (hch : Chg F mm m') (gF : ∀ b, F' b → F b ∨ mm b = none) : Out m' F' a vs :=
  ⟨h.at_.chg hch fun b e => (h.ap b e).1, fun b e => ⟨fun x => (gF b x).elim (h.ap b e).1 (h.ap b e).2, hch.live b (h.ap b e).2⟩⟩
theorem Out.up {mm m' : Mem} {F : Nat → Prop} {a : Option Addr} {vs : List Value} (h : Out mm F a vs) (k : Le mm m') : Out m' F a vs := ⟨h.at_.le k, fun b e => ⟨(h.ap b e).1, k.live (h.ap b e).2⟩⟩
section
variable {ms mm : Mem} {F G : Nat → Prop} {bf bp : Nat} {bs : List UInt8} {w : Nat} {log : List Int} {most : Int} {ks : List Int} {R : Ending → Mem → Prop}
/-- Bytes of a file all of whose pages can be read. -/
theorem FT.bytes (h : FT ms mm F G bf bp bs (w : Int) (fun _ => false) log most ks) {a b : Nat} (hab : a ≤ b) (hb : b ≤ bs.length) (hlog : log.length ≤ 900000)
    (k : ∀ F' G' m' sa sc log' ks', Chg F mm m' → (∀ b, F' b → F b ∨ mm b = none) → (∀ b, G' b → G b ∨ mm b = none) → FT ms m' F' G' bf bp bs (w : Int) (fun _ => false) log' most ks' → log'.length ≤ log.length + 4001 → Own m' T_uint8 1 sa (b - a) sc (u8s (seg bs a b)) →
      (∀ x, blk sa = some x → mm x = none ∧ ¬ F' x ∧ ¬ G' x) → R (.returned (.tuple #[.slice sa (b - a) sc, .int .i64 0])) m') :
    HC P file_File_Bytes.id #[.pointer (some ⟨bf, 0, none⟩), .int .i64 (a : Int), .int .i64 (b : Int)] mm R := by
  have hl1 := h.fl.l1
  obtain ⟨ks', log', ok, hgo⟩ : ∃ ks' log' ok, goP (fun _ => false) most (pgs w a (npg w a b)) ks log = (ks', log', ok) := ⟨_, _, _, rfl⟩
  have hok := goP_ok (most := most) (pgs w a (npg w a b)) ks log
  have hlen := goP_len (f := fun _ => false) (most := most) (pgs w a (npg w a b)) ks log
  rw [hgo] at hok hlen
  rw [pgs_len] at hlen
  have hn := npg_le (w := w) (a := a) (b := b) (by omega)
  refine Bytes_spec h.fl hab hb hlog hgo ?_ (fun h0 => by rw [show ok = true from hok] at h0; cases h0)
  intro _ F' G' m' sa sc hch gF gG inG hfl hown hfr
  exact k F' G' m' sa sc log' ks' hch gF gG (h.next hch gF gG hfl) (by dsimp only at hlen; omega) hown hfr
end
end Go.E
