import Derived.Test.YtgjeockdppkflaaPL5
set_option linter.unusedVariables false
set_option linter.unusedSimpArgs false
namespace Go.E
open Go.H
attribute [local irreducible] BiN MkS ConvN LookN MapUpN CallV HC

theorem St1.four {m : Mem} {b : Nat} {x0 x1 x2 x3 u0 u1 u2 u3 : Value} {e : TypeId} {K : Mem → Prop} (h : m b = some (.cells #[x0, x1, x2, x3] e (0, 0))) (h0 : notOne u0 = false) (h1 : notOne u1 = false) (h2 : notOne u2 = false) (h3 : notOne u3 = false)
    (k : K (m.set b (.cells #[u0, u1, u2, u3] e (0, 0)))) : St1 m b 0 u0 fun m' => St1 m' b 1 u1 fun m' => St1 m' b 2 u2 fun m' => St1 m' b 3 u3 K := by
  refine St1.to #[u0, x1, x2, x3] (o := 0) h (by simp) h0 rfl ?_
  refine St1.to #[u0, u1, x2, x3] (o := 1) (set_same _ _ _) (by simp) h1 rfl ?_
  rw [set_set]
  refine St1.to #[u0, u1, u2, x3] (o := 2) (set_same _ _ _) (by simp) h2 rfl ?_
  rw [set_set]
  refine St1.to #[u0, u1, u2, u3] (o := 3) (set_same _ _ _) (by simp) h3 rfl ?_
  rw [set_set]
  exact k

/-! ### PieceAll -/
/-- Both texts under way. -/
structure Bo (ms mm : Mem) (F Fr : Nat → Prop) (bt br : Nat) (ps : List Pc) (ad : List UInt8) (B : Nat) : Prop where
  t : TS ms mm F bt ps ad B
  r : Rt mm Fr br (byt ps) ad
  fr : ∀ b, Fr b → ms b = none
  ap : ∀ b, F b → ¬ Fr b
section
variable {ms mm m' : Mem} {F Fr : Nat → Prop} {bt br : Nat} {ps : List Pc} {ad : List UInt8} {B : Nat}
theorem Bo.up (h : Bo ms mm F Fr bt br ps ad B) (k : Le mm m') : Bo ms m' F Fr bt br ps ad B := ⟨h.t.up k, h.r.le k, h.fr, h.ap⟩
theorem Bo.grow (h : Bo ms mm F Fr bt br ps ad B) {B' : Nat} (k : B ≤ B') (hB : B' ≤ 500000) : Bo ms mm F Fr bt br ps ad B' := ⟨h.t.grow k hB, h.r, h.fr, h.ap⟩
/-- Over less, or over another base. -/
theorem Bo.base {ms' : Mem} (h : Bo ms mm F Fr bt br ps ad B) (hle : Le ms' mm) (hF : ∀ b, F b → ms' b = none) (hR : ∀ b, Fr b → ms' b = none) : Bo ms' mm F Fr bt br ps ad B := ⟨⟨hle, h.t.tx, hF, h.t.gd⟩, h.r, hR, h.ap⟩
theorem Bo.down {ms' : Mem} (h : Bo ms mm F Fr bt br ps ad B) (hle : Le ms' ms) : Bo ms' mm F Fr bt br ps ad B := h.base (hle.trans h.t.le) (fun b e => hle.new (h.t.fr b e)) (fun b e => hle.new (h.fr b e))
theorem Bo.hL (h : Bo ms mm F Fr bt br ps ad B) : ∀ x ∈ byt ps, 0 ≤ x.2 ∧ x.2 ≤ 1000000 := by
  intro x hx
  unfold byt at hx
  rw [List.mem_flatMap] at hx
  obtain ⟨p, hp, hx⟩ := hx
  have := h.t.gd.sm p hp
  unfold Pc.Sm at this
  unfold Pc.bytes at hx
  rw [List.mem_map] at hx
  obtain ⟨k, hk, rfl⟩ := hx
  rw [List.mem_range] at hk
  simp only; omega
theorem Bo.refP (h : Bo ms mm F Fr bt br ps ad B) : refP (byt ps) = ps := pieces_of (fun p hp => (h.t.gd.ok p hp).1) h.t.gd.can

/-- Both edits, one behind the other. -/
theorem Bo.edits (h : Bo ms mm F Fr bt br ps ad B) {a b : Int} {sa sa2 : Option Addr} {sc sc2 : Nat} {s : List UInt8} (hs : CellsAt ms sa (u8s s)) (hs2 : CellsAt ms sa2 (u8s s)) (hB : B + s.length ≤ 400000) {r : Mem} (hr : Le r ms) {K : Int → Int → Mem → Prop} {Pn : List PanicEntry → Mem → Prop}
    (k : ∀ F' Fr' m' ps' ad' (e : Int), Bo ms m' F' Fr' bt br ps' ad' (B + s.length) → K e e m') :
    HC P piece_Text_Edit.id #[.pointer (some ⟨bt, 0, none⟩), .int .i64 a, .int .i64 b, .slice sa s.length sc] mm (Cont (fun v m8 =>
      UnI v .i64 fun x59 => Lk r m8 fun r9 => HC P eyotref3_Text_Edit.id #[.pointer (some ⟨br, 0, none⟩), .int .i64 a, .int .i64 b, .slice sa2 s.length sc2] m8 (Cont (fun v m10 => UnI v .i64 fun x67 => K x59 x67 m10) Pn)) Pn) := by
  have gl := h.t.gd.len
  have ga := h.t.gd.ad
  by_cases hb : a < 0 ∨ b < a ∨ ((byt ps).length : Nat) < b
  · refine Edit_bad h.t.tx h.t.gd hb ?_
    intro m' hle
    dsimp only [Cont]
    refine UnI.mk ?_
    refine ⟨r, Le.refl _, hr.trans (h.t.le.trans hle), ?_⟩
    have h' := h.up hle
    refine REdit_bad h'.r hb ?_
    dsimp only [Cont]
    exact UnI.mk (k F Fr m' ps ad 1 (h'.grow (by omega) (by omega)))
  by_cases hbig : 300 < s.length
  · refine Edit_big h.t.tx h.t.gd (by omega) (by omega) (by omega) hbig ?_
    intro m' hle
    dsimp only [Cont]
    refine UnI.mk ?_
    refine ⟨r, Le.refl _, hr.trans (h.t.le.trans hle), ?_⟩
    have h' := h.up hle
    refine REdit_big h'.r (by omega) (by omega) (by omega) hbig ?_
    dsimp only [Cont]
    exact UnI.mk (k F Fr m' ps ad 10 (h'.grow (by omega) (by omega)))
  refine h.t.edit (by omega) (by omega) (by omega) hs (by omega) (by omega) ?_
  intro F' m8 hch hF' h8
  dsimp only [Cont]
  refine UnI.mk ?_
  refine ⟨r, Le.refl _, hr.trans h8.le, ?_⟩
  have hr8 := h.r.chg hch (fun b e1 e2 => h.ap b e2 e1)
  have hap8 := sep_step h.ap hF' h.r.lv
  refine REdit_ok hr8 (by omega) (by omega) (by omega) (by omega) (by omega) (hs2.le h8.le) (by omega) ?_
  intro Fr' m10 hch10 hFr' hr10
  dsimp only [Cont]
  refine UnI.mk (k F' Fr' m10 _ _ 0 ⟨h8.side hch10 hap8 (hch10.to_le h8.le h.fr), ?_, fun b hb => ?_, ?_⟩)
  · have e := ed_bytes (a := a) (b := b) (s := s) (ad := ad) (fun p hp => (h.t.gd.ok p hp).1) (by omega)
    rw [e]
    exact hr10
  · rcases hFr' b hb with e | e
    · exact h.fr b e
    · exact h8.le.new e
  · exact fun b hb hg => sep_step (fun b e1 e2 => hap8 b e2 e1) hFr' h8.tx.lv b hg hb

theorem All_k3 {m : Mem} (hle : Le m mm) : eyotlaw6_PieceAll.k3 (Fine m) mm := by
  unfold eyotlaw6_PieceAll.k3
  refine Find_nil ?_
  refine Edit_nil ?_
  refine BrEt rfl (BrEt rfl ?_)
  refine Len_nil ?_
  refine piece_Text_Pieces.ok _ _ _ (Br.t rfl ?_)
  refine piece_Text_Added.ok _ _ _ (Br.t rfl ?_)
  refine BrEt (by decide) ?_
  refine Copy_nil ?_
  exact ⟨rfl, hle⟩

theorem All_k2 (h : Bo ms mm F Fr bt br ps ad B) (hB : B ≤ 400000) {x1a : Option Addr} {x1l x1c : Nat} {at_ : Int} {j : Nat} {K1 : Option Addr → Nat → Nat → Int → Option Addr → Option Addr → Int → Mem → Prop} {R : Ending → Mem → Prop}
    (k : ∀ m', Le mm m' → K1 x1a x1l x1c at_ (some ⟨bt, 0, none⟩) (some ⟨br, 0, none⟩) (IntKind.i64.wrap ((j : Int) + 1)) m') :
    eyotlaw6_PieceAll.k2 K1 x1a x1l x1c at_ (some ⟨bt, 0, none⟩) (some ⟨br, 0, none⟩) j R mm := by
  have gl := h.t.gd.len
  have ga := h.t.gd.ad
  have hge := byt_ge (fun p hp => (h.t.gd.ok p hp).1)
  -- behind both finds
  have rest : ∀ (m2 : Mem) (p o e : Int), Le mm m2 →
      Sub m2 fun r3 => HC P piece_Text_Pieces.id #[.pointer (some ⟨bt, 0, none⟩)] m2 (Cont (fun v m4 => UnS v fun x104a x104l x104c => Lk r3 m4 fun r5 =>
        HC P eyotref3_Text_Pieces.id #[.pointer (some ⟨br, 0, none⟩)] m4 (Cont (fun v m6 => UnS v fun x106a x106l x106c => Lk r5 m6 fun r7 =>
        HC P eyotref3_SamePieces.id #[.slice x104a x104l x104c, .slice x106a x106l x106c] m6 (Cont (fun v m8 => UnB v fun x107 => Lk r7 m8 fun r9 => Br (!x107) (R (.returned (.bool false)) m8) (
        NilC (some ⟨br, 0, none⟩) (fun x114b x114o => LdV r9 x114b (x114o + 1) fun v => UnS v fun x116a x116l x116c => B2S r9 x116a x116l fun s117 =>
        HC P piece_Text_Added.id #[.pointer (some ⟨bt, 0, none⟩)] m8 (Cont (fun v m10 => UnS v fun x111a x111l x111c => Lk r9 m10 fun r11 => B2S m10 x111a x111l fun s112 => Br (!(s112.toList == s117.toList)) (R (.returned (.bool false)) m10) (
        NilC (some ⟨br, 0, none⟩) (fun x124b x124o => LdV r11 x124b x124o fun v => UnS v fun x126a x126l x126c =>
        HC P piece_Text_Len.id #[.pointer (some ⟨bt, 0, none⟩)] m10 (Cont (fun v m12 => UnI v .i64 fun x122 => Lk r11 m12 fun r13 => Br (x122 != ((x126l : Nat) : Int)) (R (.returned (.bool false)) m12) (
        Br (p != p) (R (.returned (.bool false)) m12) (Br (o != o) (R (.returned (.bool false)) m12) (Br (e != e) (R (.returned (.bool false)) m12) (
        K1 x1a x1l x1c at_ (some ⟨bt, 0, none⟩) (some ⟨br, 0, none⟩) (IntKind.i64.wrap ((j : Int) + 1)) m12))))) (panicR R))) (False))) (panicR R))) (False))) (panicR R))) (panicR R))) (panicR R)) := by
    intro m2 p o e hle2
    have h2 := h.up hle2
    refine ⟨m2, Le.refl _, ?_⟩
    refine Pieces_spec h2.t.tx h2.t.gd ?_
    intro pa pc m4 hle4 hp hfp
    have h4 := h2.up hle4
    refine ⟨m4, hle4, Le.refl _, ?_⟩
    refine RPieces_spec h4.r (by omega) h.hL ?_
    intro qa ql qc m6 hle6 hq hfq hql
    have h6 := h4.up hle6
    refine ⟨m6, hle6, Le.refl _, ?_⟩
    rw [h.refP] at hq hql
    subst hql
    refine Same_true (hp.cells.le hle6) hq.cells rfl (by omega) ?_
    refine ⟨m6, Le.refl _, Le.refl _, ?_⟩
    refine Br.f rfl ?_
    have h6' := h6
    obtain ⟨⟨la, ll, lc, aa, al, ac, g1, g2, g3, g4, g5, g6, g7, g8⟩, lv⟩ := h6'.r
    refine LdV.s1 g1 ?_
    refine ⟨ad, g5, g4.cells, ?_⟩
    refine Added_spec h6.t.tx h6.t.gd ?_
    intro ba bc m10 hle10 hb hfb
    have h10 := h6.up hle10
    refine ⟨m10, hle10, Le.refl _, ?_⟩
    refine ⟨ad, rfl, hb.cells, ?_⟩
    refine Br.f (toList_beq _) ?_
    refine LdV.s0 (hle10 _ _ g1) ?_
    refine Len_spec h10.t.tx h10.t.gd ?_
    intro m12 hle12
    refine ⟨m12, hle12, Le.refl _, ?_⟩
    refine BrNf (by omega) ?_
    refine BrNf rfl (BrNf rfl (BrNf rfl ?_))
    exact k m12 (hle2.trans (hle4.trans (hle6.trans (hle10.trans hle12))))
  unfold eyotlaw6_PieceAll.k2
  by_cases ho : at_ < 0 ∨ ((byt ps).length : Nat) ≤ at_
  · refine Find_out h.t.tx h.t.gd ho ?_
    intro m1 hle1
    refine RFind_out (h.up hle1).r ho ?_
    exact rest m1 0 0 1 hle1
  · refine Find_in h.t.tx h.t.gd (by omega) (by omega) ?_
    intro m1 hle1
    refine RFind_in (h.up hle1).r (by omega) h.hL h.refP h.t.gd.sm rfl (by omega) (by omega) ?_
    intro m2 hle2
    exact rest m2 _ _ 0 (hle1.trans hle2)
end
theorem PieceAll_arg {W : World} {v0 v1 v2 : Value} (h0 : Arg P W T_int v0) (h1 : Arg P W T_sl_eyotlaw6_Op v1) (h2 : Arg P W T_int v2) : HC P eyotlaw6_PieceAll.id #[v0, v1, v2] (heapM W) (Fine (heapM W)) := by
  obtain ⟨n, rfl, hn⟩ := h0.int (k := .i64) (by kernel_rfl)
  obtain ⟨a, c, os, rfl, hops⟩ := arg_ops h1
  obtain ⟨at_, rfl, hat⟩ := h2.int (k := .i64) (by kernel_rfl)
  generalize heapM W = m at *
  refine eyotlaw6_PieceAll.ok _ _ _ _ _ _ _ ?_
  refine begun6 ?_
  intro m1 hle1
  refine Br.f rfl ?_
  refine BrD (fun _ => ⟨rfl, hle1⟩) (fun hlen => ?_)
  refine BrD (fun _ => ⟨rfl, hle1⟩) (fun hn2 => ?_)
  refine TS.new (B := 200) (by omega) (by decide) ?_
  intro bt F m2 hts
  have hts : TS m m2 F bt (newL n) [] 200 := ⟨hle1.trans hts.le, hts.tx, fun b hb => hle1.new (hts.fr b hb), hts.gd⟩
  refine NewText_spec (by omega) ?_
  intro br Fr m3 hle3 hFr hr
  have hbyt : byt (newL n) = newR n := by
    unfold newL newR
    split
    · rw [byt_cons, show byt [] = [] from rfl, List.append_nil]
      unfold Pc.bytes
      simp
    · rw [show n.toNat = 0 by omega]; rfl
  rw [← hbyt] at hr
  have h3 : Bo m m3 F Fr bt br (newL n) [] 200 := ⟨hts.up hle3, hr, fun b e => hts.le.new (hFr b e), fun b e1 e2 => hts.tx.lv b e1 (hFr b e2)⟩
  refine ⟨fun N x1a x1l x1c x2 x7 x8 i mm => x1a = a ∧ x1l = os.length ∧ x2 = at_ ∧ ∃ (j : Nat) (F Fr : Nat → Prop) (bt br : Nat) (ps : List Pc) (ad : List UInt8), x7 = some ⟨bt, 0, none⟩ ∧ x8 = some ⟨br, 0, none⟩ ∧ i = j ∧ j ≤ os.length ∧ N = os.length - j ∧ Bo m mm F Fr bt br ps ad (200 + 320 * j),
    os.length, ⟨rfl, rfl, rfl, 0, F, Fr, bt, br, _, _, rfl, rfl, rfl, by omega, by omega, h3⟩, ?_⟩
  clear h3 hr hFr hle3 hts hbyt
  rintro N x1a x1l x1c x2 x7 x8 i mm ⟨rfl, rfl, rfl, j, F, Fr, bt, br, ps, ad, rfl, rfl, rfl, hj, rfl, hbo⟩
  refine BrD (fun hlt => ?_) (fun hge => All_k3 hbo.t.le)
  have hjl : j < os.length := by omega
  have hs := hops.2 os[j] (List.getElem_mem _)
  refine rowAt hops hjl hbo.t.le ?_
  intro b o hc
  refine LdV.mk (hc 0 _ rfl) ?_
  refine LdV.mk (hc 1 _ rfl) ?_
  refine LdV.mk (hc 2 _ rfl) ?_
  refine LdV.mk (hc 3 _ rfl) ?_
  generalize os[j] = x at *
  intro b10 hb10
  refine St1.four (set_same _ _ _) rfl rfl rfl rfl ?_
  rw [set_set]
  have hle5 := Le.set hb10 (.cells #[.int .i64 x.a, .int .i64 x.b, .slice x.sa x.s.length x.sc, .bool x.cp] T_eyotlaw6_Op (0, 0))
  have hb5 := set_same mm b10 (.cells #[.int .i64 x.a, .int .i64 x.b, .slice x.sa x.s.length x.sc, .bool x.cp] T_eyotlaw6_Op (0, 0))
  have h5 := hbo.up hle5
  have hbF : ¬ (F b10 ∨ Fr b10) := fun e => e.elim (fun e => hbo.t.tx.lv _ e hb10) (fun e => hbo.r.lv _ e hb10)
  generalize mm.set b10 _ = m5 at *
  refine LdV.s2 hb5 ?_
  refine BrD (fun _ => ⟨rfl, h5.t.le⟩) (fun hs3 => ?_)
  refine LdV.s2 hb5 ?_
  refine Twin_spec (hs.le h5.t.le) rfl (by omega) ?_
  intro xb m6 hle6 hxb hrow
  have h6 := h5.up hle6
  -- what does not turn while both are edited
  have hxF : ¬ (F xb ∨ Fr xb) := fun e => e.elim (fun e => h5.t.tx.lv _ e hxb) (fun e => h5.r.lv _ e hxb)
  have hwle : Le (m6.wo (fun b => F b ∨ Fr b)) m6 := wo_le _ _
  have hmw : Le m (m6.wo (fun b => F b ∨ Fr b)) := le_wo h6.t.le (fun b e => e.elim (h6.t.fr b) (h6.fr b))
  have h6w : Bo (m6.wo (fun b => F b ∨ Fr b)) m6 F Fr bt br ps ad (200 + 320 * j) := h6.base hwle (fun b e => wo_out (.inl e)) (fun b e => wo_out (.inr e))
  have hb10w : (m6.wo (fun b => F b ∨ Fr b)) b10 = some (.cells #[.int .i64 x.a, .int .i64 x.b, .slice x.sa x.s.length x.sc, .bool x.cp] T_eyotlaw6_Op (0, 0)) := by rw [wo_in hbF]; exact hle6 _ _ hb5
  have hroww : (m6.wo (fun b => F b ∨ Fr b)) xb = some (.cells (twinRow x.s) T_uint8 (0, 0)) := by rw [wo_in hxF]; exact hrow
  generalize m6.wo (fun b => F b ∨ Fr b) = mw at *
  refine ⟨mw, hwle, ?_⟩
  refine LdV.s0 hb10w ?_
  refine LdV.s1 hb10w ?_
  refine LdV.s0 hb10w ?_
  refine LdV.s1 hb10w ?_
  refine LdV.s2 hb10w ?_
  refine h6w.edits (twin_cells hroww).left (hs.le hmw) (by omega) (Le.refl _) ?_
  intro F' Fr' m10 ps' ad' e h10
  refine BrNf rfl ?_
  refine LdV.s2 (h10.t.le _ _ hb10w) ?_
  refine Kept_spec (h10.t.le _ _ hroww) ((hs.le hmw).le h10.t.le) rfl (by omega) ?_
  refine Br.f rfl ?_
  have e3 : x.s.length + 3 = (twinRow x.s).size := by simp [twinRow, u8s_len]
  rw [e3]
  refine Spoil_spec (h10.t.le _ _ hroww) (by omega) ?_
  intro m12 hch12
  -- the twin turns
  have hxn : m xb = none := (hbo.t.le.trans hle5).new hxb
  have hmv : Le m (mw.wo (fun b => b = xb)) := le_wo hmw (by rintro b rfl; exact hxn)
  have hx10 : ¬ F' xb := fun h => by have := h10.t.fr _ h; rw [hroww] at this; cases this
  have hx10r : ¬ Fr' xb := fun h => by have := h10.fr _ h; rw [hroww] at this; cases this
  have hbx : b10 ≠ xb := by
    rintro rfl
    rw [hb5] at hxb; cases hxb
  have hvle : Le (mw.wo (fun b => b = xb)) m12 := hch12.to_le ((wo_le _ _).trans h10.t.le) (by rintro b rfl; exact wo_out rfl)
  have h12 : Bo (mw.wo (fun b => b = xb)) m12 F' Fr' bt br ps' ad' (200 + 320 * j + x.s.length) := by
    have hnew : ∀ {b : Nat}, mw b = none → (mw.wo (fun b => b = xb)) b = none := fun hb => by
      unfold Mem.wo; split
      · rfl
      · exact hb
    exact ⟨⟨hvle, h10.t.tx.chg hch12 (by rintro b e rfl; exact hx10 e), fun b e => hnew (h10.t.fr b e), h10.t.gd⟩, h10.r.chg hch12 (by rintro b e rfl; exact hx10r e), fun b e => hnew (h10.fr b e), h10.ap⟩
  have hb10v : (mw.wo (fun b => b = xb)) b10 = some (.cells #[.int .i64 x.a, .int .i64 x.b, .slice x.sa x.s.length x.sc, .bool x.cp] T_eyotlaw6_Op (0, 0)) := by rw [wo_in (F := fun b => b = xb) hbx]; exact hb10w
  generalize mw.wo (fun b => b = xb) = mv at *
  refine LdV.s3 (hvle _ _ hb10v) ?_
  have h12m := h12.down hmv
  -- the next round
  have next : ∀ (F2 Fr2 : Nat → Prop) (bt2 : Nat) (m' : Mem), Bo m m' F2 Fr2 bt2 br ps' ad' (200 + 320 * j + x.s.length) → ∃ N1, N1 < os.length - j ∧ (x1a = x1a ∧ os.length = os.length ∧ x2 = x2 ∧ ∃ (j' : Nat) (F Fr : Nat → Prop) (bt br' : Nat) (ps : List Pc) (ad : List UInt8), some (⟨bt2, 0, none⟩ : Addr) = some ⟨bt, 0, none⟩ ∧ some (⟨br, 0, none⟩ : Addr) = some ⟨br', 0, none⟩ ∧ IntKind.i64.wrap ((j : Int) + 1) = j' ∧ j' ≤ os.length ∧ N1 = os.length - j' ∧ Bo m m' F Fr bt br' ps ad (200 + 320 * j')) := by
    intro F2 Fr2 bt2 m' hb
    rw [wi (by omega) (by omega)]
    exact ⟨os.length - (j + 1), by omega, rfl, rfl, rfl, j + 1, F2, Fr2, bt2, br, ps', ad', rfl, rfl, by omega, by omega, rfl, hb.grow (by omega) (by omega)⟩
  refine Br.mk (fun _ => ?_) (fun _ => ?_)
  · refine Copy_spec h12.t.tx h12.t.gd ?_
    intro bc Fc m13 hle13 hFc hc13
    have h13 := h12m.up hle13
    refine Len_spec h13.t.tx h13.t.gd ?_
    intro m14 hle14
    have h14 := h13.up hle14
    intro b85 hb85
    have hle15 := Le.set hb85 (.cells #[.int .u8 115, .int .u8 112, .int .u8 111, .int .u8 105, .int .u8 108, .int .u8 116] T_uint8 (6, 7))
    refine conv_bytes (t := T_sl_uint8) (e := T_uint8) (by kernel_rfl) (by kernel_rfl) (set_same _ _ _) (UnS.mk ?_)
    rw [set_set]
    have h15 := h14.up hle15
    have gl := h12.t.gd.len
    refine Edit_ok h15.t.tx h15.t.gd (by omega) (by omega) (by omega) (s := [115, 112, 111, 105, 108, 116]) (cells_at (set_same _ _ _) rfl) rfl (by simp) (by simp; omega) ?_ ?_
    · intro _ b e hF; cases e; exact h14.t.tx.lv _ hF hb85
    intro F17 m17 hch17 hF17 hx17
    have hcF : ∀ b, Fc b → ¬ F' b := fun b e1 e2 => h12.t.tx.lv b e2 (hFc b e1)
    have hle1215 := (hle13.trans hle14).trans hle15
    have hc17 : Tx m17 Fc bc ps' ad' := (hc13.le (hle14.trans hle15)).chg hch17 hcF
    have hm17 : Le m m17 := hch17.to_le h15.t.le h15.t.fr
    have h17 : Bo m m17 Fc Fr' bc br ps' ad' (200 + 320 * j + x.s.length) :=
      ⟨⟨hm17, hc17, fun b e => h12m.t.le.new (hFc b e), h12.t.gd⟩, h15.r.chg hch17 (fun b e1 e2 => h12.ap b e2 e1), h12m.fr, fun b e1 e2 => h12.r.lv b e2 (hFc b e1)⟩
    refine All_k2 h17 (by omega) ?_
    intro m' hle'
    exact next Fc Fr' bc m' (h17.up hle')
  · refine All_k2 h12m (by omega) ?_
    intro m' hle'
    exact next F' Fr' bt m' (h12m.up hle')
end Go.E
