/- Layer 5: FileAll. -/
import Derived.Test.YteljlgelgkijlaaFL5
set_option linter.unusedVariables false
set_option linter.unusedSimpArgs false
set_option maxRecDepth 20000
namespace Go.E
open Go.H
attribute [local irreducible] BiN MkS ConvN LookN MapUpN CallV HC

/-- A file, and the document's cache. -/
structure Duo (ms mm : Mem) (F G Fr : Nat → Prop) (bf bp br : Nat) (bs : List UInt8) (w : Nat) (f : Int → Bool) (log : List Int) (most : Int) (ks : List Int) (es : List (Int × Int)) : Prop where
  ft : FT ms mm F G bf bp bs (w : Int) f log most ks
  rc : Rc mm Fr br most es
  rfr : ∀ b, Fr b → ms b = none
  sep : ∀ b, Fr b → ¬ F b ∧ ¬ G b
section
variable {ms mm m' : Mem} {F G Fr F' G' : Nat → Prop} {bf bp br : Nat} {bs : List UInt8} {w : Nat} {f f2 : Int → Bool} {log log2 : List Int} {most : Int} {ks ks2 : List Int} {es es2 : List (Int × Int)}
theorem Duo.up (h : Duo ms mm F G Fr bf bp br bs w f log most ks es) (k : Le mm m') : Duo ms m' F G Fr bf bp br bs w f log most ks es := ⟨h.ft.up k, h.rc.le k, h.rfr, h.sep⟩
theorem Duo.file (h : Duo ms mm F G Fr bf bp br bs w f log most ks es) (hch : Chg F mm m') (gF : ∀ b, F' b → F b ∨ mm b = none) (gG : ∀ b, G' b → G b ∨ mm b = none) (hf : Fl m' F' G' bf bp bs (w : Int) f2 log2 most ks2) : Duo ms m' F' G' Fr bf bp br bs w f2 log2 most ks2 es :=
  ⟨h.ft.next hch gF gG hf, h.rc.chg hch (fun b e x => (h.sep b e).1 x), h.rfr, fun b e => ⟨fun x => (gF b x).elim (h.sep b e).1 (h.rc.lv b e), fun x => (gG b x).elim (h.sep b e).2 (h.rc.lv b e)⟩⟩
theorem Duo.ref (h : Duo ms mm F G Fr bf bp br bs w f log most ks es) (hch : Chg Fr mm m') (gR : ∀ b, F' b → Fr b ∨ mm b = none) (hr : Rc m' F' br most es2) : Duo ms m' F G F' bf bp br bs w f log most ks es2 :=
  ⟨h.ft.side hch (fun b e x => (h.sep b x).1 e) (fun b e x => (h.sep b x).2 e) h.rfr, hr, fun b e => (gR b e).elim (h.rfr b) (fun x => h.ft.le.new x),
    fun b e => (gR b e).elim (h.sep b) (fun x => ⟨fun y => h.ft.fl.lv b (.inl y) x, fun y => h.ft.fl.lv b (.inr y) x⟩)⟩
end

section
variable {ms mm : Mem} {F G Fr : Nat → Prop} {bf bp br : Nat} {bs : List UInt8} {w : Nat} {f : Int → Bool} {log : List Int} {most : Int} {ks : List Int} {es : List (Int × Int)} {R : Ending → Mem → Prop}
  {K1 : Option Addr → Nat → Nat → Option Addr → Nat → Nat → Int → Option Addr → Option Addr → Nat → Nat → Int → Int → Mem → Prop} {xa oa ra : Option Addr} {xl xc ol oc rc i : Nat} {bad : Int}
/-- The end of a turn. -/
theorem fa_k2 (h : Duo ms mm F G Fr bf bp br bs w f log most ks es) (hk : keysOf es = ks) (hx : bs.length = xl) (hlog : log.length ≤ 5000) (hrow : CellsAt mm ra (ints log)) (hi : i ≤ 30)
    (k : ∀ m', Duo ms m' F G Fr bf bp br bs w f log most ks es → K1 xa xl xc oa ol oc (w : Int) (some ⟨bp, 0, none⟩) (some ⟨bf, 0, none⟩) br 0 bad ((i + 1 : Nat) : Int) m') :
    eyotlaw5_FileAll.k2 K1 xa xl xc oa ol oc (w : Int) (some ⟨bp, 0, none⟩) (some ⟨bf, 0, none⟩) br 0 bad (i : Int) ra log.length rc R mm := by
  unfold eyotlaw5_FileAll.k2
  refine ⟨mm, Le.refl _, ?_⟩
  refine h.ft.reads (by omega) ?_
  intro a' c' m1 h1 ho hf
  dsimp only [Cont]
  refine UnS.mk (Lk.all h1 ?_)
  refine same_ints ho.cells (hrow.le h1) rfl (by omega) ?_
  dsimp only [Cont]
  refine UnB.mk (Lk.all (Le.refl _) ?_)
  refine Br.f rfl ?_
  have hd := h.up h1
  obtain ⟨⟨ka, kc, va, vc, e1, _⟩, _⟩ := id hd.rc
  refine LdV.s1 e1 ?_
  refine UnS.mk ?_
  refine Kept_spec hd.ft.fl ?_
  intro m2 h2
  dsimp only [Cont]
  refine UnI.mk (Lk.all h2 ?_)
  have hlen : es.length = ks.length := by rw [← keysOf_len, hk]
  refine BrNf (by rw [hlen]) ?_
  have hd2 := hd.up h2
  refine FLen_spec hd2.ft.fl ?_
  intro m3 h3
  dsimp only [Cont]
  refine UnI.mk ?_
  refine BrNf (by rw [hx]) ?_
  have hw : IntKind.i64.wrap ((i : Int) + 1) = ((i + 1 : Nat) : Int) := by rw [wi (by omega) (by omega)]; omega
  rw [hw]
  exact k m3 (hd2.up h3)

/-- What goes on behind a turn. -/
def Next (ms : Mem) (bf bp br : Nat) (bs : List UInt8) (w : Nat) (most : Int) (xa : Option Addr) (xl xc : Nat) (oa : Option Addr) (ol oc i : Nat)
    (K1 : Option Addr → Nat → Nat → Option Addr → Nat → Nat → Int → Option Addr → Option Addr → Nat → Nat → Int → Int → Mem → Prop) : Prop :=
  ∀ (m' : Mem) (F' G' Fr' : Nat → Prop) (f' : Int → Bool) (bad' : Int) (log' ks' : List Int) (es' : List (Int × Int)), Duo ms m' F' G' Fr' bf bp br bs w f' log' most ks' es' → keysOf es' = ks' → (∀ j, 0 ≤ j → f' j = decide (j = bad')) →
    K1 xa xl xc oa ol oc (w : Int) (some ⟨bp, 0, none⟩) (some ⟨bf, 0, none⟩) br 0 bad' ((i + 1 : Nat) : Int) m'

theorem duo_small (h : Duo ms mm F G Fr bf bp br bs w f log most ks es) (hk : keysOf es = ks) : es.length ≤ 4000 ∧ (keysOf es).Nodup ∧ ((es.length : Nat) : Int) ≤ max most 1 := by
  have h1 := h.ft.fl.small
  have h2 := h.ft.fl.nd
  have h3 := h.ft.fl.len
  have hlen : es.length = ks.length := by rw [← keysOf_len, hk]
  exact ⟨by omega, by rw [hk]; exact h2, by rw [hlen]; exact h3⟩

/-- The walk, against the file. -/
theorem duo_walk {ks2 : List Int} (h : Duo ms mm F G Fr bf bp br bs w f log most ks2 es) {ks : List Int} (hk : keysOf es = ks) (hks : ks.length ≤ 4000 ∧ ks.Nodup ∧ ((ks.length : Nat) : Int) ≤ max most 1) {a b : Nat} (hab : a ≤ b) (hb : b ≤ 400) {ks' lg' : List Int} {ok : Bool} (hf : ∀ j, 0 ≤ j → f j = decide (j = bad))
    (hgo : goP f most (pgs w a (npg w a b)) ks [] = (ks', lg', ok))
    (k : ∀ Fr' m' es' ra rc, Le ms m' → Chg Fr mm m' → (∀ x, Fr' x → Fr x ∨ mm x = none) → Duo ms m' F G Fr' bf bp br bs w f log most ks2 es' → keysOf es' = ks' → CellsAt m' ra (ints lg') → R (.returned (.tuple #[.slice ra lg'.length rc, .int .i64 (if ok = true then 0 else 11)])) m') :
    HC P eyotlaw5_walk.id #[.pointer (some ⟨br, 0, none⟩), .int .i64 (a : Int), .int .i64 (b : Int), .int .i64 (w : Int), .int .i64 bad] mm R := by
  have hs1 := h.ft.fl.s1
  have hs2 := h.ft.fl.s2
  have hlen : es.length = ks.length := by rw [← keysOf_len, hk]
  rw [goP_congr (g := fun i => decide (i = bad)) _ _ _ (fun i hi => hf i (pgs_nn hi)), ← hk] at hgo
  refine walk_spec h.rc (by rw [hk]; exact hks.2.1) (by rw [hlen]; exact hks.2.2) (by omega) hab hb (by omega) (by omega) hgo ?_
  intro Fr' m' es' ra rc hch gR hr hkk ho hfr
  have hd := h.ref hch gR hr
  exact k Fr' m' es' ra rc hd.ft.le hch gR hd hkk ho.cells

theorem fa_bytes (h : Duo ms mm F G Fr bf bp br bs w f [] most ks es) (hk : keysOf es = ks) (hf : ∀ j, 0 ≤ j → f j = decide (j = bad)) (hc : CellsAt ms xa (u8s bs)) (hx : bs.length = xl) (hxc : xl ≤ xc) (hxl : xl ≤ 300) (hi : i ≤ 30)
    {b16 : Nat} {kd A B : Int} (h16 : mm b16 = some (.cells #[.int .i64 kd, .int .i64 A, .int .i64 B] T_eyotlaw5_Op (0, 0))) (n16 : ¬ F b16 ∧ ¬ G b16 ∧ ¬ Fr b16) (nx : Next ms bf bp br bs w most xa xl xc oa ol oc i K1) :
    eyotlaw5_FileAll.k3 K1 xa xl xc oa ol oc (w : Int) (some ⟨bp, 0, none⟩) (some ⟨bf, 0, none⟩) br 0 bad (i : Int) b16 0 none 0 0 false R mm := by
  unfold eyotlaw5_FileAll.k3
  refine Br.f rfl ?_
  refine LdV.s1 h16 (UnI.mk ?_)
  refine LdV.s2 h16 (UnI.mk ?_)
  by_cases hr : A < 0 ∨ B < A ∨ (bs.length : Int) < B
  · refine Bytes_out h.ft.fl hr ?_
    intro m1 h1
    have e1 := h1 _ _ h16
    have hd := h.up h1
    have k5 : eyotlaw5_FileAll.k5 K1 xa xl xc oa ol oc (w : Int) (some ⟨bp, 0, none⟩) (some ⟨bf, 0, none⟩) br 0 bad (i : Int) b16 0 none 0 0 none 0 0 1 true R m1 := by
      unfold eyotlaw5_FileAll.k5
      refine Br.t rfl ?_
      refine BrNf rfl ?_
      refine BrDf (by decide) ?_
      exact fa_k2 (log := []) hd hk hx (by simp) (CellsAt.empty _ _) hi (fun m' hd' => nx m' F G Fr f bad [] ks es hd' hk hf)
    refine LdV.s1 e1 (UnI.mk ?_)
    refine BrD (fun _ => k5) (fun h0 => ?_)
    refine LdV.s1 e1 (UnI.mk ?_)
    refine LdV.s2 e1 (UnI.mk ?_)
    refine BrD (fun _ => k5) (fun h2 => ?_)
    refine LdV.s2 e1 (UnI.mk ?_)
    rw [show decide (B > ((xl : Nat) : Int)) = true from decide_eq_true (by omega)]
    exact k5
  · obtain ⟨a, rfl⟩ : ∃ a : Nat, A = (a : Int) := ⟨A.toNat, by omega⟩
    obtain ⟨b, rfl⟩ : ∃ b : Nat, B = (b : Int) := ⟨B.toNat, by omega⟩
    have hsm := h.ft.fl.small
    have hnd := h.ft.fl.nd
    have hmx := h.ft.fl.len
    obtain ⟨ks', lg', ok, hgo⟩ : ∃ ks' lg' ok, goP f most (pgs w a (npg w a b)) ks [] = (ks', lg', ok) := ⟨_, _, _, rfl⟩
    have hlg := goP_len (f := f) (most := most) (pgs w a (npg w a b)) ks []
    rw [hgo, pgs_len] at hlg
    have hnp : npg w a b ≤ 4001 := npg_le (by omega)
    have hlg : lg'.length ≤ 4001 := by dsimp only at hlg; simp at hlg; omega
    have rest : ∀ (m1 : Mem) (F' G' : Nat → Prop) (sa : Option Addr) (sl sc : Nat) (e : Int), Duo ms m1 F' G' Fr bf bp br bs w f lg' most ks' es → m1 b16 = some (.cells #[.int .i64 kd, .int .i64 (a : Int), .int .i64 (b : Int)] T_eyotlaw5_Op (0, 0)) →
        e = (if ok = true then 0 else 11) → (ok = true → sl = b - a ∧ CellsAt m1 sa (u8s (seg bs a b)) ∧ ∀ x, blk sa = some x → ¬ Fr x) → (ok = false → sl = 0) →
        eyotlaw5_FileAll.k5 K1 xa xl xc oa ol oc (w : Int) (some ⟨bp, 0, none⟩) (some ⟨bf, 0, none⟩) br 0 bad (i : Int) b16 0 none 0 0 sa sl sc e false R m1 := by
      intro m1 F' G' sa sl sc e hd e1 he hgd hbd
      unfold eyotlaw5_FileAll.k5
      refine Br.f rfl ?_
      refine LdV.s1 e1 (UnI.mk ?_)
      refine LdV.s2 e1 (UnI.mk ?_)
      refine duo_walk hd hk ⟨hsm, hnd, hmx⟩ (by omega) (by omega) hf hgo ?_
      intro Fr2 m2 es2 ra rc hle2 hch2 gR2 hd2 hkk2 hrow2
      have e2 := hch2.eq _ _ e1 n16.2.2
      refine ⟨m2, Le.refl _, ?_⟩
      refine BrNf he ?_
      have k2 : eyotlaw5_FileAll.k2 K1 xa xl xc oa ol oc (w : Int) (some ⟨bp, 0, none⟩) (some ⟨bf, 0, none⟩) br 0 bad (i : Int) ra lg'.length rc R m2 :=
        fa_k2 (log := lg') hd2 hkk2 hx (by omega) hrow2 hi (fun m' hd' => nx m' F' G' Fr2 f bad lg' ks' es2 hd' hkk2 hf)
      cases ok with
      | true =>
        obtain ⟨rfl, hcs, hsf⟩ := hgd rfl
        refine BrEt rfl ?_
        refine ⟨seg bs a b, seg_len (by omega), hcs.chg hch2 (fun x e y => hsf x e y), ?_⟩
        refine LdV.s1 e2 (UnI.mk ?_)
        refine LdV.s2 e2 (UnI.mk ?_)
        refine ⟨by omega, by omega, by omega, ?_⟩
        have hsub := CellsAt.sub (sz := 1) (lo := a) (hi := b) (c := xc) (hc.le hle2) (by rw [u8s_len]; omega) (by omega)
        rw [Nat.mul_one, Nat.mul_one] at hsub
        have hu : ((u8s bs).take b).drop a = u8s (seg bs a b) := by
          unfold u8s seg
          rw [← List.map_take, ← List.map_drop, List.drop_take]
        rw [hu] at hsub
        rw [show ((a : Nat) : Int).toNat = a from by omega, show ((b : Nat) : Int).toNat = b from by omega]
        refine ⟨seg bs a b, seg_len (by omega), hsub, ?_⟩
        refine Br.f (by rw [beq_self_eq_true]; rfl) ?_
        refine BrNf rfl ?_
        exact k2
      | false =>
        refine BrEf (by simp) ?_
        refine BrNt (by simp) ?_
        rw [hbd rfl]
        exact BrDf (by decide) k2
    have fin : ∀ (m1 : Mem) (F' G' : Nat → Prop) (sa : Option Addr) (sl sc : Nat) (e : Int), Duo ms m1 F' G' Fr bf bp br bs w f lg' most ks' es → m1 b16 = some (.cells #[.int .i64 kd, .int .i64 (a : Int), .int .i64 (b : Int)] T_eyotlaw5_Op (0, 0)) →
        e = (if ok = true then 0 else 11) → (ok = true → sl = b - a ∧ CellsAt m1 sa (u8s (seg bs a b)) ∧ ∀ x, blk sa = some x → ¬ Fr x) → (ok = false → sl = 0) →
        LdV m1 b16 (0 + 1) fun v => UnI v .i64 fun x83 => Br (decide (x83 < 0)) (eyotlaw5_FileAll.k5 K1 xa xl xc oa ol oc (w : Int) (some ⟨bp, 0, none⟩) (some ⟨bf, 0, none⟩) br 0 bad (i : Int) b16 0 none 0 0 sa sl sc e true R m1) (
          LdV m1 b16 (0 + 1) fun v => UnI v .i64 fun x87 => LdV m1 b16 (0 + 2) fun v => UnI v .i64 fun x89 => Br (decide (x87 > x89)) (eyotlaw5_FileAll.k5 K1 xa xl xc oa ol oc (w : Int) (some ⟨bp, 0, none⟩) (some ⟨bf, 0, none⟩) br 0 bad (i : Int) b16 0 none 0 0 sa sl sc e true R m1) (
            LdV m1 b16 (0 + 2) fun v => UnI v .i64 fun x94 => eyotlaw5_FileAll.k5 K1 xa xl xc oa ol oc (w : Int) (some ⟨bp, 0, none⟩) (some ⟨bf, 0, none⟩) br 0 bad (i : Int) b16 0 none 0 0 sa sl sc e (decide (x94 > ((xl : Nat) : Int))) R m1)) := by
      intro m1 F' G' sa sl sc e hd e1 he hgd hbd
      refine LdV.s1 e1 (UnI.mk ?_)
      refine BrDf (by omega) ?_
      refine LdV.s1 e1 (UnI.mk ?_)
      refine LdV.s2 e1 (UnI.mk ?_)
      refine BrDf (by omega) ?_
      refine LdV.s2 e1 (UnI.mk ?_)
      rw [show decide ((b : Int) > ((xl : Nat) : Int)) = false from decide_eq_false (by omega)]
      exact rest m1 F' G' sa sl sc e hd e1 he hgd hbd
    refine Bytes_spec h.ft.fl (a := a) (b := b) (by omega) (by omega) (by simp) hgo ?_ ?_
    · intro hok F' G' m' sa sc hch gF gG inG hfl ho hfr
      exact fin m' F' G' sa (b - a) sc 0 (h.file hch gF gG hfl) (hch.eq _ _ h16 n16.1) (by rw [hok]; rfl) (fun _ => ⟨rfl, ho.cells, fun x e y => h.rc.lv x y (hfr x e).1⟩) (fun h0 => by rw [hok] at h0; cases h0)
    · intro hok F' G' m' hch gF gG inG hfl
      exact fin m' F' G' none 0 0 11 (h.file hch gF gG hfl) (hch.eq _ _ h16 n16.1) (by rw [hok]; rfl) (fun h0 => by rw [hok] at h0; cases h0) (fun _ => rfl)

theorem fa_at (h : Duo ms mm F G Fr bf bp br bs w f [] most ks es) (hk : keysOf es = ks) (hf : ∀ j, 0 ≤ j → f j = decide (j = bad)) (hc : CellsAt ms xa (u8s bs)) (hx : bs.length = xl) (hxl : xl ≤ 300) (hi : i ≤ 30)
    {b16 : Nat} {kd A B : Int} (h16 : mm b16 = some (.cells #[.int .i64 kd, .int .i64 A, .int .i64 B] T_eyotlaw5_Op (0, 0))) (n16 : ¬ F b16 ∧ ¬ G b16 ∧ ¬ Fr b16) (nx : Next ms bf bp br bs w most xa xl xc oa ol oc i K1) :
    eyotlaw5_FileAll.k3 K1 xa xl xc oa ol oc (w : Int) (some ⟨bp, 0, none⟩) (some ⟨bf, 0, none⟩) br 0 bad (i : Int) b16 0 none 0 0 true R mm := by
  unfold eyotlaw5_FileAll.k3
  refine Br.t rfl ?_
  refine LdV.s1 h16 (UnI.mk ?_)
  by_cases hr : A < 0 ∨ (bs.length : Int) ≤ A
  · refine At_out h.ft.fl hr ?_
    intro m1 h1
    have e1 := h1 _ _ h16
    have hd := h.up h1
    have k4 : eyotlaw5_FileAll.k4 K1 xa xl xc oa ol oc (w : Int) (some ⟨bp, 0, none⟩) (some ⟨bf, 0, none⟩) br 0 bad (i : Int) b16 0 none 0 0 0 1 true R m1 := by
      unfold eyotlaw5_FileAll.k4
      refine Br.t rfl ?_
      refine BrNf rfl ?_
      refine BrNf rfl ?_
      exact fa_k2 (log := []) hd hk hx (by simp) (CellsAt.empty _ _) hi (fun m' hd' => nx m' F G Fr f bad [] ks es hd' hk hf)
    refine LdV.s1 e1 (UnI.mk ?_)
    refine BrD (fun _ => k4) (fun h0 => ?_)
    refine LdV.s1 e1 (UnI.mk ?_)
    rw [show decide (A ≥ ((xl : Nat) : Int)) = true from decide_eq_true (by omega)]
    exact k4
  · obtain ⟨a, rfl⟩ : ∃ a : Nat, A = (a : Int) := ⟨A.toNat, by omega⟩
    have ha : a < bs.length := by omega
    have hsm := h.ft.fl.small
    have hnd := h.ft.fl.nd
    have hmx := h.ft.fl.len
    obtain ⟨ks', lg', ok, hgo⟩ : ∃ ks' lg' ok, goP f most (pgs w a (npg w a (a + 1))) ks [] = (ks', lg', ok) := ⟨_, _, _, rfl⟩
    have hlg := goP_len (f := f) (most := most) (pgs w a (npg w a (a + 1))) ks []
    rw [hgo, pgs_len] at hlg
    have hnp : npg w a (a + 1) ≤ 4001 := npg_le (by omega)
    have hlg : lg'.length ≤ 4001 := by dsimp only at hlg; simp at hlg; omega
    have hw1 : IntKind.i64.wrap ((a : Int) + 1) = ((a + 1 : Nat) : Int) := by rw [wi (by omega) (by omega)]; omega
    have rest : ∀ (m1 : Mem) (F' G' : Nat → Prop) (v e : Int), Duo ms m1 F' G' Fr bf bp br bs w f lg' most ks' es → m1 b16 = some (.cells #[.int .i64 kd, .int .i64 (a : Int), .int .i64 B] T_eyotlaw5_Op (0, 0)) →
        e = (if ok = true then 0 else 11) → (ok = true → v = (bs[a].toNat : Nat)) → (ok = false → v = 0) →
        LdV m1 b16 (0 + 1) fun v0 => UnI v0 .i64 fun x179 => Br (decide (x179 < 0)) (eyotlaw5_FileAll.k4 K1 xa xl xc oa ol oc (w : Int) (some ⟨bp, 0, none⟩) (some ⟨bf, 0, none⟩) br 0 bad (i : Int) b16 0 none 0 0 v e true R m1) (
          LdV m1 b16 (0 + 1) fun v0 => UnI v0 .i64 fun x183 => eyotlaw5_FileAll.k4 K1 xa xl xc oa ol oc (w : Int) (some ⟨bp, 0, none⟩) (some ⟨bf, 0, none⟩) br 0 bad (i : Int) b16 0 none 0 0 v e (decide (x183 ≥ ((xl : Nat) : Int))) R m1) := by
      intro m1 F' G' v e hd e1 he hgd hbd
      refine LdV.s1 e1 (UnI.mk ?_)
      refine BrDf (by omega) ?_
      refine LdV.s1 e1 (UnI.mk ?_)
      rw [show decide ((a : Int) ≥ ((xl : Nat) : Int)) = false from decide_eq_false (by omega)]
      unfold eyotlaw5_FileAll.k4
      refine Br.f rfl ?_
      refine LdV.s1 e1 (UnI.mk ?_)
      refine LdV.s1 e1 (UnI.mk ?_)
      rw [hw1]
      refine duo_walk hd hk ⟨hsm, hnd, hmx⟩ (by omega) (by omega) hf hgo ?_
      intro Fr2 m2 es2 ra rc hle2 hch2 gR2 hd2 hkk2 hrow2
      have e2 := hch2.eq _ _ e1 n16.2.2
      refine BrNf he ?_
      have k2 : eyotlaw5_FileAll.k2 K1 xa xl xc oa ol oc (w : Int) (some ⟨bp, 0, none⟩) (some ⟨bf, 0, none⟩) br 0 bad (i : Int) ra lg'.length rc R m2 :=
        fa_k2 (log := lg') hd2 hkk2 hx (by omega) hrow2 hi (fun m' hd' => nx m' F' G' Fr2 f bad lg' ks' es2 hd' hkk2 hf)
      cases ok with
      | true =>
        have hv := hgd rfl
        refine BrEt rfl ?_
        refine LdV.s1 e2 (UnI.mk ?_)
        refine IxS.u8s (hc.le hle2) hx (by omega) (by omega) ?_
        intro y hy
        rw [Int.toNat_natCast, List.getElem?_eq_getElem ha] at hy
        cases hy
        refine UnI.mk ?_
        refine BrNf hv ?_
        refine BrNf rfl ?_
        exact k2
      | false =>
        have hv := hbd rfl
        refine BrEf (by simp) ?_
        refine BrNt (by simp) ?_
        refine BrNf hv ?_
        exact k2
    refine At_spec h.ft.fl ha (by simp) hgo ?_ ?_
    · intro hok F' G' m' hch gF gG inG hfl
      exact rest m' F' G' _ 0 (h.file hch gF gG hfl) (hch.eq _ _ h16 n16.1) (by rw [hok]; rfl) (fun _ => rfl) (fun h0 => by rw [hok] at h0; cases h0)
    · intro hok F' G' m' hch gF gG inG hfl
      exact rest m' F' G' 0 11 (h.file hch gF gG hfl) (hch.eq _ _ h16 n16.1) (by rw [hok]; rfl) (fun h0 => by rw [hok] at h0; cases h0) (fun _ => rfl)
end
/-- What an operation's cells hold. -/
def opV (o : Int × Int × Int) : List Value := [.int .i64 o.1, .int .i64 o.2.1, .int .i64 o.2.2]
theorem opV_len (o : Int × Int × Int) : (opV o).length = 3 := rfl
theorem st3 {m : Mem} {b : Nat} {t : TypeId} {x y z u v w : Value} (hu : notOne u = false) (hv : notOne v = false) (hw : notOne w = false) (h : m b = some (.cells #[x, y, z] t (0, 0))) {K : Mem → Prop} (k : K (m.set b (.cells #[u, v, w] t (0, 0)))) :
    St1 m b 0 u fun m2 => St1 m2 b 1 v fun m3 => St1 m3 b 2 w K := by
  refine St1.to #[u, y, z] h (by simp) hu rfl ?_
  refine St1.to #[u, v, z] (set_same _ _ _) (by simp) hv rfl ?_
  rw [set_set]
  refine St1.to #[u, v, w] (set_same _ _ _) (by simp) hw rfl ?_
  rw [set_set]
  exact k
theorem FileAll_m {m : Mem} {a : Option Addr} {l c : Nat} {bs : List UInt8} {n1 : Nat} {most : Int} {oa : Option Addr} {ol oc : Nat} {ops : List (Int × Int × Int)} (hc : CellsAt m a (u8s bs)) (hl : bs.length = l) (hlc : l ≤ c) (h1 : n1 < 256)
    (ho : CellsAt m oa (ops.flatMap opV)) (hol : ops.length = ol) :
    HC P eyotlaw5_FileAll.id #[.slice a l c, .int .u8 (n1 : Int), .int .i64 most, .slice oa ol oc] m (Fine m) := by
  refine eyotlaw5_FileAll.ok _ _ _ _ _ _ _ _ _ _ ?_
  refine begun_spec ?_
  intro m1 hle1
  dsimp only [Cont]
  refine UnB.mk ?_
  refine Br.f rfl ?_
  refine BrD (fun _ => ⟨rfl, hle1⟩) (fun h300 => ?_)
  refine BrD (fun _ => ⟨rfl, hle1⟩) (fun h30 => ?_)
  rw [wi (n := (n1 : Int)) (by omega) (by omega)]
  have e1 : IntKind.i64.wrap (1 + Int.tmod (n1 : Int) 20) = ((1 + n1 % 20 : Nat) : Int) := by
    rw [show (20 : Int) = ((20 : Nat) : Int) from rfl, tmod_nat, wi (by omega) (by omega)]; omega
  rw [e1]
  generalize hw : 1 + n1 % 20 = w
  refine New_spec (hc.le hle1) hl (fun h => by omega) ?_
  intro _ _ _ bp Fp m2 hle2 hfp p
  refine FT.new p (hle1.trans hle2) (fun b e => hle1.new (hfp b e)) ?_
  intro bf F G m3 hle3 hT _ _
  dsimp only [Cont]
  refine UnP.mk ?_
  refine BrNf rfl ?_
  refine Br.f rfl ?_
  intro br hbr
  have hle4 := Le.set hbr (.cells #[.int .i64 most, .slice none 0 0, .slice none 0 0] T_eyotref3_Cache (0, 0))
  have hD : Duo m (m3.set br (.cells #[.int .i64 most, .slice none 0 0, .slice none 0 0] T_eyotref3_Cache (0, 0))) F G (fun b => b = br) bf bp br bs w (fun _ => false) [] most [] [] :=
    ⟨hT.up hle4, ⟨⟨none, 0, none, 0, set_same _ _ _, Own.nil _ _ _, Own.nil _ _ _, rfl, (fun b e => by cases e), (fun b e => by cases e)⟩, (fun b e => by subst e; rw [set_same]; simp)⟩,
      (fun b e => by subst e; exact hT.le.new hbr), (fun b e => by subst e; exact ⟨fun x => hT.fl.lv _ (.inl x) hbr, fun x => hT.fl.lv _ (.inr x) hbr⟩)⟩
  generalize (m3.set br (.cells #[.int .i64 most, .slice none 0 0, .slice none 0 0] T_eyotref3_Cache (0, 0))) = m4 at hD
  refine ⟨fun N xa xl xc ya yl yc x9 x10 x12 rb ro bad i mm => xa = a ∧ xl = l ∧ xc = c ∧ ya = oa ∧ yl = ol ∧ yc = oc ∧ x9 = (w : Int) ∧ x10 = some ⟨bp, 0, none⟩ ∧ x12 = some ⟨bf, 0, none⟩ ∧ rb = br ∧ ro = 0 ∧
    ∃ (j : Nat) (F G Fr : Nat → Prop) (f : Int → Bool) (log ks : List Int) (es : List (Int × Int)), i = (j : Int) ∧ N = ol - j ∧ j ≤ ol ∧ Duo m mm F G Fr bf bp br bs w f log most ks es ∧ keysOf es = ks ∧ ∀ k, 0 ≤ k → f k = decide (k = bad), ol,
    ⟨rfl, rfl, rfl, rfl, rfl, rfl, rfl, rfl, rfl, rfl, rfl, 0, F, G, _, _, [], [], [], rfl, rfl, by omega, hD, rfl, fun k hk => (by rw [eq_comm, decide_eq_false_iff_not]; omega)⟩, ?_⟩
  rintro N xa xl xc ya yl yc x9 x10 x12 rb ro bad i mm ⟨rfl, rfl, rfl, rfl, rfl, rfl, rfl, rfl, rfl, rfl, rfl, j, F, G, Fr, f, log, ks, es, rfl, rfl, hj, hD, hk, hf⟩
  refine BrD (fun hlt => ?_) (fun hge => ⟨rfl, hD.ft.le⟩)
  refine IxS.rows opV_len (by decide) (ho.le hD.ft.le) hol (by omega) hlt ?_
  intro ob oo op hop hcell
  obtain ⟨kd, A, B⟩ := op
  refine LdV.mk (by have := hcell 0 _ rfl; exact this) ?_
  refine UnI.mk ?_
  refine LdV.mk (hcell 1 _ rfl) ?_
  refine UnI.mk ?_
  refine LdV.mk (hcell 2 _ rfl) ?_
  refine UnI.mk ?_
  intro b16 hb16
  refine st3 (u := .int .i64 kd) (v := .int .i64 A) (w := .int .i64 B) rfl rfl rfl (set_same _ _ _) ?_
  rw [set_set]
  have hleb := Le.set hb16 (.cells #[.int .i64 kd, .int .i64 A, .int .i64 B] T_eyotlaw5_Op (0, 0))
  have h16 := set_same mm b16 (.cells #[.int .i64 kd, .int .i64 A, .int .i64 B] T_eyotlaw5_Op (0, 0))
  have n16 : ¬ F b16 ∧ ¬ G b16 ∧ ¬ Fr b16 := ⟨fun x => hD.ft.fl.lv _ (.inl x) hb16, fun x => hD.ft.fl.lv _ (.inr x) hb16, fun x => hD.rc.lv _ x hb16⟩
  have hD1 := hD.up hleb
  generalize (mm.set b16 (.cells #[.int .i64 kd, .int .i64 A, .int .i64 B] T_eyotlaw5_Op (0, 0))) = m5 at hD1 h16
  obtain ⟨Fp, pp, hin, on⟩ := hD1.ft.fl.on
  refine Clear_spec pp ?_
  intro m6 hch6 hp6
  obtain ⟨F6, hf6, hc6, gF6⟩ := on Fp m6 _ _ hch6 (fun b e => .inl e) hp6
  have hD6 := hD1.file hc6 gF6 (fun b e => .inl e) hf6
  have h16' := hc6.eq _ _ h16 n16.1
  have n16' : ¬ F6 b16 ∧ ¬ G b16 ∧ ¬ Fr b16 := ⟨fun x => (gF6 _ x).elim n16.1 (fun y => absurd (h16.symm.trans y) (by simp)), n16.2.1, n16.2.2⟩
  have hj30 : j ≤ 30 := by omega
  refine LdV.s0 h16' (UnI.mk ?_)
  generalize Int.tmod (IntKind.i64.wrap (Int.tmod kd 10 + 10)) 10 = kk
  refine BrE (fun _ => ?_) (fun _ => ?_)
  · -- Evict
    refine Evict_spec hD6.ft.fl ?_
    intro F7 m7 hch7 gF7 hfl7
    have hD7 := hD6.file hch7 gF7 (fun b e => .inl e) hfl7
    obtain ⟨⟨ka, kc, va, vc, er, _, _, hFr, _⟩, _⟩ := id hD7.rc
    refine St1.to #[.int .i64 most, .slice none 0 0, .slice va es.length vc] er (by simp) rfl rfl ?_
    refine St1.to #[.int .i64 most, .slice none 0 0, .slice none 0 0] (set_same _ _ _) (by simp) rfl rfl ?_
    rw [set_set]
    have hcr := (Chg.set m7 rb (.cells #[.int .i64 most, .slice none 0 0, .slice none 0 0] T_eyotref3_Cache (0, 0))).mono (S' := Fr) (fun b e => by subst e; exact hFr)
    have hr8 : Rc (m7.set rb (.cells #[.int .i64 most, .slice none 0 0, .slice none 0 0] T_eyotref3_Cache (0, 0))) (fun b => b = rb) rb most [] :=
      ⟨⟨none, 0, none, 0, set_same _ _ _, Own.nil _ _ _, Own.nil _ _ _, rfl, (fun b e => by cases e), (fun b e => by cases e)⟩, (fun b e => by subst e; rw [set_same]; simp)⟩
    have hD8 := hD7.ref hcr (fun b e => by subst e; exact .inl hFr) hr8
    exact fa_k2 (log := []) hD8 rfl hl (by simp) (CellsAt.empty _ _) hj30 (fun m' hd' => ⟨yl - (j + 1), by omega, rfl, rfl, rfl, rfl, rfl, rfl, rfl, rfl, rfl, rfl, rfl, j + 1, _, _, _, f, [], [], [], rfl, rfl, by omega, hd', rfl, hf⟩)
  refine BrE (fun _ => ?_) (fun _ => ?_)
  · -- one page fails
    refine LdV.s1 h16' (UnI.mk ?_)
    intro b1 hb1
    have hle7 := Le.set hb1 (.cells #[.int .i64 A] T_int (0, 0))
    have hD7 := hD6.up hle7
    refine hD7.ft.fault (ls := [A]) (cells_at (set_same _ _ _) rfl) rfl (by omega) (fun b e => ?_) ?_
    · cases e
      exact ⟨fun x => hD6.ft.fl.lv _ (.inl x) hb1, by rw [set_same]; simp⟩
    intro F8 m8 hch8 gF8 hT8
    have hD8 := hD7.file hch8 gF8 (fun b e => .inl e) hT8.fl
    exact fa_k2 (log := []) hD8 hk hl (by simp) (CellsAt.empty _ _) hj30 (fun m' hd' => ⟨yl - (j + 1), by omega, rfl, rfl, rfl, rfl, rfl, rfl, rfl, rfl, rfl, rfl, rfl, j + 1, _, _, _, _, [], ks, es, rfl, rfl, by omega, hd', hk, (fun k _ => by simp)⟩)
  refine BrE (fun _ => ?_) (fun _ => ?_)
  · -- none fails
    refine hD6.ft.fault (ls := []) (CellsAt.empty _ _) rfl (by omega) (fun b e => by cases e) ?_
    intro F8 m8 hch8 gF8 hT8
    have hD8 := hD6.file hch8 gF8 (fun b e => .inl e) hT8.fl
    exact fa_k2 (log := []) hD8 hk hl (by simp) (CellsAt.empty _ _) hj30 (fun m' hd' => ⟨yl - (j + 1), by omega, rfl, rfl, rfl, rfl, rfl, rfl, rfl, rfl, rfl, rfl, rfl, j + 1, _, _, _, _, [], ks, es, rfl, rfl, by omega, hd', hk, (fun k hk => by rw [eq_comm]; simp; omega)⟩)
  refine BrE (fun _ => ?_) (fun _ => ?_)
  · exact fa_at hD6 hk hf (hc) hl (by omega) hj30 h16' n16' (by intro m' F' G' Fr' f' bad' log' ks' es' hd' hk' hf'; exact ⟨yl - (j + 1), by omega, rfl, rfl, rfl, rfl, rfl, rfl, rfl, rfl, rfl, rfl, rfl, j + 1, F', G', Fr', f', log', ks', es', rfl, rfl, by omega, hd', hk', hf'⟩)
  refine BrE (fun _ => ?_) (fun _ => ?_)
  · exact fa_at hD6 hk hf (hc) hl (by omega) hj30 h16' n16' (by intro m' F' G' Fr' f' bad' log' ks' es' hd' hk' hf'; exact ⟨yl - (j + 1), by omega, rfl, rfl, rfl, rfl, rfl, rfl, rfl, rfl, rfl, rfl, rfl, j + 1, F', G', Fr', f', log', ks', es', rfl, rfl, by omega, hd', hk', hf'⟩)
  cases hb6 : (kk == 6) with
  | true => exact fa_at hD6 hk hf (hc) hl (by omega) hj30 h16' n16' (by intro m' F' G' Fr' f' bad' log' ks' es' hd' hk' hf'; exact ⟨yl - (j + 1), by omega, rfl, rfl, rfl, rfl, rfl, rfl, rfl, rfl, rfl, rfl, rfl, j + 1, F', G', Fr', f', log', ks', es', rfl, rfl, by omega, hd', hk', hf'⟩)
  | false => exact fa_bytes hD6 hk hf (hc) hl hlc (by omega) hj30 h16' n16' (by intro m' F' G' Fr' f' bad' log' ks' es' hd' hk' hf'; exact ⟨yl - (j + 1), by omega, rfl, rfl, rfl, rfl, rfl, rfl, rfl, rfl, rfl, rfl, rfl, j + 1, F', G', Fr', f', log', ks', es', rfl, rfl, by omega, hd', hk', hf'⟩)
theorem FileAll_arg {W : World} {v0 v1 v2 v3 : Value} (a0 : Arg P W T_sl_uint8 v0) (a1 : Arg P W T_uint8 v1) (a2 : Arg P W T_int v2) (a3 : Arg P W T_sl_eyotlaw5_Op v3) :
    HC P eyotlaw5_FileAll.id #[v0, v1, v2, v3] (heapM W) (Fine (heapM W)) := by
  obtain ⟨a, l, c, bs, rfl, hlc, hl, _, hx⟩ := a0.u8s (e := T_uint8) (by kernel_rfl) (by kernel_rfl)
  obtain ⟨n1, rfl, h1⟩ := num8 a1
  obtain ⟨most, rfl, _⟩ := a2.int (k := .i64) (by kernel_rfl)
  obtain ⟨oa, ol, oc, rfl, hol, _, es, hes, hrd, hcs⟩ := a3.sl (e := T_eyotlaw5_Op) (by kernel_rfl)
  have key : ∀ es : List (List Value), (∀ x ∈ es, x.length = P.cellsOf T_eyotlaw5_Op ∧ Rd P W T_eyotlaw5_Op x) → ∃ ops : List (Int × Int × Int), ops.length = es.length ∧ es.flatten = ops.flatMap opV := by
    intro es
    induction es with
    | nil => intro _; exact ⟨[], rfl, rfl⟩
    | cons x es ih =>
      intro h
      obtain ⟨ops, h2, h3⟩ := ih (fun y hy => h y (by simp [hy]))
      obtain ⟨hxl, hr⟩ := h x (by simp)
      rw [show P.cellsOf T_eyotlaw5_Op = 3 by kernel_rfl] at hxl
      have k0 := hr.field (t' := T_int) (off := 0) (by kernel_rfl)
      have k1 := hr.field (t' := T_int) (off := 1) (by kernel_rfl)
      have k2 := hr.field (t' := T_int) (off := 2) (by kernel_rfl)
      rw [show P.cellsOf T_int = 1 by kernel_rfl] at k0 k1 k2
      match x, hxl with
      | [x0, x1, x2], _ =>
        obtain ⟨i0, e0, _⟩ := Rd.int (k := .i64) (by kernel_rfl) k0
        obtain ⟨i1, e1, _⟩ := Rd.int (k := .i64) (by kernel_rfl) k1
        obtain ⟨i2, e2, _⟩ := Rd.int (k := .i64) (by kernel_rfl) k2
        cases e0; cases e1; cases e2
        exact ⟨(i0, i1, i2) :: ops, by simp [h2], by rw [List.flatten_cons, h3]; rfl⟩
  obtain ⟨ops, h2, h3⟩ := key es hrd
  rw [h3] at hcs
  have hsp : ops.flatMap opV = (ops.take ol).flatMap opV ++ (ops.drop ol).flatMap opV := by rw [← List.flatMap_append, List.take_append_drop]
  rw [hsp] at hcs
  exact FileAll_m hx (by rw [List.length_take]; omega) hlc h1 hcs.left (by rw [List.length_take]; omega)
end Go.E
