/- Layer 7: DocAll. -/
import Derived.Test.YtjdkdeekniephaaDL4
set_option linter.unusedVariables false
set_option linter.unusedSimpArgs false
set_option maxRecDepth 20000
namespace Go.E
open Go.H Go.E.Pz
attribute [local irreducible] BiN MkS ConvN LookN MapUpN CallV HC

section
variable {ms mm m' : Mem} {F G F' G' T : Nat → Prop} {bd bf bp bt : Nat} {base : List UInt8} {w : Nat} {log log2 : List Int} {most : Int} {ks ks2 : List Int} {ps : List Pc} {ad : List UInt8} {B : Nat} {R : Ending → Mem → Prop}
/-- Bytes, whatever is asked. -/
theorem DT.bytesA (h : DT ms mm F G T bd bf bp bt base w (fun _ => false) log most ks ps ad B) {A Z : Int} (hlog : log.length ≤ 300000)
    (k : ∀ F' G' m' sa sl sc (e : Int) log' ks', Chg F mm m' → (∀ b, F' b → F b ∨ mm b = none) → DT ms m' F' G' T bd bf bp bt base w (fun _ => false) log' most ks' ps ad B → log'.length ≤ log.length + (byt ps).length →
      ((A < 0 ∨ Z < A ∨ ((byt ps).length : Int) < Z) ∧ sl = 0 ∧ e = 1) ∨ (0 ≤ A ∧ A ≤ Z ∧ Z ≤ ((byt ps).length : Int) ∧ e = 0 ∧ ∃ row, row = ((spl base ad (byt ps)).take Z.toNat).drop A.toNat ∧ row.length = sl ∧ Out m' F' sa (u8s row)) →
      R (.returned (.tuple #[.slice sa sl sc, .int .i64 e])) m') :
    HC P doc_Doc_Bytes.id #[.pointer (some ⟨bd, 0, none⟩), .int .i64 A, .int .i64 Z] mm R := by
  by_cases hb : A < 0 ∨ Z < A ∨ ((byt ps).length : Int) < Z
  · refine DBytes_out h.dx hb ?_
    intro m' hle
    exact k F G m' none 0 0 1 log ks (hle.chg _) (fun _ e => .inl e) (h.up hle) (by omega) (.inl ⟨hb, rfl, rfl⟩)
  · obtain ⟨a, rfl⟩ : ∃ a : Nat, A = (a : Int) := ⟨A.toNat, by omega⟩
    obtain ⟨z, rfl⟩ : ∃ z : Nat, Z = (z : Int) := ⟨Z.toNat, by omega⟩
    refine h.bytes (by omega) (by omega) hlog ?_
    intro F' G' m' sa sc log' ks' hch gF gG hD hl hown hfr
    refine k F' G' m' sa _ sc 0 log' ks' hch gF hD (by omega) (.inr ⟨by omega, by omega, by omega, rfl, _, rfl, ?_, hown.cells, fun b e => ⟨(hfr b e).2.1, hown.live b e⟩⟩)
    rw [List.length_drop, List.length_take, spl_len, Int.toNat_natCast, Int.toNat_natCast]; omega
theorem DT.atA (h : DT ms mm F G T bd bf bp bt base w (fun _ => false) log most ks ps ad B) {A : Int} (hlog : log.length ≤ 300000)
    (k : ∀ F' G' m' (x e : Int) log' ks', Chg F mm m' → (∀ b, F' b → F b ∨ mm b = none) → DT ms m' F' G' T bd bf bp bt base w (fun _ => false) log' most ks' ps ad B → log'.length ≤ log.length + 1 →
      ((A < 0 ∨ ((byt ps).length : Int) ≤ A) ∧ x = 0 ∧ e = 1) ∨ (0 ≤ A ∧ A < ((byt ps).length : Int) ∧ e = 0 ∧ ∃ u : UInt8, (spl base ad (byt ps))[A.toNat]? = some u ∧ x = u.toNat) →
      R (.returned (.tuple #[.int .u8 x, .int .i64 e])) m') :
    HC P doc_Doc_At.id #[.pointer (some ⟨bd, 0, none⟩), .int .i64 A] mm R := by
  by_cases hb : A < 0 ∨ ((byt ps).length : Int) ≤ A
  · refine DAt_out h.dx hb ?_
    intro m' hle
    exact k F G m' 0 1 log ks (hle.chg _) (fun _ e => .inl e) (h.up hle) (by omega) (.inl ⟨hb, rfl, rfl⟩)
  · obtain ⟨a, rfl⟩ : ∃ a : Nat, A = (a : Int) := ⟨A.toNat, by omega⟩
    refine h.at (by omega) hlog ?_
    intro F' G' m' x log' ks' hch gF gG hD hl hx
    exact k F' G' m' _ 0 log' ks' hch gF hD hl (.inr ⟨by omega, by omega, rfl, x, by rw [Int.toNat_natCast]; exact hx, rfl⟩)

theorem DocAll_k7 {m : Mem} (hle : Le m mm) : eyotlaw7_DocAll.k7 (some ⟨bt, 0, none⟩) (Fine m) mm := by
  unfold eyotlaw7_DocAll.k7
  refine DAt_nil ?_
  refine DNew_spec ?_
  intro b hb
  have hle1 := Le.set hb (.cells #[.pointer none, .pointer (some ⟨bt, 0, none⟩)] T_doc_Doc (0, 0))
  dsimp only [Cont]
  refine UnP.mk ?_
  refine DBytes_half (set_same _ _ _) ?_
  intro m2 hle2
  refine BrEt rfl ?_
  refine BrEt rfl ?_
  refine DLen_nil ?_
  exact ⟨rfl, hle.trans (hle1.trans hle2)⟩

/-- One window. -/
theorem DocAll_round (h : DT ms mm F G T bd bf bp bt base w (fun _ => false) log most ks ps ad B) (hlog : log.length ≤ 200000) (hbl : (byt ps).length ≤ 2000) {wa : Option Addr} {wc : Nat} {ws : List Int} (hw : CellsAt ms wa (ints ws)) {i : Nat} (hi : i + 1 < ws.length) (hwl : ws.length ≤ 1000)
    {now : List UInt8} (hnow : now = spl base ad (byt ps)) {na : Option Addr} {nc : Nat} (hnc : now.length ≤ nc) (hna : Out mm F na (u8s now)) {xt : Option Addr} {K3 : Option Addr → Nat → Nat → Option Addr → Option Addr → Option Addr → Nat → Nat → Int → Mem → Prop}
    (k : ∀ F' G' m' log' ks', DT ms m' F' G' T bd bf bp bt base w (fun _ => false) log' most ks' ps ad B → log'.length ≤ log.length + (byt ps).length + 1 → Out m' F' na (u8s now) → K3 wa ws.length wc xt (some ⟨bd, 0, none⟩) na now.length nc ((i + 2 : Nat) : Int) m') :
    eyotlaw7_DocAll.l3B K3 wa ws.length wc xt (some ⟨bd, 0, none⟩) na now.length nc (i : Int) R mm := by
  have hnl : now.length = (byt ps).length := by rw [hnow, spl_len]
  have gB := h.dx.gd.big
  have gl := h.dx.gd.len
  have e1 : IntKind.i64.wrap ((i : Int) + 1) = ((i + 1 : Nat) : Int) := by rw [wi (by omega) (by omega)]; omega
  have e2 : IntKind.i64.wrap ((i : Int) + 2) = ((i + 2 : Nat) : Int) := by rw [wi (by omega) (by omega)]; omega
  unfold eyotlaw7_DocAll.l3B
  rw [e1]
  refine BrDt (by omega) ?_
  obtain ⟨A, hA⟩ : ∃ A, ws[i]? = some A := ⟨_, List.getElem?_eq_getElem (by omega)⟩
  obtain ⟨Z, hZ⟩ : ∃ Z, ws[i + 1]? = some Z := ⟨_, List.getElem?_eq_getElem (by omega)⟩
  have rA : ∀ {m1 : Mem} {K : Value → Prop}, Le ms m1 → K (.int .i64 A) → IxS wa ws.length (i : Int) 1 (fun b o => LdV m1 b o K) := by
    intro m1 K hle hk
    refine IxS.ints (hw.le hle) rfl (by omega) (by omega) ?_
    intro x hx
    rw [Int.toNat_natCast, hA] at hx
    cases hx; exact hk
  have rZ : ∀ {m1 : Mem} {K : Value → Prop}, Le ms m1 → K (.int .i64 Z) → IxS wa ws.length ((i + 1 : Nat) : Int) 1 (fun b o => LdV m1 b o K) := by
    intro m1 K hle hk
    refine IxS.ints (hw.le hle) rfl (by omega) (by omega) ?_
    intro x hx
    rw [Int.toNat_natCast, hZ] at hx
    cases hx; exact hk
  refine ⟨mm, Le.refl _, ?_⟩
  refine rA h.le (UnI.mk ?_)
  refine rZ h.le (UnI.mk ?_)
  refine h.bytesA (by omega) ?_
  intro F2 G2 m2 sa sl sc e lg2 ks2 ch2 gF2 hD2 hl2 hres
  have hna2 := hna.next ch2 gF2
  refine rA hD2.le (UnI.mk ?_)
  refine hD2.atA (by omega) ?_
  intro F3 G3 m3 x e' lg3 ks3 ch3 gF3 hD3 hl3 hres'
  have hna3 := hna2.next ch3 gF3
  have k5 : eyotlaw7_DocAll.k5 K3 wa ws.length wc xt (some ⟨bd, 0, none⟩) na now.length nc (i : Int) x e' R m3 := by
    have k6 : ∀ bad : Bool, (bad = true ↔ (A < 0 ∨ ((byt ps).length : Int) ≤ A)) → eyotlaw7_DocAll.k6 K3 wa ws.length wc xt (some ⟨bd, 0, none⟩) na now.length nc (i : Int) x e' bad R m3 := by
      intro bad hbad
      unfold eyotlaw7_DocAll.k6
      rcases hres' with ⟨h1, rfl, rfl⟩ | ⟨h1, h2, rfl, u, hu, rfl⟩
      · rw [hbad.mpr h1]
        refine Br.t rfl ?_
        refine BrNf rfl ?_
        refine BrNf rfl ?_
        rw [e2]
        exact k F3 G3 m3 lg3 ks3 hD3 (by omega) hna3
      · have : bad = false := by
          cases bad with
          | false => rfl
          | true => have := hbad.mp rfl; omega
        rw [this]
        refine Br.f rfl ?_
        refine BrNf rfl ?_
        refine rA hD3.le (UnI.mk ?_)
        refine IxS.u8s hna3.at_ rfl (by omega) (by omega) ?_
        intro y hy
        rw [hnow, hu] at hy
        cases hy
        refine UnI.mk ?_
        refine BrNf rfl ?_
        rw [e2]
        exact k F3 G3 m3 lg3 ks3 hD3 (by omega) hna3
    unfold eyotlaw7_DocAll.k5
    refine rA hD3.le (UnI.mk ?_)
    refine BrD (fun hn => k6 true ⟨fun _ => .inl hn, fun _ => rfl⟩) (fun hn => ?_)
    refine rA hD3.le (UnI.mk ?_)
    refine k6 _ ?_
    rw [decide_eq_true_eq, hnl]
    constructor
    · intro h; exact .inr h
    · rintro (h | h)
      · exact absurd h hn
      · exact h
  have k4 : ∀ bad : Bool, (bad = true ↔ (A < 0 ∨ Z < A ∨ ((byt ps).length : Int) < Z)) → eyotlaw7_DocAll.k4 K3 wa ws.length wc xt (some ⟨bd, 0, none⟩) na now.length nc (i : Int) sa sl sc e x e' bad R m3 := by
    intro bad hbad
    unfold eyotlaw7_DocAll.k4
    rcases hres with ⟨h1, rfl, rfl⟩ | ⟨h1, h2, h3, rfl, row, hrow, rfl, ho⟩
    · rw [hbad.mpr h1]
      refine Br.t rfl ?_
      refine BrNf rfl ?_
      refine BrDf (by omega) ?_
      exact k5
    · have : bad = false := by
        cases bad with
        | false => rfl
        | true => have := hbad.mp rfl; omega
      rw [this]
      refine Br.f rfl ?_
      refine ⟨m3, Le.refl _, ?_⟩
      refine BrNf rfl ?_
      refine ⟨row, rfl, (ho.next ch3 gF3).at_, ?_⟩
      refine rA hD3.le (UnI.mk ?_)
      rw [e1]
      refine rZ hD3.le (UnI.mk ?_)
      refine ⟨by omega, by omega, by omega, ?_⟩
      have hsub := CellsAt.sub (sz := 1) (lo := A.toNat) (hi := Z.toNat) (c := nc) hna3.at_ (by rw [u8s_len]; omega) (by omega)
      have hnew : ((u8s now).take (Z.toNat * 1)).drop (A.toNat * 1) = u8s row := by
        rw [hrow, Nat.mul_one, Nat.mul_one, hnow]; simp [u8s]
      rw [hnew] at hsub
      refine ⟨row, ?_, hsub, ?_⟩
      · rw [hrow, List.length_drop, List.length_take, ← hnow]; omega
      refine Br.f (by simp) ?_
      exact k5
  refine ⟨m3, Le.refl _, ?_⟩
  refine rA hD3.le (UnI.mk ?_)
  refine BrD (fun hn => k4 true ⟨fun _ => .inl hn, fun _ => rfl⟩) (fun hn => ?_)
  refine rA hD3.le (UnI.mk ?_)
  refine rZ hD3.le (UnI.mk ?_)
  refine BrD (fun hn2 => k4 true ⟨fun _ => .inr (.inl hn2), fun _ => rfl⟩) (fun hn2 => ?_)
  refine rZ hD3.le (UnI.mk ?_)
  refine k4 _ ?_
  rw [decide_eq_true_eq, hnl]
  constructor
  · intro h; exact .inr (.inr h)
  · rintro (h | h | h)
    · exact absurd h hn
    · exact absurd h hn2
    · exact h
end

theorem DocAll_m {m : Mem} {a : Option Addr} {l c : Nat} {bs : List UInt8} {n1 n2 : Nat} {oa : Option Addr} {oc : Nat} {os : List OpC} {wa : Option Addr} {wc : Nat} {ws : List Int} (hc : CellsAt m a (u8s bs)) (hl : bs.length = l) (h1 : n1 < 256) (h2 : n2 < 256) (hops : OpsAt m oa os) (hw : CellsAt m wa (ints ws)) :
    HC P eyotlaw7_DocAll.id #[.slice a l c, .int .u8 (n1 : Int), .int .u8 (n2 : Int), .slice oa os.length oc, .slice wa ws.length wc] m (Fine m) := by
  refine eyotlaw7_DocAll.ok _ _ _ _ _ _ _ _ _ _ _ _ _ ?_
  refine begun_spec ?_
  intro m1 hle1
  dsimp only [Cont]
  refine UnB.mk ?_
  refine Br.f rfl ?_
  refine BrD (fun _ => ⟨rfl, hle1⟩) (fun hb1 => ?_)
  refine BrD (fun _ => ⟨rfl, hle1⟩) (fun hb2 => ?_)
  refine BrD (fun _ => ⟨rfl, hle1⟩) (fun hb3 => ?_)
  have w1 : ∀ n : Nat, n < 256 → IntKind.i64.wrap ((n : Nat) : Int) = (n : Int) := fun n h => wi (by omega) (by omega)
  rw [w1 n1 h1]
  have e1 : IntKind.i64.wrap (1 + Int.tmod (n1 : Int) 20) = ((1 + n1 % 20 : Nat) : Int) := by
    rw [show (20 : Int) = ((20 : Nat) : Int) from rfl, tmod_nat, wi (by omega) (by omega)]; omega
  rw [e1]
  generalize hw' : 1 + n1 % 20 = w
  subst hl
  refine New_spec (hc.le hle1) rfl (fun h => by omega) ?_
  intro _ _ _ bp Fp m2 hle2 hfp p
  refine TS.new (ms := m2) (n := ((bs.length : Nat) : Int)) (B := 200) (by omega) (by decide) ?_
  intro bt T m3 hS
  dsimp only [Cont]
  refine UnP.mk ?_
  have hm2 := hle1.trans hle2
  refine NewText_spec (by omega) ?_
  intro br Fr m4 hle4 hFr hr
  dsimp only [Cont]
  refine UnP.mk ?_
  have hbyt : byt (newL ((bs.length : Nat) : Int)) = newR ((bs.length : Nat) : Int) := by
    unfold newL newR
    split
    · rw [byt_cons, show byt [] = [] from rfl, List.append_nil]
      unfold Pc.bytes
      simp
    · rw [show ((bs.length : Nat) : Int).toNat = 0 by omega]; rfl
  rw [← hbyt] at hr
  have hB0 : Bo m2 m4 T Fr bt br (newL ((bs.length : Nat) : Int)) [] 200 := ⟨hS.up hle4, hr, fun b e => hS.le.new (hFr b e), fun b e1 e2 => hS.tx.lv b e1 (hFr b e2)⟩
  have hi0 : Ins bs.length [] (byt (newL ((bs.length : Nat) : Int))) := ins_new _ []
  have hops2 : OpsAt m2 oa os := hops.le hm2
  refine ⟨fun N x0a x0l x0c x2 x3a x3l x3c x4a x4l x4c x11 x12 x13 x14 x15 mm => x0a = a ∧ x0l = bs.length ∧ x0c = c ∧ x2 = (n2 : Int) ∧ x3a = oa ∧ x3l = os.length ∧ x3c = oc ∧ x4a = wa ∧ x4l = ws.length ∧ x4c = wc ∧ x11 = some ⟨bp, 0, none⟩ ∧ x12 = 0 ∧ x13 = some ⟨bt, 0, none⟩ ∧ x14 = some ⟨br, 0, none⟩ ∧
    ∃ (j : Nat) (T Fr : Nat → Prop) (ps : List Pc) (ad : List UInt8), x15 = (j : Int) ∧ j ≤ os.length ∧ N = os.length - j ∧ Bo m2 mm T Fr bt br ps ad (200 + 100 * j) ∧ Ins bs.length ad (byt ps), os.length,
    ⟨rfl, rfl, rfl, rfl, rfl, rfl, rfl, rfl, rfl, rfl, rfl, rfl, rfl, rfl, 0, T, Fr, _, _, rfl, by omega, by omega, hB0, hi0⟩, ?_⟩
  clear hB0 hi0 hr hFr hle4 hS hbyt
  rintro N x0a x0l x0c x2 x3a x3l x3c x4a x4l x4c x11 x12 x13 x14 x15 mm ⟨rfl, rfl, rfl, rfl, rfl, rfl, rfl, rfl, rfl, rfl, rfl, rfl, rfl, rfl, j, T, Fr, ps, ad, rfl, hj, rfl, hbo, hi⟩
  unfold eyotlaw7_DocAll.l1B
  refine BrD (fun hlt => ?_) (fun hge => ?_)
  · refine edits_body hbo hi hops2 (by omega) (by omega) ⟨rfl, hm2.trans hbo.t.le⟩ ?_
    intro T' Fr' m' ps' ad' hbo' hi'
    refine ⟨os.length - (j + 1), by omega, rfl, rfl, rfl, rfl, rfl, rfl, rfl, rfl, rfl, rfl, rfl, rfl, rfl, rfl, j + 1, T', Fr', ps', ad', ?_, by omega, rfl, hbo', hi'⟩
    rw [wi (by omega) (by omega)]; omega
  unfold eyotlaw7_DocAll.k2
  have e2 : IntKind.i64.wrap (Int.tmod (n2 : Int) 4) = ((n2 % 4 : Nat) : Int) := by
    rw [show (4 : Int) = ((4 : Nat) : Int) from rfl, tmod_nat, wi (by omega) (by omega)]
  rw [e2]
  have p5 := p.le hbo.t.le
  have hSm := TS.base' hbo.t hm2
  refine DT.new (B0 := 0) (w := w) p5 hSm (fun b e => hle1.new (hfp b e)) (fun b e x => p.lv b x (hbo.t.fr b e)) hi ?_
  intro bd bf F G m6 hle6 hFn hD
  dsimp only [Cont]
  refine UnP.mk ?_
  have gl := hbo.t.gd.len
  refine Spell_spec (hbo.r.le hle6) (hc.le hD.le) hi (by omega) ?_
  intro na nc m7 hle7 hna hfna
  dsimp only [Cont]
  refine UnS.mk ?_
  refine BrNf rfl ?_
  have hD7 := hD.up hle7
  refine DLen_spec hD7.dx ?_
  intro m8 hle8
  dsimp only [Cont]
  refine UnI.mk ?_
  refine BrNf rfl ?_
  have hD8 := hD7.up hle8
  obtain ⟨now, hnow⟩ : ∃ now, now = spl bs ad (byt ps) := ⟨_, rfl⟩
  have hnl : now.length = (byt ps).length := by rw [hnow, spl_len]
  rw [← hnow] at hna
  have hout : Out m8 F na (u8s now) := ⟨hna.cells.le hle8, fun b e => ⟨fun x => hD.dx.fl.lv b (.inl x) (hfna b e), hle8.live (hna.live b e)⟩⟩
  have hcap := hna.cap
  rw [← hnl]
  refine ⟨fun N y4a x4l y4c x13 x18 x19a x19l x19c x20 mm => y4a = x4a ∧ x4l = ws.length ∧ y4c = x4c ∧ x13 = some ⟨bt, 0, none⟩ ∧ x18 = some ⟨bd, 0, none⟩ ∧ x19a = na ∧ x19l = now.length ∧ x19c = nc ∧
    ∃ (i : Nat) (F G : Nat → Prop) (lg kk : List Int), x20 = (i : Int) ∧ i ≤ ws.length + 1 ∧ N = ws.length + 1 - i ∧ DT m mm F G T bd bf bp bt bs w (fun _ => false) lg ((n2 % 4 : Nat) : Int) kk ps ad (200 + 100 * j) ∧ lg.length ≤ 2000 * i ∧ Out mm F na (u8s now), ws.length + 1,
    ⟨rfl, rfl, rfl, rfl, rfl, rfl, rfl, rfl, 0, F, G, [], [], rfl, by omega, by omega, hD8, by simp, hout⟩, ?_⟩
  rintro N x4a x4l x4c x13 x18 x19a x19l x19c x20 mm' ⟨rfl, rfl, rfl, rfl, rfl, rfl, rfl, rfl, i, F9, G9, lg, kk, rfl, hii, rfl, hD9, hlg, hout9⟩
  by_cases hlt : i + 1 < ws.length
  · refine DocAll_round hD9 (by omega) (by omega) hw hlt (by omega) hnow (by omega) hout9 ?_
    intro F' G' m' log' ks' hD' hl' ho'
    exact ⟨ws.length + 1 - (i + 2), by omega, rfl, rfl, rfl, rfl, rfl, rfl, rfl, rfl, i + 2, F', G', log', ks', rfl, by omega, rfl, hD', by omega, ho'⟩
  · unfold eyotlaw7_DocAll.l3B
    rw [wi (n := (i : Int) + 1) (by omega) (by omega)]
    refine BrDf (by omega) ?_
    exact DocAll_k7 hD9.le
theorem DocAll_arg {W : World} {v0 v1 v2 v3 v4 : Value} (a0 : Arg P W T_sl_uint8 v0) (a1 : Arg P W T_uint8 v1) (a2 : Arg P W T_uint8 v2) (a3 : Arg P W T_sl_eyotlaw6_Op v3) (a4 : Arg P W T_sl_int v4) :
    HC P eyotlaw7_DocAll.id #[v0, v1, v2, v3, v4] (heapM W) (Fine (heapM W)) := by
  obtain ⟨a, l, c, bs, rfl, hlc, hl, _, hx⟩ := a0.u8s (e := T_uint8) (by kernel_rfl) (by kernel_rfl)
  obtain ⟨n1, rfl, h1⟩ := num8 a1
  obtain ⟨n2, rfl, h2⟩ := num8 a2
  obtain ⟨oa, oc, os, rfl, hops⟩ := arg_ops a3
  obtain ⟨wa, wl, wc, ws, rfl, _, hwl, hwc, _⟩ := a4.nums (e := T_int) (k := .i64) (by kernel_rfl) (by kernel_rfl)
  subst hwl
  exact DocAll_m hx (by rw [List.length_take]; omega) h1 h2 hops hwc
end Go.E
