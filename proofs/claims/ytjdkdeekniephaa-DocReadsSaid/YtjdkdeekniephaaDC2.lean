/- A text over a file: Bytes and At. -/
import Derived.Test.YtjdkdeekniephaaDC1
set_option linter.unusedVariables false
set_option linter.unusedSimpArgs false
set_option maxRecDepth 20000
namespace Go.E
open Go.H Go.E.Pz
attribute [local irreducible] BiN MkS ConvN LookN MapUpN CallV HC

theorem spl_append (base ad : List UInt8) (l r : List (Bool × Int)) : spl base ad (l ++ r) = spl base ad l ++ spl base ad r := by simp [spl]
section
variable {m m' : Mem} {F G F' G' : Nat → Prop} {bd bf bp bt b6 b7 : Nat} {base : List UInt8} {w : Nat} {f f2 : Int → Bool} {log log2 : List Int} {most : Int} {ks ks2 : List Int} {ps : List Pc} {ad : List UInt8} {B : Nat} {R : Ending → Mem → Prop}
/-- The pieces, one behind the other. -/
theorem DB_loop (hF : Fl m F G bf bp base (w : Int) f log most ks) (gd : Gd B ps ad) (hi : Ins base.length ad (byt ps)) (hcell : m bd = some (.cells #[.pointer (some ⟨bf, 0, none⟩), .pointer (some ⟨bt, 0, none⟩)] T_doc_Doc (0, 0))) (hnb : ¬ F bd)
    {pa aa : Option Addr} {pc ac : Nat} (hp : CellsAt m pa (pcs ps)) (hpF : ∀ b, blk pa = some b → ¬ F b) (ha : CellsAt m aa (u8s ad)) (haF : ∀ b, blk aa = some b → ¬ F b) (hac : ad.length ≤ ac)
    {a b : Nat} (hab : a ≤ b) (hb : b ≤ (byt ps).length) (hlog : log.length ≤ 300000) {ks' log' : List Int} {ok : Bool} (hgo : goP f most (fpg w (cutL (a : Int) (b : Int) 0 ps)) ks log = (ks', log', ok))
    {mm : Mem} (hB : By m mm F G F G bf bp b6 b7 base (w : Int) f log most ks none 0 [])
    (good : ok = true → ∀ F' G' m' sa sc, Chg F m m' → (∀ b, F' b → F b ∨ m b = none) → (∀ b, G' b → G b ∨ m b = none) → (∀ b, G b → G' b) → Fl m' F' G' bf bp base (w : Int) f log' most ks' → Own m' T_uint8 1 sa (b - a) sc (u8s (((spl base ad (byt ps)).take b).drop a)) →
      (∀ x, blk sa = some x → m x = none ∧ ¬ F' x ∧ ¬ G' x) → R (.returned (.tuple #[.slice sa (b - a) sc, .int .i64 0])) m')
    (bad : ok = false → ∀ F' G' m', Chg F m m' → (∀ b, F' b → F b ∨ m b = none) → (∀ b, G' b → G b ∨ m b = none) → (∀ b, G b → G' b) → Fl m' F' G' bf bp base (w : Int) f log' most ks' → R (.returned (.tuple #[.slice none 0 0, .int .i64 11])) m') :
    doc_Doc_Bytes.l2 (some ⟨bd, 0, none⟩) (a : Int) (b : Int) b6 0 b7 0 aa ad.length ac 0 pa ps.length pc ((ps.length : Nat) : Int) 0 (DefR P doc_Doc_Bytes_1.id #[.pointer (some ⟨b6, 0, none⟩), .pointer (some ⟨b7, 0, none⟩)] (doc_Doc_Bytes.out b6 0 b7 0 R)) mm := by
  have hw1 : 1 ≤ w := by have := hF.s1; omega
  have hl1 := hF.l1
  have hok : ∀ p ∈ ps, p.Ok := fun p hp => (gd.ok p hp).1
  have gl := gd.len
  have ga := gd.ad
  have gB := gd.big
  have hge := byt_ge hok
  obtain ⟨tot, htot⟩ : ∃ tot, tot = ((spl base ad (byt ps)).take b).drop a := ⟨_, rfl⟩
  have htl : tot.length = b - a := by rw [htot, List.length_drop, List.length_take, spl_len]; omega
  rw [← htot] at good
  have h0 : spl base ad (byt (cutL (a : Int) (b : Int) 0 ps)) = tot := by
    rw [cut_bytes hok, htot]
    unfold spl
    rw [List.map_drop, List.map_take]
    simp
  refine ⟨fun N x0 x1 x2 x6b x6o x7b x7o x8a x8l x8c x9 qa ql qc x42 x43 mm => x0 = some ⟨bd, 0, none⟩ ∧ x1 = (a : Int) ∧ x2 = (b : Int) ∧ x6b = b6 ∧ x6o = 0 ∧ x7b = b7 ∧ x7o = 0 ∧ x8a = aa ∧ x8l = ad.length ∧ x8c = ac ∧ qa = pa ∧ ql = ps.length ∧ qc = pc ∧ x42 = ((ps.length : Nat) : Int) ∧
    ∃ (j : Nat) (F' G' : Nat → Prop) (lg kk : List Int) (sa : Option Addr) (sc : Nat) (got : List UInt8), x43 = (j : Int) ∧ j ≤ ps.length ∧ N = ps.length - j ∧ x9 = ((byt (ps.take j)).length : Nat) ∧
      By m mm F G F' G' bf bp b6 b7 base (w : Int) f lg most kk sa sc got ∧ got ++ spl base ad (byt (cutL (a : Int) (b : Int) ((byt (ps.take j)).length : Nat) (ps.drop j))) = tot ∧
      goP f most (fpg w (cutL (a : Int) (b : Int) ((byt (ps.take j)).length : Nat) (ps.drop j))) kk lg = (ks', log', ok) ∧ lg.length ≤ log.length + got.length, ps.length,
    ⟨rfl, rfl, rfl, rfl, rfl, rfl, rfl, rfl, rfl, rfl, rfl, rfl, rfl, rfl, 0, F, G, log, ks, none, 0, [], rfl, by omega, by omega, by simp [byt], hB, by simpa [byt] using h0, by simpa [byt] using hgo, by simp⟩, ?_⟩
  rintro N x0 x1 x2 x6b x6o x7b x7o x8a x8l x8c x9 qa ql qc x42 x43 mm ⟨rfl, rfl, rfl, rfl, rfl, rfl, rfl, rfl, rfl, rfl, rfl, rfl, rfl, rfl, j, F', G', lg, kk, sa, sc, got, rfl, hj, rfl, rfl, hB, hsp, hg, hlg⟩
  have hgl : got.length ≤ b - a := by
    rw [← htl, ← hsp, List.length_append]; omega
  unfold doc_Doc_Bytes.l2B
  refine BrD (fun hlt => ?_) (fun hge2 => ?_)
  rotate_left
  · have e : ps.drop j = [] := List.drop_eq_nil_of_le (by omega)
    rw [e] at hsp hg
    have e2 : cutL (a : Int) (b : Int) ((byt (ps.take j)).length : Nat) [] = [] := rfl
    rw [e2] at hsp hg
    have e3 : spl base ad (byt []) = [] := rfl
    rw [e3, List.append_nil] at hsp
    simp only [fpg, List.flatMap_nil, goP, Prod.mk.injEq] at hg
    obtain ⟨rfl, rfl, rfl⟩ := hg
    subst hsp
    refine DBytes_end hB ?_
    intro m' hch hfl hown
    rw [htl] at hown ⊢
    exact good rfl F' G' m' sa sc hch hB.gF hB.gG hB.inG hfl hown hB.fr
  have hjl : j < ps.length := by omega
  have hnF : ∀ x, m x ≠ none → ¬ F x → ¬ F' x := fun x hx hn e => (hB.gF x e).elim hn hx
  have hcp : CellsAt mm qa (pcs ps) := hp.chg hB.ch hpF
  refine IxS.pcs hcp rfl (by omega) (by omega) ?_
  intro b0 o p hp1 c1 c2 c3
  have hp' : ps[j]? = some p := hp1
  have hpm := List.mem_of_getElem? hp'
  have hpok := hok p hpm
  have hpok' := hpok
  have hlim := piece_lim gd hi hpm
  have hpB := (gd.ok p hpm).2
  unfold Pc.Ok at hpok
  have e1 := byt_take_len hp'
  have e2 := byt_take_le ps (j + 1)
  have e0 := byt_take_le ps j
  obtain ⟨at_, hat⟩ : ∃ at_, at_ = (byt (ps.take j)).length := ⟨_, rfl⟩
  rw [← hat] at hsp hg e0 e1 ⊢
  have hdrop : ps.drop j = p :: ps.drop (j + 1) := by
    rw [List.drop_eq_getElem_cons hjl]
    rw [List.getElem?_eq_getElem hjl] at hp'
    rw [Option.some.inj hp']
  rw [hdrop, cutL_cons] at hsp hg
  have hat1 : (at_ : Int) + (p.t - p.f) = ((byt (ps.take (j + 1))).length : Nat) := by omega
  rw [hat1] at hsp hg
  refine LdV.mk c1 (UnB.mk ?_)
  refine LdV.mk c2 (UnI.mk ?_)
  refine LdV.mk c3 (UnI.mk ?_)
  intro b11 hb11
  refine set3 hb11 ?_
  have hle := Le.set hb11 (.cells #[.bool p.a, .int .i64 p.f, .int .i64 p.t] T_api_Piece (0, 0))
  have hB := hB.page (hle.chg _) (fun _ e => .inl e) (fun _ e => .inl e) (fun _ e => e) (hB.fl.le hle)
  have hc11 := set_same mm b11 (.cells #[.bool p.a, .int .i64 p.f, .int .i64 p.t] T_api_Piece (0, 0))
  generalize hmm : mm.set b11 (.cells #[.bool p.a, .int .i64 p.f, .int .i64 p.t] T_api_Piece (0, 0)) = m4 at hB hc11 hle ⊢
  refine ⟨m4, Le.refl _, ?_⟩
  refine LdV.s1 hc11 (UnI.mk ?_)
  refine LdV.s1 hc11 (UnI.mk ?_)
  refine LdV.s2 hc11 (UnI.mk ?_)
  unfold doc_Doc_Bytes.k3
  refine LdV.s2 hc11 (UnI.mk ?_)
  refine LdV.s1 hc11 (UnI.mk ?_)
  rw [wi (n := (a : Int) - (at_ : Int)) (by omega) (by omega)]
  have ex : p.f + (if 0 > (a : Int) - (at_ : Int) then 0 else (a : Int) - (at_ : Int)) = p.f + max ((a : Int) - at_) 0 := by split <;> omega
  rw [ex, wi (n := p.f + (b : Int)) (by omega) (by omega), wi (n := p.f + (b : Int) - (at_ : Int)) (by omega) (by omega), wi (n := p.f + max ((a : Int) - at_) 0) (by omega) (by omega)]
  have ey : (if p.t < p.f + (b : Int) - (at_ : Int) then p.t else p.f + (b : Int) - (at_ : Int)) = p.f + min ((b : Int) - at_) (p.t - p.f) := by split <;> omega
  rw [ey, wi (n := p.t - p.f) (by omega) (by omega), wi (n := (at_ : Int) + (p.t - p.f)) (by omega) (by omega), wi (n := (j : Int) + 1) (by omega) (by omega), hat1]
  refine BrD (fun hxy => ?_) (fun hxy => ?_)
  · rw [if_neg (by omega)] at hsp hg
    exact ⟨ps.length - (j + 1), by omega, rfl, rfl, rfl, rfl, rfl, rfl, rfl, rfl, rfl, rfl, rfl, rfl, rfl, rfl, j + 1, F', G', lg, kk, sa, sc, got, rfl, by omega, rfl, rfl, hB, hsp, hg, hlg⟩
  rw [if_pos (by omega)] at hsp hg
  obtain ⟨x, hx⟩ : ∃ x : Nat, (x : Int) = p.f + max ((a : Int) - at_) 0 := ⟨(p.f + max ((a : Int) - at_) 0).toNat, by omega⟩
  obtain ⟨y, hy⟩ : ∃ y : Nat, (y : Int) = p.f + min ((b : Int) - at_) (p.t - p.f) := ⟨(p.f + min ((b : Int) - at_) (p.t - p.f)).toNat, by omega⟩
  rw [← hx, ← hy] at hsp hg hxy ⊢
  have hqok : (⟨p.a, (x : Int), (y : Int)⟩ : Pc).Ok := by unfold Pc.Ok; simp only; omega
  rw [byt_cons, spl_append, ← List.append_assoc] at hsp
  rw [fpg_cons, goP_append] at hg
  have hyt : (y : Int) ≤ p.t := by omega
  -- behind a part
  have nxt : ∀ (F2 G2 : Nat → Prop) (m1 : Mem) (lg2 kk2 : List Int) (na : Option Addr) (nl nc : Nat) (row : List UInt8), row = (if p.a = true then ad else base) → By m m1 F G F2 G2 bf bp x6b x7b base (w : Int) f lg2 most kk2 sa sc got → CellsAt m1 na (u8s (seg row x y)) → nl = y - x →
      goP f most (fpg w (cutL (a : Int) (b : Int) ((byt (ps.take (j + 1))).length : Nat) (ps.drop (j + 1)))) kk2 lg2 = (ks', log', ok) → lg2.length ≤ log.length + got.length + (y - x) →
      BiN P .append #[T_sl_uint8, T_sl_uint8] T_sl_uint8 #[false, false] #[.slice sa got.length sc, .slice na nl nc] m1 (fun w3 m3 =>
            UnS w3 fun x76a x76l x76c => St1 m3 x6b 0 (.slice x76a x76l x76c) fun m4 =>
              ∃ N1, N1 < ps.length - j ∧ (((some ⟨bd, 0, none⟩ : Option Addr) = some ⟨bd, 0, none⟩) ∧ (a : Int) = (a : Int) ∧ (b : Int) = (b : Int) ∧ x6b = x6b ∧ 0 = 0 ∧ x7b = x7b ∧ 0 = 0 ∧ x8a = x8a ∧ ad.length = ad.length ∧ x8c = x8c ∧ qa = qa ∧ ps.length = ps.length ∧ qc = qc ∧ ((ps.length : Nat) : Int) = ((ps.length : Nat) : Int) ∧
    ∃ (j' : Nat) (F' G' : Nat → Prop) (lg kk : List Int) (sa : Option Addr) (sc : Nat) (got : List UInt8), (j : Int) + 1 = (j' : Int) ∧ j' ≤ ps.length ∧ N1 = ps.length - j' ∧ (((byt (ps.take (j + 1))).length : Nat) : Int) = ((byt (ps.take j')).length : Nat) ∧
      By m m4 F G F' G' bf bp x6b x7b base (w : Int) f lg most kk sa sc got ∧ got ++ spl base ad (byt (cutL (a : Int) (b : Int) ((byt (ps.take j')).length : Nat) (ps.drop j'))) = tot ∧
      goP f most (fpg w (cutL (a : Int) (b : Int) ((byt (ps.take j')).length : Nat) (ps.drop j'))) kk lg = (ks', log', ok) ∧ lg.length ≤ log.length + got.length))
            (panicR (DefR P doc_Doc_Bytes_1.id #[.pointer (some ⟨x6b, 0, none⟩), .pointer (some ⟨x7b, 0, none⟩)] (doc_Doc_Bytes.out x6b 0 x7b 0 R))) := by
    intro F2 G2 m1 lg2 kk2 na nl nc row hrow hB1 hcells hnl hg2 hl2
    have hlim2 : p.t ≤ (row.length : Nat) := by
      rw [hrow]
      split at hlim
      · rename_i e; rw [if_pos e]; exact hlim
      · rename_i e; rw [if_neg e]; exact hlim
    have hsl : (seg row x y).length = y - x := seg_len (by omega)
    have hspl : spl base ad (⟨p.a, (x : Int), (y : Int)⟩ : Pc).bytes = seg row x y := by
      rw [part_spl hqok (by rw [← hrow]; simp only; omega), ← hrow]
      simp only [Int.toNat_natCast]
      unfold seg
      rw [List.drop_take]
    rw [hspl] at hsp
    refine append_own eU8 hB1.own hcells (by rw [u8s_len, hsl, hnl, Nat.mul_one]) (u8s_one _) (by decide) (by omega) (by omega) ?_
    intro a' c' m3 ho hgr
    refine UnS.mk ?_
    have hu2 : u8s got ++ u8s (seg row x y) = u8s (got ++ seg row x y) := by simp [u8s]
    have hlen2 : got.length + nl = (got ++ seg row x y).length := by rw [List.length_append, hsl, hnl]
    rw [hu2, hlen2] at ho
    rw [hlen2]
    refine hB1.grow hgr.1 ho hgr.2 ?_
    intro m4 hB4
    refine ⟨ps.length - (j + 1), by omega, rfl, rfl, rfl, rfl, rfl, rfl, rfl, rfl, rfl, rfl, rfl, rfl, rfl, rfl, j + 1, F2, G2, lg2, kk2, a', c', _, by omega, by omega, rfl, rfl, hB4, hsp, hg2, ?_⟩
    rw [List.length_append, hsl]; omega
  refine LdV.s0 hc11 (UnB.mk ?_)
  refine Br.mk (fun hpa => ?_) (fun hpa => ?_)
  · -- what was added
    have hpp : ppg w (⟨p.a, (x : Int), (y : Int)⟩ : Pc) = [] := by unfold ppg; rw [if_pos hpa]
    rw [hpp] at hg
    simp only [goP, if_true] at hg
    rw [if_pos hpa] at hlim
    refine ⟨m4, Le.refl _, ?_⟩
    refine LdV.s0 hB.e6 (UnS.mk ?_)
    refine ⟨by omega, by omega, by omega, ?_⟩
    have hca : CellsAt m4 x8a (u8s ad) := ha.chg hB.ch haF
    have hsub := CellsAt.sub (sz := 1) (lo := x) (hi := y) (c := x8c) hca (by rw [u8s_len]; omega) (by omega)
    have hnew : ((u8s ad).take (y * 1)).drop (x * 1) = u8s (seg ad x y) := by
      unfold seg u8s
      rw [Nat.mul_one, Nat.mul_one, ← List.map_take, ← List.map_drop, List.drop_take]
    rw [hnew] at hsub
    exact nxt F' G' m4 lg kk _ _ _ ad (by rw [if_pos hpa]) hB hsub (by omega) hg (by omega)
  · -- what is of the file
    have hpa' : ¬ p.a = true := by rw [hpa]; decide
    rw [if_neg hpa'] at hlim
    have hpp : ppg w (⟨p.a, (x : Int), (y : Int)⟩ : Pc) = pgs w x (npg w x y) := by unfold ppg; rw [if_neg hpa']; rfl
    rw [hpp] at hg
    have hbdF : ¬ F' bd := hnF bd (by rw [hcell]; simp) hnb
    have hcd := hB.ch.eq _ _ hcell hnb
    refine ⟨m4.wo F', wo_le _ _, ?_⟩
    refine LdV.s0 (by rw [wo_in hB.w6.2.1]; exact hB.e6) (UnS.mk ?_)
    refine LdV.s0 (by rw [wo_in hbdF]; exact hcd) (UnP.mk ?_)
    obtain ⟨k2, l2, o2, hgo2⟩ : ∃ k2 l2 o2, goP f most (pgs w x (npg w x y)) kk lg = (k2, l2, o2) := ⟨_, _, _, rfl⟩
    have hlen2 := goP_len (f := f) (most := most) (pgs w x (npg w x y)) kk lg
    have hnp := npg_bytes (w := w) (a := x) (b := y) hw1
    rw [hgo2, pgs_len] at hlen2
    rw [hgo2] at hg
    simp only at hg hlen2
    refine Bytes_spec hB.fl (a := x) (b := y) (by omega) (by omega) (by omega) hgo2 ?_ ?_
    · intro ho F2 G2 m1 na nc hch gF gG inG hfl hown hfr
      rw [if_pos ho] at hg
      have hB1 := hB.page hch gF gG inG hfl
      refine Lk.all (hch.to_le (wo_le _ _) (fun b e => wo_out e)) ?_
      refine must_ok ?_
      dsimp only [Cont]
      refine UnS.mk ?_
      refine Lk.all (Le.refl _) ?_
      exact nxt F2 G2 m1 l2 k2 na _ nc base (by rw [if_neg hpa']) hB1 hown.cells rfl hg (by omega)
    · intro ho F2 G2 m1 hch gF gG inG hfl
      rw [if_neg (by rw [ho]; decide)] at hg
      have hB1 := hB.page hch gF gG inG hfl
      cases hg
      refine Lk.all (hch.to_le (wo_le _ _) (fun b e => wo_out e)) ?_
      refine must_bad (by decide) ?_
      refine DBytes_fail hB1 ?_
      intro m' hc hf'
      exact bad ho F2 G2 m' hc hB1.gF hB1.gG hB1.inG hf'
/-- Bytes. -/
theorem DBytes_spec {T : Nat → Prop} (h : Dx m F G T bd bf bp bt base w f log most ks ps ad B) {a b : Nat} (hab : a ≤ b) (hb : b ≤ (byt ps).length) (hlog : log.length ≤ 300000) {ks' log' : List Int} {ok : Bool} (hgo : goP f most (fpg w (cutL (a : Int) (b : Int) 0 ps)) ks log = (ks', log', ok))
    (good : ok = true → ∀ F' G' m' sa sc, Chg F m m' → (∀ b, F' b → F b ∨ m b = none) → (∀ b, G' b → G b ∨ m b = none) → (∀ b, G b → G' b) → Dx m' F' G' T bd bf bp bt base w f log' most ks' ps ad B → Own m' T_uint8 1 sa (b - a) sc (u8s (((spl base ad (byt ps)).take b).drop a)) →
      (∀ x, blk sa = some x → m x = none ∧ ¬ F' x ∧ ¬ G' x) → R (.returned (.tuple #[.slice sa (b - a) sc, .int .i64 0])) m')
    (bad : ok = false → ∀ F' G' m', Chg F m m' → (∀ b, F' b → F b ∨ m b = none) → (∀ b, G' b → G b ∨ m b = none) → (∀ b, G b → G' b) → Dx m' F' G' T bd bf bp bt base w f log' most ks' ps ad B → R (.returned (.tuple #[.slice none 0 0, .int .i64 11])) m') :
    HC P doc_Doc_Bytes.id #[.pointer (some ⟨bd, 0, none⟩), .int .i64 (a : Int), .int .i64 (b : Int)] m R := by
  have gB := h.gd.big
  have gl := h.gd.len
  refine doc_Doc_Bytes.ok _ _ _ _ _ ?_
  intro b6 w6 b7 w7
  have hle6 := Le.set w6 (.cells #[.slice none 0 0] T_sl_uint8 (0, 0))
  have hle7 := Le.set w7 (.cells #[.int .i64 0] T_api_Errno (0, 0))
  have hle := hle6.trans hle7
  have h6 := hle7 _ _ (set_same m b6 (.cells #[.slice none 0 0] T_sl_uint8 (0, 0)))
  have h7 := set_same (m.set b6 (.cells #[.slice none 0 0] T_sl_uint8 (0, 0))) b7 (.cells #[.int .i64 0] T_api_Errno (0, 0))
  have w7' := hle6.new w7
  have n67 : b6 ≠ b7 := by rintro rfl; rw [set_same] at w7; cases w7
  generalize (m.set b6 (.cells #[.slice none 0 0] T_sl_uint8 (0, 0))).set b7 (.cells #[.int .i64 0] T_api_Errno (0, 0)) = m2 at hle h6 h7 ⊢
  refine none_not (hle _ _ h.cell) ?_
  refine Br.f rfl ?_
  refine BrDf (by omega) ?_
  refine BrDf (by omega) ?_
  refine DLen_spec (h.le hle) ?_
  intro m3 hle3
  refine BrDf (by omega) ?_
  have h3 := h.le (hle.trans hle3)
  unfold doc_Doc_Bytes.rest0 doc_Doc_Bytes.k1
  refine LdV.s1 h3.cell (UnP.mk ?_)
  refine Pz.Added_spec h3.tx h3.gd ?_
  intro aa ac m4 hle4 hoa hfa
  dsimp only [Cont]
  refine UnS.mk ?_
  have h4 := h3.le hle4
  refine LdV.s1 h4.cell (UnP.mk ?_)
  refine Pz.Pieces_spec h4.tx h4.gd ?_
  intro pa pc m5 hle5 hop hfp
  dsimp only [Cont]
  refine UnS.mk ?_
  have h5 := h4.le hle5
  have hm5 : Le m m5 := hle.trans (hle3.trans (hle4.trans hle5))
  have e6 := hle5 _ _ (hle4 _ _ (hle3 _ _ h6))
  have e7 := hle5 _ _ (hle4 _ _ (hle3 _ _ h7))
  have hoa5 := Own.le hle5 hoa
  -- the memory but for the answer's own two
  have n6p : blk pa ≠ some b6 := own_ne hop e6 (by decide)
  have n7p : blk pa ≠ some b7 := own_ne hop e7 (by decide)
  have n6a : blk aa ≠ some b6 := own_ne hoa5 e6 (by decide)
  have n7a : blk aa ≠ some b7 := own_ne hoa5 e7 (by decide)
  have hmw : Le m (m5.wo (fun x => x = b6 ∨ x = b7)) := le_wo hm5 (by rintro x (rfl | rfl); exact w6; exact w7')
  have hw5 := wo_le m5 (fun x => x = b6 ∨ x = b7)
  have hpF : ∀ x, blk pa = some x → ¬ F x := fun x e y => h4.fl.lv x (.inl y) (hfp x e)
  have haF : ∀ x, blk aa = some x → ¬ F x := fun x e y => h3.fl.lv x (.inl y) (hfa x e)
  have hd := h.le hmw
  refine DB_loop hd.fl hd.gd hd.ins hd.cell hd.nb (CellsAt.wo hop.cells (by rintro x e (rfl | rfl); exact n6p e; exact n7p e)) hpF (CellsAt.wo hoa5.cells (by rintro x e (rfl | rfl); exact n6a e; exact n7a e)) haF hoa5.cap hab hb hlog hgo ?_ ?_ ?_
  · exact ⟨h5.fl, hw5.chg _, fun _ e => .inl e, fun _ e => .inl e, fun _ e => e, e6, e7, n67, ⟨wo_out (.inl rfl), fun x => h.fl.lv _ (.inl x) w6, fun x => h.fl.lv _ (.inr x) w6⟩, ⟨wo_out (.inr rfl), fun x => h.fl.lv _ (.inl x) w7', fun x => h.fl.lv _ (.inr x) w7'⟩, Own.nil _ _ _, fun b e => by cases e⟩
  · intro ho F' G' m' sa sc hch gF gG inG hfl hown hfr
    exact good ho F' G' m' sa sc ((hmw.chg F).trans hch (fun _ _ e => e)) (fun b e => (gF b e).imp id hmw.new) (fun b e => (gG b e).imp id hmw.new) inG (hd.step hch gF hfl) hown (fun x e => ⟨hmw.new (hfr x e).1, (hfr x e).2⟩)
  · intro ho F' G' m' hch gF gG inG hfl
    exact bad ho F' G' m' ((hmw.chg F).trans hch (fun _ _ e => e)) (fun b e => (gF b e).imp id hmw.new) (fun b e => (gG b e).imp id hmw.new) inG (hd.step hch gF hfl)
/-- At. -/
theorem DAt_spec {T : Nat → Prop} (h : Dx m F G T bd bf bp bt base w f log most ks ps ad B) {i : Nat} (hb : i < (byt ps).length) (hlog : log.length ≤ 300000) {ks' log' : List Int} {ok : Bool} (hgo : goP f most (fpg w (cutL (i : Int) ((i + 1 : Nat) : Int) 0 ps)) ks log = (ks', log', ok))
    (good : ok = true → ∀ F' G' m' x, Chg F m m' → (∀ b, F' b → F b ∨ m b = none) → (∀ b, G' b → G b ∨ m b = none) → (∀ b, G b → G' b) → Dx m' F' G' T bd bf bp bt base w f log' most ks' ps ad B → (spl base ad (byt ps))[i]? = some x → R (.returned (.tuple #[.int .u8 x.toNat, .int .i64 0])) m')
    (bad : ok = false → ∀ F' G' m', Chg F m m' → (∀ b, F' b → F b ∨ m b = none) → (∀ b, G' b → G b ∨ m b = none) → (∀ b, G b → G' b) → Dx m' F' G' T bd bf bp bt base w f log' most ks' ps ad B → R (.returned (.tuple #[.int .u8 0, .int .i64 11])) m') :
    HC P doc_Doc_At.id #[.pointer (some ⟨bd, 0, none⟩), .int .i64 (i : Int)] m R := by
  have gB := h.gd.big
  have gl := h.gd.len
  refine doc_Doc_At.ok _ _ _ _ ?_
  refine BrDf (by omega) ?_
  refine DLen_spec h ?_
  intro m1 hle
  refine BrDf (by omega) ?_
  rw [wi (n := (i : Int) + 1) (by omega) (by omega), show (i : Int) + 1 = ((i + 1 : Nat) : Int) by omega]
  refine DBytes_spec (h.le hle) (a := i) (b := i + 1) (by omega) (by omega) hlog hgo ?_ ?_
  · intro ho F' G' m' sa sc hch gF gG inG hd hown hfr
    rw [show i + 1 - i = 1 by omega] at hown ⊢
    refine BrNf rfl ?_
    have hlt : i < (spl base ad (byt ps)).length := by rw [spl_len]; exact hb
    refine IxS.u8s hown.cells (by rw [List.length_drop, List.length_take]; omega) (by omega) (by omega) ?_
    intro x hx
    simp only [show (0 : Int).toNat = 0 from rfl] at hx
    rw [List.getElem?_drop, List.getElem?_take_of_lt (by omega), Nat.add_zero] at hx
    exact good ho F' G' m' x ((hle.chg F).trans hch (fun _ _ e => e)) (fun b e => (gF b e).imp id hle.new) (fun b e => (gG b e).imp id hle.new) inG hd hx
  · intro ho F' G' m' hch gF gG inG hd
    refine BrNt (by decide) ?_
    exact bad ho F' G' m' ((hle.chg F).trans hch (fun _ _ e => e)) (fun b e => (gF b e).imp id hle.new) (fun b e => (gG b e).imp id hle.new) inG hd
end
end Go.E
