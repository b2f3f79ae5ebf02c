import Derived.Test.YtgjeockdppkflaaPL4
set_option linter.unusedVariables false
set_option linter.unusedSimpArgs false
namespace Go.E
open Go.H
attribute [local irreducible] BiN MkS ConvN LookN MapUpN CallV HC

/-! ### PieceSpells -/
theorem part_spl {base ad : List UInt8} {p : Pc} (h : p.Ok) (hl : p.t ≤ (if p.a then ad else base).length) : spl base ad p.bytes = ((if p.a then ad else base).take p.t.toNat).drop p.f.toNat := by
  unfold Pc.Ok at h
  apply List.ext_getElem?
  intro k
  unfold spl
  rw [List.getElem?_map, bytes_get, List.getElem?_drop, List.getElem?_take]
  by_cases hk : k < (p.t - p.f).toNat
  · rw [if_pos hk, if_pos (by omega)]
    simp only [Option.map_some, chr]
    rw [List.getD_eq_getElem?_getD, show (p.f + (k : Int)).toNat = p.f.toNat + k by omega, List.getElem?_eq_getElem (by omega)]
    rfl
  · rw [if_neg hk, if_neg (by omega)]; rfl
section
variable {m mm : Mem} {F : Nat → Prop} {bt : Nat} {ps : List Pc} {ad base now : List UInt8} {B : Nat}
/-- The pieces, one behind the other. -/
theorem Spells_l2 (h : TS m mm F bt ps ad B) (hB : B ≤ 400000) {a0 : Option Addr} {c0 : Nat} (hc0 : base.length ≤ c0) (hb : CellsAt m a0 (u8s base)) (hi : Ins base.length ad (byt ps)) (hsp : spl base ad (byt ps) = now)
    {na : Option Addr} {nc : Nat} (hn : CellsAt mm na (u8s now)) {pa : Option Addr} {pc : Nat} (hp : CellsAt mm pa (pcs ps)) {aa : Option Addr} {ac : Nat} (hac : ad.length ≤ ac) (ha : CellsAt mm aa (u8s ad))
    {x1a : Option Addr} {x1l x1c : Nat} {j0 : Nat} {K1 : Option Addr → Nat → Nat → Option Addr → Nat → Nat → Option Addr → Option Addr → Nat → Nat → Int → Mem → Prop}
    (k : ∀ m', Le mm m' → K1 a0 base.length c0 x1a x1l x1c (some ⟨bt, 0, none⟩) na now.length nc (IntKind.i64.wrap ((j0 : Int) + 1)) m') :
    eyotlaw6_PieceSpells.l2 K1 a0 base.length c0 x1a x1l x1c (some ⟨bt, 0, none⟩) na now.length nc j0 none 0 0 pa ps.length pc aa ad.length ac 0 (Fine m) mm := by
  have hok : ∀ p ∈ ps, p.Ok := fun p hp => (h.gd.ok p hp).1
  have gl := h.gd.len
  have ga := h.gd.ad
  have hge := byt_ge hok
  refine ⟨fun N x0a x0l x0c y1a y1l y1c x5 x6a x6l x6c x7 oa ol oc qa ql qc da dl dc i m' => x0a = a0 ∧ x0l = base.length ∧ x0c = c0 ∧ y1a = x1a ∧ y1l = x1l ∧ y1c = x1c ∧ x5 = some ⟨bt, 0, none⟩ ∧ x6a = na ∧ x6l = now.length ∧ x6c = nc ∧ x7 = j0 ∧ qa = pa ∧ ql = ps.length ∧ qc = pc ∧ da = aa ∧ dl = ad.length ∧ dc = ac ∧ Le mm m' ∧ Fresh mm oa ∧
      ∃ j : Nat, i = j ∧ j ≤ ps.length ∧ N = ps.length - j ∧ Own m' T_uint8 1 oa ol oc (u8s (spl base ad (byt (ps.take j)))), ps.length,
    ⟨rfl, rfl, rfl, rfl, rfl, rfl, rfl, rfl, rfl, rfl, rfl, rfl, rfl, rfl, rfl, rfl, rfl, Le.refl _, Fresh.none _, 0, rfl, by omega, by omega, by simpa [byt, spl, u8s] using Own.nil mm T_uint8 1⟩, ?_⟩
  rintro N x0a x0l x0c y1a y1l y1c x5 x6a x6l x6c x7 oa ol oc qa ql qc da dl dc i m' ⟨rfl, rfl, rfl, rfl, rfl, rfl, rfl, rfl, rfl, rfl, rfl, rfl, rfl, rfl, rfl, rfl, rfl, hle, hf, j, rfl, hj, rfl, ho⟩
  have hol : ol = (byt (ps.take j)).length := by
    have := ho.1; rw [u8s_len, spl_len] at this; omega
  refine BrD (fun hlt => ?_) (fun hge2 => ?_)
  rotate_left
  · have e : ps.take j = ps := List.take_of_length_le (by omega)
    rw [e, hsp] at ho
    rw [e] at hol
    have hnl : now.length = ol := by rw [← hsp, spl_len]; exact hol.symm
    unfold eyotlaw6_PieceSpells.k4
    refine ⟨now, hnl, ho.cells, ?_⟩
    refine ⟨now, rfl, hn.le hle, ?_⟩
    refine Br.f (toList_beq _) ?_
    have h1 := h.up hle
    refine Len_spec h1.tx h1.gd ?_
    intro m4 hle4
    refine BrNf (by rw [hnl, hol]) ?_
    exact k m4 (hle.trans hle4)
  have hjl : j < ps.length := by omega
  have hcp := hp.le hle
  refine IxS.pcs hcp rfl (by omega) (by omega) ?_
  intro b o p hp1 c1 c2 c3
  have hp' : ps[j]? = some p := hp1
  have hpok := hok p (List.mem_of_getElem? hp')
  have hpok' := hpok
  have hlim := piece_lim h.gd hi (List.mem_of_getElem? hp')
  unfold Pc.Ok at hpok
  have e1 := byt_take_len hp'
  have e2 := byt_take_le ps (j + 1)
  refine LdV.mk c1 ?_
  -- what follows, whichever row it is from
  have kk : ∀ (fa : Option Addr) (fl fc : Nat), fl = (if p.a then ad else base).length → CellsAt m' fa (u8s (if p.a then ad else base)) → fl ≤ fc →
      eyotlaw6_PieceSpells.k3 K1 (fun z0a z0l z0c z1a z1l z1c x5 z6a z6l z6c x7 oa ol oc qa' zql zqc zda zdl zdc i m' => ∃ N1, N1 < ps.length - j ∧ (z0a = x0a ∧ z0l = base.length ∧ z0c = x0c ∧ z1a = y1a ∧ z1l = y1l ∧ z1c = y1c ∧ x5 = some ⟨bt, 0, none⟩ ∧ z6a = x6a ∧ z6l = now.length ∧ z6c = x6c ∧ x7 = j0 ∧ qa' = qa ∧ zql = ps.length ∧ zqc = qc ∧ zda = da ∧ zdl = ad.length ∧ zdc = dc ∧ Le mm m' ∧ Fresh mm oa ∧
      ∃ j : Nat, i = j ∧ j ≤ ps.length ∧ N1 = ps.length - j ∧ Own m' T_uint8 1 oa ol oc (u8s (spl base ad (byt (ps.take j)))))) x0a base.length x0c y1a y1l y1c (some ⟨bt, 0, none⟩) x6a now.length x6c j0 oa ol oc qa ps.length qc da ad.length dc j fa fl fc (Fine m) m' := by
    intro fa fl fc hfl hfc hcap
    have hlim2 : p.t ≤ (fl : Nat) := by
      rw [hfl]
      split at hlim
      · rename_i e; rw [if_pos e]; exact hlim
      · rename_i e; rw [if_neg e]; exact hlim
    unfold eyotlaw6_PieceSpells.k3
    refine ⟨m', Le.refl _, ?_⟩
    have rd : ∀ {K : Nat → Nat → Prop}, (∀ b o, m'.cell b o = some (.bool p.a) → m'.cell b (o + 1) = some (.int .i64 p.f) → m'.cell b (o + 2) = some (.int .i64 p.t) → K b o) → IxS qa ps.length (j : Int) 3 K := by
      intro K k
      refine IxS.pcs hcp rfl (by omega) (by omega) ?_
      intro b o q hq d1 d2 d3
      have : q = p := by rw [hp1] at hq; cases hq; rfl
      subst this
      exact k b o d1 d2 d3
    refine rd fun b o d1 d2 d3 => LdV.mk d2 ?_
    refine BrDf (by omega) ?_
    refine rd fun b o d1 d2 d3 => LdV.mk d2 ?_
    refine rd fun b o d1 d2 d3 => LdV.mk d3 ?_
    refine BrDf (by omega) ?_
    refine rd fun b o d1 d2 d3 => LdV.mk d3 ?_
    refine BrDf (by omega) ?_
    refine ⟨m', Le.refl _, ?_⟩
    refine rd fun b o d1 d2 d3 => LdV.mk d2 ?_
    refine rd fun b o d1 d2 d3 => LdV.mk d3 ?_
    refine ⟨by omega, by omega, by omega, ?_⟩
    have hsub := CellsAt.sub (sz := 1) (lo := p.f.toNat) (hi := p.t.toNat) (c := fc) hfc (by rw [u8s_len]; omega) (by omega)
    have hnew : ((u8s (if p.a then ad else base)).take (p.t.toNat * 1)).drop (p.f.toNat * 1) = u8s (spl base ad p.bytes) := by
      rw [part_spl hpok' (by omega)]
      simp [u8s]
    rw [hnew] at hsub
    refine append_own eU8 ho hsub ?_ (u8s_one _) (by decide) ?_ ?_ ?_
    · rw [u8s_len, spl_len, bytes_len]; omega
    · have := (h.gd.ok p (List.mem_of_getElem? hp')).2; omega
    · have := (h.gd.ok p (List.mem_of_getElem? hp')).2; omega
    intro wa wc m5 ho5 hg5
    have hw5 := grown_le hle hf hg5
    refine ⟨ps.length - (j + 1), by omega, rfl, rfl, rfl, rfl, rfl, rfl, rfl, rfl, rfl, rfl, rfl, rfl, rfl, rfl, rfl, rfl, rfl, hw5.1, hw5.2, j + 1, ?_, by omega, rfl, ?_⟩
    · rw [wi (by omega) (by omega)]; omega
    · have hsplit : byt (ps.take (j + 1)) = byt (ps.take j) ++ p.bytes := by
        rw [List.take_add_one, hp', byt_append, Option.toList_some, byt_cons, show byt [] = [] from rfl, List.append_nil]
      rw [hsplit]
      simpa [u8s, spl] using ho5
  have kT := kk da ad.length dc
  have kF := kk x0a base.length x0c
  refine Br.mk (fun hpa => kT ?_ ?_ ?_) (fun hpa => kF ?_ ?_ ?_)
  · rw [hpa]; rfl
  · rw [hpa]; exact ha.le hle
  · exact hac
  · rw [hpa]; rfl
  · rw [hpa]; exact hb.le (h.le.trans hle)
  · exact hc0
end
theorem PieceSpells_arg {W : World} {v0 v1 : Value} (h0 : Arg P W T_sl_uint8 v0) (h1 : Arg P W T_sl_eyotlaw6_Op v1) : HC P eyotlaw6_PieceSpells.id #[v0, v1] (heapM W) (Fine (heapM W)) := by
  obtain ⟨a0, l0, c0, s2, rfl, hc0, hsl, _, hb⟩ := h0.u8s (e := T_uint8) (by kernel_rfl) (by kernel_rfl)
  obtain ⟨a, c, os, rfl, hops⟩ := arg_ops h1
  have hs' : (s2.take l0).length = l0 := by rw [List.length_take]; omega
  generalize s2.take l0 = base at *
  subst hs'
  generalize heapM W = m at *
  refine eyotlaw6_PieceSpells.ok _ _ _ _ _ _ _ _ ?_
  refine begun6 ?_
  intro m1 hle1
  refine Br.f rfl ?_
  refine BrD (fun _ => ⟨rfl, hle1⟩) (fun hlen0 => ?_)
  refine BrD (fun _ => ⟨rfl, hle1⟩) (fun hlen => ?_)
  refine TS.new (B := 200) (by omega) (by decide) ?_
  intro bt F m2 hts
  have hts : TS m m2 F bt (newL (base.length : Nat)) [] 200 := ⟨hle1.trans hts.le, hts.tx, fun b hb => hle1.new (hts.fr b hb), hts.gd⟩
  refine clone_gen eU8 (by decide) (hb.le hts.le) (by simp [u8s]) (u8s_one _) (by omega) (by omega) ?_
  intro na nc m4 hle4 hn hfn
  have hts := hts.up hle4
  have hnF : ∀ b, blk na = some b → ¬ F b := sep_fresh hfn (by assumption : TS m m2 F bt (newL (base.length : Nat)) [] 200).tx.lv
  refine ⟨fun N x0a x0l x0c x1a x1l x1c x5 x6a x6l x6c i mm => x0a = a0 ∧ x0l = base.length ∧ x0c = c0 ∧ x1a = a ∧ x1l = os.length ∧ x1c = c ∧ x5 = some ⟨bt, 0, none⟩ ∧
      ∃ (j : Nat) (F : Nat → Prop) (ps : List Pc) (ad now : List UInt8), i = j ∧ j ≤ os.length ∧ N = os.length - j ∧ TS m mm F bt ps ad (200 + 100 * j) ∧ Own mm T_uint8 1 x6a x6l x6c (u8s now) ∧ now.length = x6l ∧ Ins base.length ad (byt ps) ∧ spl base ad (byt ps) = now ∧ ∀ b, blk x6a = some b → ¬ F b,
    os.length, ⟨rfl, rfl, rfl, rfl, rfl, rfl, rfl, 0, F, _, _, base, rfl, by omega, by omega, hts, hn, rfl, ins_new _ _, spl_new _ _, hnF⟩, ?_⟩
  clear hts hn hfn hnF hle4
  rintro N x0a x0l x0c x1a x1l x1c x5 x6a x6l x6c i mm ⟨rfl, rfl, rfl, rfl, rfl, rfl, rfl, j, F, ps, ad, now, rfl, hj, rfl, hts, hn, hnl, hi, hsp, hnF⟩
  subst hnl
  refine BrD (fun hlt => ?_) (fun hge => ⟨rfl, hts.le⟩)
  have hjl : j < os.length := by omega
  have hs := hops.2 os[j] (List.getElem_mem _)
  have gl := hts.gd.len
  have hbl : (byt ps).length = now.length := by rw [← hsp, spl_len]
  have hcap := hn.cap
  refine rowAt hops hjl hts.le ?_
  intro b o hc
  refine LdV.mk (hc 2 _ rfl) ?_
  refine BrD (fun _ => ⟨rfl, hts.le⟩) (fun hs3 => ?_)
  refine rowAt hops hjl hts.le ?_
  intro b o hc
  refine LdV.mk (hc 0 _ rfl) ?_
  rw [wi (n := ((now.length : Nat) : Int) + 1) (by omega) (by omega)]
  refine Place_spec (by omega) (by omega) ?_
  intro r hr0 hr1
  refine rowAt hops hjl hts.le ?_
  intro b o hc
  refine LdV.mk (hc 1 _ rfl) ?_
  rw [wi (n := ((now.length : Nat) : Int) - r) (by omega) (by omega), wi (by omega) (by omega)]
  refine Place_spec (by omega) (by omega) ?_
  intro r2 hr20 hr21
  refine rowAt hops hjl hts.le ?_
  intro b o hc
  refine LdV.mk (hc 2 _ rfl) ?_
  rw [wi (n := r + r2) (by omega) (by omega)]
  refine hts.edit (by omega) (by omega) (by omega) hs (by omega) (by omega) ?_
  intro F3 m3 hch3 hF3 hts3
  have hi3 := ins_edit (s := os[j].s) (b := r + r2) hts.gd hi hr0
  have hsp3 := spl_edit (base := base) (s := os[j].s) (b := r + r2) hts.gd hi hr0
  rw [hsp] at hsp3
  have hn3 := hn.chg hch3 (fun b e h => hnF b e h)
  refine BrNf rfl ?_
  refine ⟨m, hts3.le, ?_⟩
  refine ⟨by omega, by omega, by omega, ?_⟩
  refine rowAt hops hjl (Le.refl _) ?_
  intro b o hc
  refine LdV.mk (hc 2 _ rfl) ?_
  refine ⟨by omega, by omega, by omega, ?_⟩
  intro b76 hb76
  refine ⟨m, Le.refl _, hts3.le.trans (Le.set hb76 _), ?_⟩
  have hsub1 : CellsAt m3 (shf x6a (0 : Int).toNat 1 x6c) (u8s (now.take r.toNat)) := by
    have := CellsAt.sub (sz := 1) (lo := 0) (hi := r.toNat) (c := x6c) hn3.cells (by rw [u8s_len]; omega) (by omega)
    simpa [u8s] using this
  have hsub2 : CellsAt m3 (shf x6a (r + r2).toNat 1 x6c) (u8s (now.drop (r + r2).toNat)) := by
    have := CellsAt.sub (sz := 1) (lo := (r + r2).toNat) (hi := now.length) (c := x6c) hn3.cells (by rw [u8s_len]; omega) hcap
    rw [List.take_of_length_le (by rw [u8s_len]; omega)] at this
    simpa [u8s] using this
  have hl1 : (now.take r.toNat).length = r.toNat := by rw [List.length_take]; omega
  refine clone_gen eU8 (by decide) hsub1 (by rw [u8s_len, hl1]; simp) (u8s_one _) (by omega) (by omega) ?_ b76 hb76
  intro ya yc m7 hle7 hy hfy
  refine ⟨m, Le.refl _, hts3.le.trans hle7, ?_⟩
  refine append_own eU8 hy ((hs.le hts3.le).le hle7) (by simp [u8s]) (u8s_one _) (by decide) (by omega) (by omega) ?_
  intro za zc m8 hz hg8
  have hw8 := grown_le hle7 hfy hg8
  refine append_own eU8 hz (hsub2.le hw8.1) (by rw [u8s_len, List.length_drop]; simp) (u8s_one _) (by decide) (by omega) (by omega) ?_
  intro wa wc m10 hw hg10
  have hw10 := grown_le hw8.1 hw8.2 hg10
  have hts10 := hts3.up hw10.1
  have hnow : u8s (now.take r.toNat) ++ u8s os[j].s ++ u8s (now.drop (r + r2).toNat) = u8s (now.take r.toNat ++ os[j].s ++ now.drop (r + r2).toNat) := by simp [u8s]
  rw [hnow] at hw
  have hwl := hw.1
  rw [u8s_len, Nat.mul_one] at hwl
  have hwF : ∀ b, blk wa = some b → ¬ F3 b := sep_fresh hw10.2 hts3.tx.lv
  generalize now.take r.toNat ++ os[j].s ++ now.drop (r + r2).toNat = now2 at *
  generalize edL ps ad r (r + r2) os[j].s = ps2 at *
  refine Pieces_spec hts10.tx hts10.gd ?_
  intro pa pc m11 hle11 hp hfp
  have hts11 := hts10.up hle11
  refine Added_spec hts11.tx hts11.gd ?_
  intro aa ac m12 hle12 ha hfa
  have hts12 := hts11.up hle12
  rw [← hwl]
  refine Spells_l2 hts12 (by omega) hc0 hb hi3 hsp3 (hw.cells.le (hle11.trans hle12)) (hp.cells.le hle12) ha.cap ha.cells ?_
  intro m13 hle13
  rw [wi (by omega) (by omega)]
  refine ⟨os.length - (j + 1), by omega, rfl, rfl, rfl, rfl, rfl, rfl, rfl, j + 1, F3, ps2, _, now2, by omega, by omega, rfl, (hts12.up hle13).grow (by omega) (by omega), ?_, rfl, hi3, hsp3, hwF⟩
  have := Own.le ((hle11.trans hle12).trans hle13) hw
  rwa [← hwl] at this
end Go.E
