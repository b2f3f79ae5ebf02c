import Derived.Test.YtgjeockdppkflaaPL3
set_option linter.unusedVariables false
set_option linter.unusedSimpArgs false
namespace Go.E
open Go.H
attribute [local irreducible] BiN MkS ConvN LookN MapUpN CallV HC

theorem rowAt {m : Mem} {a : Option Addr} {os : List OpC} (hops : OpsAt m a os) {j : Nat} (hj : j < os.length) {mm : Mem} (hle : Le m mm) {K : Nat → Nat → Prop} (k : ∀ b o, (∀ j' u, (os[j].vals)[j']? = some u → mm.cell b (o + j') = some u) → K b o) : IxS a os.length (j : Int) 4 K := by
  have hg := List.getElem?_eq_getElem hj
  refine IxS.rows OpC.len (by decide) (hops.le hle).1 rfl (by omega) (by omega) ?_
  intro b o x hx hc
  rw [Int.toNat_natCast, hg] at hx
  cases hx
  exact k b o hc

/-! ### PieceCopies -/
section
variable {ms mm : Mem} {F : Nat → Prop} {bt : Nat} {ps : List Pc} {ad : List UInt8} {B : Nat}
theorem Copies_k4 {m : Mem} (hm : Le m ms) {t : Nat} {Ft : Nat → Prop} {pt : List Pc} {at_ : List UInt8} (ht : Tx ms Ft t pt at_) (gt : Gd B pt at_) {pa : Option Addr} {pc : Nat} (hp : CellsAt ms pa (pcs pt))
    {c : Nat} {Fc : Nat → Prop} {pcs' : List Pc} {ac : List UInt8} {B' : Nat} (hc : TS ms mm Fc c pcs' ac B') (hB : B' ≤ 499000) :
    eyotlaw6_PieceCopies.k4 (some ⟨t, 0, none⟩) pa pt.length pc ⟨at_.toArray⟩ (some ⟨c, 0, none⟩) (Fine m) mm := by
  unfold eyotlaw6_PieceCopies.k4
  refine Len_spec hc.tx hc.gd ?_
  intro m1 hle1
  have hc1 := hc.up hle1
  intro b108 hb
  have hle2 := Le.set hb (.cells #[.int .u8 97, .int .u8 108, .int .u8 108] T_uint8 (3, 4))
  refine conv_bytes (t := T_sl_uint8) (e := T_uint8) (by kernel_rfl) (by kernel_rfl) (set_same _ _ _) (UnS.mk ?_)
  rw [set_set]
  have hc2 := hc1.up hle2
  have gl := hc.gd.len
  refine Edit_ok hc2.tx hc2.gd (by omega) (by omega) (by omega) (s := [97, 108, 108]) (cells_at (set_same _ _ _) rfl) rfl (by simp) (by simp; omega) ?_ ?_
  · intro _ b e hF; cases e; exact hc1.tx.lv _ hF hb
  intro F' m4 hch hF' hx4
  have hle4 : Le ms m4 := hch.to_le hc2.le hc2.fr
  have g4 := ed_good (s := [97, 108, 108]) (a := 0) (b := ((byt pcs').length : Nat)) hc2.gd (by omega) (by omega) (by simp; omega)
  refine Pieces_spec (ht.le hle4) gt ?_
  intro qa qc m5 hle5 hq hfq
  refine Same_true hq.cells (hp.le (hle4.trans hle5)) rfl ?_ ?_
  · have := byt_ge (fun p hp => (gt.ok p hp).1); have := gt.len; have := gt.big; omega
  refine Br.t rfl ?_
  refine Added_spec (ht.le (hle4.trans hle5)) gt ?_
  intro aa ac2 m7 hle7 ha hfa
  refine ⟨at_, rfl, ha.cells, ?_⟩
  refine Br.t (by simp) ?_
  refine Len_spec (hx4.le (hle5.trans hle7)) g4 ?_
  intro m8 hle8
  refine ⟨?_, hm.trans (hle4.trans ((hle5.trans hle7).trans hle8))⟩
  rw [ed_bytes (fun p hp => (hc.gd.ok p hp).1) (by omega)]
  congr 2
  simp
theorem Copies_k2 {m : Mem} (h : TS m mm F bt ps ad B) (hB : B ≤ 400000) {a2 : Option Addr} {c2 : Nat} {os2 : List OpC} (h2 : OpsAt m a2 os2) (hlen : os2.length ≤ 8) : eyotlaw6_PieceCopies.k2 a2 os2.length c2 (some ⟨bt, 0, none⟩) (Fine m) mm := by
  unfold eyotlaw6_PieceCopies.k2
  refine ⟨mm, Le.refl _, ?_⟩
  refine Pieces_spec h.tx h.gd ?_
  intro pa pc m2 hle2 hp hfp
  have h2' := h.up hle2
  refine ⟨m2, hle2, Le.refl _, ?_⟩
  refine Added_spec h2'.tx h2'.gd ?_
  intro aa ac m4 hle4 ha hfa
  have h4 := h2'.up hle4
  refine ⟨m4, hle4, Le.refl _, ?_⟩
  refine ⟨ad, rfl, ha.cells, ?_⟩
  refine Copy_spec h4.tx h4.gd ?_
  intro bc Fc m6 hle6 hFc hx6
  have h6 := h4.up hle6
  refine Pieces_spec hx6 h.gd ?_
  intro qa qc m7 hle7 hq hfq
  have hpl := byt_ge (fun p hp => (h.gd.ok p hp).1)
  have gl := h.gd.len
  refine Same_true hq.cells (hp.cells.le ((hle4.trans hle6).trans hle7)) rfl (by omega) ?_
  refine Br.f rfl ?_
  refine Added_spec (hx6.le hle7) h.gd ?_
  intro ba bc2 m9 hle9 hb hfb
  refine ⟨ad, rfl, hb.cells, ?_⟩
  refine Br.f (toList_beq _) ?_
  -- from here on, what is there never turns, but the copy
  have hle79 := hle7.trans hle9
  have hms4 : Le m4 m9 := hle6.trans hle79
  have hc9 : TS m4 m9 Fc bc ps ad B := ⟨hms4, hx6.le hle79, hFc, h.gd⟩
  refine ⟨fun N x2a x2l x2c x7 x9a x9l x9c x10 x11 i m' => x2a = a2 ∧ x2l = os2.length ∧ x7 = some ⟨bt, 0, none⟩ ∧ x9a = pa ∧ x9l = ps.length ∧ x9c = pc ∧ x10 = ⟨ad.toArray⟩ ∧ x11 = some ⟨bc, 0, none⟩ ∧
      ∃ (j : Nat) (F : Nat → Prop) (ps' : List Pc) (ad' : List UInt8), i = j ∧ j ≤ os2.length ∧ N = os2.length - j ∧ TS m4 m' F bc ps' ad' (B + 50 * j), os2.length, ⟨rfl, rfl, rfl, rfl, rfl, rfl, rfl, rfl, 0, Fc, ps, ad, rfl, by omega, by omega, hc9⟩, ?_⟩
  rintro N x2a x2l x2c x7 x9a x9l x9c x10 x11 i m' ⟨rfl, rfl, rfl, rfl, rfl, rfl, rfl, rfl, j, F', ps', ad', rfl, hj, rfl, hts⟩
  refine BrD (fun hlt => ?_) (fun hge => ?_)
  rotate_left
  · exact Copies_k4 h4.le h4.tx h.gd (hp.cells.le hle4) hts (by omega)
  have hjl : j < os2.length := by omega
  have hle := h4.le.trans hts.le
  have hs := h2.2 os2[j] (List.getElem_mem _)
  refine rowAt h2 hjl hle ?_
  intro b o hc
  refine LdV.mk (hc 2 _ rfl) ?_
  refine BrD (fun _ => ⟨rfl, hle⟩) (fun hs3 => ?_)
  refine ⟨m', Le.refl _, ?_⟩
  refine rowAt h2 hjl hle ?_
  intro b o hc
  refine LdV.mk (hc 0 _ rfl) ?_
  refine rowAt h2 hjl hle ?_
  intro b o hc
  refine LdV.mk (hc 1 _ rfl) ?_
  refine rowAt h2 hjl hle ?_
  intro b o hc
  refine LdV.mk (hc 2 _ rfl) ?_
  refine hts.any (hs.le h4.le) (by omega) (by omega) ?_
  intro F5 m5 ps5 ad5 e _ _ hts5
  rw [wi (by omega) (by omega)]
  exact ⟨os2.length - (j + 1), by omega, rfl, rfl, rfl, rfl, rfl, rfl, rfl, rfl, j + 1, F5, ps5, ad5, by omega, by omega, rfl, hts5.grow (by omega) (by omega)⟩
end
theorem PieceCopies_arg {W : World} {v0 v1 v2 : Value} (h0 : Arg P W T_uint8 v0) (h1 : Arg P W T_sl_eyotlaw6_Op v1) (h2 : Arg P W T_sl_eyotlaw6_Op v2) : HC P eyotlaw6_PieceCopies.id #[v0, v1, v2] (heapM W) (Fine (heapM W)) := by
  obtain ⟨n, rfl, hn⟩ := h0.int (k := .u8) (by kernel_rfl)
  obtain ⟨a, c, os, rfl, hops⟩ := arg_ops h1
  obtain ⟨a2, c2, os2, rfl, hops2⟩ := arg_ops h2
  have hn := wf_u8 hn
  generalize heapM W = m at *
  refine eyotlaw6_PieceCopies.ok _ _ _ _ _ _ _ _ _ ?_
  refine begun6 ?_
  intro m1 hle1
  refine Br.f rfl ?_
  refine BrD (fun _ => ⟨rfl, hle1⟩) (fun hlen => ?_)
  refine BrD (fun _ => ⟨rfl, hle1⟩) (fun hlen2 => ?_)
  rw [wi (by omega) (by omega)]
  refine TS.new (B := 256) (by omega) (by decide) ?_
  intro bt F m2 hts
  have hts : TS m m2 F bt (newL n) [] 256 := ⟨hle1.trans hts.le, hts.tx, fun b hb => hle1.new (hts.fr b hb), hts.gd⟩
  refine ⟨fun N x1a x1l x1c x2a x2l x2c x7 i mm => x1a = a ∧ x1l = os.length ∧ x2a = a2 ∧ x2l = os2.length ∧ x2c = c2 ∧ x7 = some ⟨bt, 0, none⟩ ∧ ∃ (j : Nat) (F : Nat → Prop) (ps : List Pc) (ad : List UInt8), i = j ∧ j ≤ os.length ∧ N = os.length - j ∧ TS m mm F bt ps ad (256 + 50 * j), os.length, ⟨rfl, rfl, rfl, rfl, rfl, rfl, 0, F, _, _, rfl, by omega, by omega, hts⟩, ?_⟩
  clear hts
  rintro N x1a x1l x1c x2a x2l x2c x7 i mm ⟨rfl, rfl, rfl, rfl, rfl, rfl, j, F, ps, ad, rfl, hj, rfl, hts⟩
  refine BrD (fun hlt => ?_) (fun hge => ?_)
  rotate_left
  · exact Copies_k2 hts (by omega) hops2 (by omega)
  have hjl : j < os.length := by omega
  have hs := hops.2 os[j] (List.getElem_mem _)
  refine rowAt hops hjl hts.le ?_
  intro b o hc
  refine LdV.mk (hc 2 _ rfl) ?_
  refine BrD (fun _ => ⟨rfl, hts.le⟩) (fun hs3 => ?_)
  refine ⟨mm, Le.refl _, ?_⟩
  refine rowAt hops hjl hts.le ?_
  intro b o hc
  refine LdV.mk (hc 0 _ rfl) ?_
  refine rowAt hops hjl hts.le ?_
  intro b o hc
  refine LdV.mk (hc 1 _ rfl) ?_
  refine rowAt hops hjl hts.le ?_
  intro b o hc
  refine LdV.mk (hc 2 _ rfl) ?_
  refine hts.any hs (by omega) (by omega) ?_
  intro F5 m5 ps5 ad5 e _ _ hts5
  rw [wi (by omega) (by omega)]
  exact ⟨os.length - (j + 1), by omega, rfl, rfl, rfl, rfl, rfl, rfl, j + 1, F5, ps5, ad5, by omega, by omega, rfl, hts5.grow (by omega) (by omega)⟩

/-! ### PieceApart -/
def rise100 : List UInt8 := (List.range 100).map UInt8.ofNat
theorem rise_get {k : Nat} (h : k < 100) : (rise100.getD k 0).toNat = k := by
  unfold rise100
  rw [List.getD_eq_getElem?_getD, List.getElem?_map, List.getElem?_range h]
  simp only [Option.map_some, Option.getD_some]
  rw [UInt8.toNat_ofNat']; omega
theorem spell_spec {mm : Mem} {F : Nat → Prop} {bt : Nat} {ps : List Pc} {ad : List UInt8} {B : Nat} (h : Tx mm F bt ps ad) (g : Gd B ps ad) (hi : Ins 100 ad (byt ps)) {R : Ending → Mem → Prop}
    (k : ∀ m', Le mm m' → R (.returned (.string ⟨(spl rise100 ad (byt ps)).toArray⟩)) m') : HC P eyotlaw6_spell.id #[.pointer (some ⟨bt, 0, none⟩)] mm R := by
  have hok : ∀ p ∈ ps, p.Ok := fun p hp => (g.ok p hp).1
  have gl := g.len
  have gb := g.big
  have hge := byt_ge hok
  refine eyotlaw6_spell.ok _ _ _ ?_
  refine Pieces_spec h g ?_
  intro pa pc m1 hle1 hp _
  refine Added_spec (h.le hle1) g ?_
  intro aa ac m2 hle2 ha _
  have hp := hp.le hle2
  have hle12 := hle1.trans hle2
  refine ⟨fun N oa ol oc la ll lc xa xl xc i m' => la = pa ∧ ll = ps.length ∧ lc = pc ∧ xa = aa ∧ xl = ad.length ∧ xc = ac ∧ Le m2 m' ∧ Fresh m2 oa ∧ ∃ j : Nat, i = j ∧ j ≤ ps.length ∧ N = ps.length - j ∧ Own m' T_uint8 1 oa ol oc (u8s (spl rise100 ad (byt (ps.take j)))), ps.length,
    ⟨rfl, rfl, rfl, rfl, rfl, rfl, Le.refl _, Fresh.none _, 0, rfl, by omega, by omega, by simpa [byt, spl, u8s] using Own.nil m2 T_uint8 1⟩, ?_⟩
  rintro N oa ol oc la ll lc xa xl xc i m' ⟨rfl, rfl, rfl, rfl, rfl, rfl, hle, hf, j, rfl, hj, rfl, ho⟩
  have hol : ol = (byt (ps.take j)).length := by
    have := ho.1; rw [u8s_len, spl_len] at this; omega
  refine BrD (fun hlt => ?_) (fun hge2 => ?_)
  rotate_left
  · have e : ps.take j = ps := List.take_of_length_le (by omega)
    rw [e] at ho hol
    exact ⟨spl rise100 ad (byt ps), by rw [spl_len]; exact hol.symm, ho.cells, k m' (hle12.trans hle)⟩
  have hjl : j < ps.length := by omega
  refine IxS.pcs (hp.cells.le hle) rfl (by omega) (by omega) ?_
  intro b o p hp1 c1 c2 c3
  have hp' : ps[j]? = some p := hp1
  have hpok := hok p (List.mem_of_getElem? hp')
  have hlim := piece_lim g hi (List.mem_of_getElem? hp')
  have hpb := (g.ok p (List.mem_of_getElem? hp')).2
  unfold Pc.Ok at hpok
  have e1 := byt_take_len hp'
  have e2 := byt_take_le ps (j + 1)
  have hsplit : byt (ps.take (j + 1)) = byt (ps.take j) ++ p.bytes := by
    rw [List.take_add_one, hp', byt_append, Option.toList_some, byt_cons, show byt [] = [] from rfl, List.append_nil]
  refine LdV.mk c2 ?_
  refine ⟨fun N oa ol oc la2 ll lc2 xa2 xl xc2 i2 k2 m' => la2 = la ∧ ll = ps.length ∧ xa2 = xa ∧ xl = ad.length ∧ lc2 = lc ∧ xc2 = xc ∧ i2 = j ∧ Le m2 m' ∧ Fresh m2 oa ∧ p.f ≤ k2 ∧ k2 ≤ p.t ∧ N = (p.t - k2).toNat ∧ Own m' T_uint8 1 oa ol oc (u8s (spl rise100 ad (byt (ps.take j) ++ p.bytes.take (k2 - p.f).toNat))), (p.t - p.f).toNat,
    ⟨rfl, rfl, rfl, rfl, rfl, rfl, rfl, hle, hf, by omega, by omega, rfl, by simpa using ho⟩, ?_⟩
  rintro N oa ol oc la2 ll lc2 xa2 xl xc2 i2 k2 m3 ⟨rfl, rfl, rfl, rfl, rfl, rfl, rfl, hle3, hf3, hk0, hk1, rfl, ho3⟩
  have hol3 : ol = (byt (ps.take j)).length + (k2 - p.f).toNat := by
    have := ho3.1
    rw [u8s_len, spl_len, List.length_append, List.length_take, bytes_len] at this
    omega
  refine IxS.pcs (hp.cells.le hle3) rfl (by omega) (by omega) ?_
  intro b o q hq d1 d2 d3
  have : q = p := by rw [hp1] at hq; cases hq; rfl
  subst this
  refine LdV.mk d3 ?_
  -- one byte more
  have push : ∀ (v : UInt8), chr rise100 ad (q.a, k2) = v → k2 < q.t → ∀ b, m3 b = none → BiN P .append #[T_sl_uint8, T_sl_uint8] T_sl_uint8 #[false, false] #[.slice oa ol oc, .slice (some ⟨b, 0, none⟩) 1 1] (m3.set b (.cells #[.int .u8 (v.toNat : Int)] T_uint8 (0, 0)))
      (fun w m' => UnS w fun oa ol oc => ∃ N1, N1 < (q.t - k2).toNat ∧ (la2 = la2 ∧ ps.length = ps.length ∧ xa2 = xa2 ∧ ad.length = ad.length ∧ lc2 = lc2 ∧ xc2 = xc2 ∧ (j : Int) = j ∧ Le m2 m' ∧ Fresh m2 oa ∧ q.f ≤ k2 + 1 ∧ k2 + 1 ≤ q.t ∧ N1 = (q.t - (k2 + 1)).toNat ∧ Own m' T_uint8 1 oa ol oc (u8s (spl rise100 ad (byt (ps.take j) ++ q.bytes.take (k2 + 1 - q.f).toNat))))) (panicR R) := by
    intro v hv hlt
    refine push_one eU8 ho3 (v := .int .u8 (v.toNat : Int)) rfl (by omega) (by decide) ?_
    intro a' c' m' hch ho' hb'
    refine ⟨(q.t - (k2 + 1)).toNat, by omega, rfl, rfl, rfl, rfl, rfl, rfl, rfl, hch.to_le hle3 hf3, ?_, by omega, by omega, rfl, ?_⟩
    · rcases hb' with e | e
      · intro b hb; exact hf3 b (e ▸ hb)
      · exact Fresh.le hle3 e
    · have : q.bytes.take (k2 + 1 - q.f).toNat = q.bytes.take (k2 - q.f).toNat ++ [(q.a, k2)] := by
        rw [show (k2 + 1 - q.f).toNat = (k2 - q.f).toNat + 1 by omega, List.take_add_one, bytes_get, if_pos (by omega)]
        rw [show q.f + (((k2 - q.f).toNat : Nat) : Int) = k2 by omega]; rfl
      rw [this, ← List.append_assoc]
      unfold spl at ho' ⊢
      rw [List.map_append (l₂ := [(q.a, k2)])]
      simp only [List.map_cons, List.map_nil, hv]
      simpa [u8s] using ho'
  refine BrD (fun hkl => ?_) (fun hkg => ?_)
  rotate_left
  · have hall : q.bytes.take (k2 - q.f).toNat = q.bytes := List.take_of_length_le (by rw [bytes_len]; omega)
    rw [hall, ← hsplit] at ho3
    rw [wi (n := ((j : Nat) : Int) + 1) (by omega) (by omega)]
    exact ⟨ps.length - (j + 1), by omega, rfl, rfl, rfl, rfl, rfl, rfl, hle3, hf3, j + 1, by omega, by omega, rfl, ho3⟩
  refine IxS.pcs (hp.cells.le hle3) rfl (by omega) (by omega) ?_
  intro b o r hr f1 f2 f3
  have : r = q := by rw [hp1] at hr; cases hr; rfl
  subst this
  refine LdV.mk f1 ?_
  have hw1 : IntKind.i64.wrap (k2 + 1) = k2 + 1 := wi (by omega) (by omega)
  cases hra : r.a with
  | false =>
    refine Br.t rfl ?_
    rw [hra] at hlim push
    simp only [Bool.false_eq_true, if_false] at hlim
    have hu8 : IntKind.u8.wrap k2 = ((rise100.getD k2.toNat 0).toNat : Int) := by
      rw [rise_get (by omega), IntWalk.u8_in _ (by omega)]; omega
    rw [hu8, hw1]
    exact push (rise100.getD k2.toNat 0) (by simp [chr]) hkl
  | true =>
    refine Br.f rfl ?_
    rw [hra] at hlim push
    simp only [if_true] at hlim
    refine BrDt (by omega) ?_
    have e : (decide (k2 < ((ad.length : Nat) : Int))) = true := by simp; omega
    rw [e]
    unfold eyotlaw6_spell.k3
    refine Br.t rfl ?_
    refine IxS.u8s (ha.cells.le hle3) rfl (by omega) (by omega) ?_
    intro x hx
    rw [hw1]
    exact push x (by simp [chr, hx]) hkl

theorem splice2 {α : Type} (w s u : List α) {x y : Nat} (hx : x + 5 ≤ y) (hy : y + 7 ≤ w.length) :
    (((w.take x ++ s ++ w.drop (x + 5)).take (y + s.length - 5) ++ u ++ (w.take x ++ s ++ w.drop (x + 5)).drop (y + s.length + 2))) =
    ((w.take y ++ u ++ w.drop (y + 7)).take x ++ s ++ (w.take y ++ u ++ w.drop (y + 7)).drop (x + 5)) := by
  have hlx : (w.take x).length = x := by rw [List.length_take]; omega
  have hly : (w.take y).length = y := by rw [List.length_take]; omega
  have e1 : (w.take x ++ s ++ w.drop (x + 5)).take (y + s.length - 5) = w.take x ++ s ++ (w.drop (x + 5)).take (y - (x + 5)) := by
    rw [List.take_append, List.take_of_length_le (by rw [List.length_append, hlx]; omega), List.length_append, hlx]
    congr 2; omega
  have e2 : (w.take x ++ s ++ w.drop (x + 5)).drop (y + s.length + 2) = w.drop (y + 7) := by
    rw [List.drop_append, List.drop_of_length_le (by rw [List.length_append, hlx]; omega), List.length_append, hlx, List.drop_drop, List.nil_append]
    congr 1; omega
  have e3 : (w.take y ++ u ++ w.drop (y + 7)).take x = w.take x := by
    rw [List.append_assoc, List.take_append_of_le_length (by omega), List.take_take]
    congr 1; omega
  have e4 : (w.take y ++ u ++ w.drop (y + 7)).drop (x + 5) = (w.drop (x + 5)).take (y - (x + 5)) ++ u ++ w.drop (y + 7) := by
    rw [List.append_assoc, List.drop_append_of_le_length (by omega), List.append_assoc, List.drop_take]
  rw [e1, e2, e3, e4]
  simp [List.append_assoc]
theorem PieceApart_arg {W : World} {v0 v1 v2 v3 : Value} (h0 : Arg P W T_uint8 v0) (h1 : Arg P W T_uint8 v1) (h2 : Arg P W T_sl_uint8 v2) (h3 : Arg P W T_sl_uint8 v3) : HC P eyotlaw6_PieceApart.id #[v0, v1, v2, v3] (heapM W) (Fine (heapM W)) := by
  obtain ⟨x0, rfl, hx0⟩ := h0.int (k := .u8) (by kernel_rfl)
  obtain ⟨y0, rfl, hy0⟩ := h1.int (k := .u8) (by kernel_rfl)
  obtain ⟨sa, sl, sc, s2, rfl, hsc, hsl, _, hs⟩ := h2.u8s (e := T_uint8) (by kernel_rfl) (by kernel_rfl)
  obtain ⟨ua, ul, uc, u2, rfl, huc, hul, _, hu⟩ := h3.u8s (e := T_uint8) (by kernel_rfl) (by kernel_rfl)
  have hx0 := wf_u8 hx0
  have hy0 := wf_u8 hy0
  have hs' : (s2.take sl).length = sl := by rw [List.length_take]; omega
  have hu' : (u2.take ul).length = ul := by rw [List.length_take]; omega
  generalize s2.take sl = s at *
  generalize u2.take ul = u at *
  subst hs'
  subst hu'
  generalize heapM W = m at *
  refine eyotlaw6_PieceApart.ok _ _ _ _ _ _ _ _ _ _ ?_
  refine begun6 ?_
  intro m1 hle1
  refine Br.f rfl ?_
  refine BrD (fun _ => ⟨rfl, hle1⟩) (fun hls => ?_)
  refine BrD (fun _ => ⟨rfl, hle1⟩) (fun hlu => ?_)
  rw [wi (n := x0) (by omega) (by omega), wi (n := y0) (by omega) (by omega), Int.tmod_eq_emod_of_nonneg (a := x0) (by omega), Int.tmod_eq_emod_of_nonneg (a := y0) (by omega)]
  have hx1 : 0 ≤ x0 % 40 ∧ x0 % 40 < 40 := by omega
  have hy1 : 0 ≤ y0 % 40 ∧ y0 % 40 < 40 := by omega
  generalize x0 % 40 = x at hx1
  rw [wi (n := 50 + y0 % 40) (by omega) (by omega)]
  have hy2 : 50 ≤ 50 + y0 % 40 ∧ 50 + y0 % 40 < 90 := by omega
  generalize 50 + y0 % 40 = y at hy2
  clear hx0 hy0 hy1
  rw [wi (n := x + 5) (by omega) (by omega), wi (n := y + (s.length : Nat)) (by omega) (by omega), wi (n := y + (s.length : Nat) - 5) (by omega) (by omega), wi (n := y + (s.length : Nat) + 2) (by omega) (by omega), wi (n := y + 7) (by omega) (by omega)]
  refine TS.new (B := 100) (by omega) (by decide) ?_
  intro bp Fp m2 hp
  have hp : TS m m2 Fp bp (newL 100) [] 100 := ⟨hle1.trans hp.le, hp.tx, fun b hb => hle1.new (hp.fr b hb), hp.gd⟩
  refine TS.new (B := 100) (by omega) (by decide) ?_
  intro bq Fq m3 hq
  have hp0 := hp
  have hp := hp.up hq.le
  have hpq : ∀ b, Fp b → ¬ Fq b := fun b h1 h2 => hp0.tx.lv b h1 (hq.fr b h2)
  have hq : TS m m3 Fq bq (newL 100) [] 100 := ⟨hp.le, hq.tx, fun b hb => hp0.le.new (hq.fr b hb), hq.gd⟩
  have hI0 : Ins 100 [] (byt (newL 100)) := ins_new 100 []
  have hl0 : (byt (newL 100)).length = 100 := rfl
  have hw0 : ∀ ad, spl rise100 ad (byt (newL 100)) = rise100 := fun ad => spl_new rise100 ad
  refine hp.edit (by omega) (by omega) (by omega) hs (by omega) (by omega) ?_
  intro Fp4 m4 hch4 hFp4 hp4
  have hq4 := hq.side hch4 (fun b h1 h2 => hpq b h2 h1) hp4.le
  have hpq4 := sep_step hpq hFp4 hq.tx.lv
  have hI4 := ins_edit (s := s) (b := x + 5) hp.gd hI0 (show 0 ≤ x by omega)
  have hw4 := spl_edit (base := rise100) (s := s) (b := x + 5) hp.gd hI0 (show 0 ≤ x by omega)
  rw [hw0] at hw4
  have hr100 : rise100.length = 100 := rfl
  have hl4 : (byt (edL (newL 100) [] x (x + 5) s)).length = 95 + s.length := by
    have := congrArg List.length hw4
    rw [spl_len] at this
    rw [this]; simp [hr100]; omega
  generalize edL (newL 100) [] x (x + 5) s = p4 at *
  refine hp4.edit (by omega) (by omega) (by omega) hu (by omega) (by omega) ?_
  intro Fp5 m5 hch5 hFp5 hp5
  have hq5 := hq4.side hch5 (fun b h1 h2 => hpq4 b h2 h1) hp5.le
  have hpq5 := sep_step hpq4 hFp5 hq4.tx.lv
  have hI5 := ins_edit (s := u) (b := y + (s.length : Nat) + 2) hp4.gd hI4 (show 0 ≤ y + (s.length : Nat) - 5 by omega)
  have hw5 := spl_edit (base := rise100) (s := u) (b := y + (s.length : Nat) + 2) hp4.gd hI4 (show 0 ≤ y + (s.length : Nat) - 5 by omega)
  rw [hw4] at hw5
  generalize edL p4 ([] ++ s) (y + (s.length : Nat) - 5) (y + (s.length : Nat) + 2) u = p5 at *
  refine hq5.edit (by omega) (by omega) (by omega) hu (by omega) (by omega) ?_
  intro Fq6 m6 hch6 hFq6 hq6
  have hp6 := hp5.side hch6 hpq5 hq6.le
  have hqp6 := sep_step (fun b h1 h2 => hpq5 b h2 h1) hFq6 hp5.tx.lv
  have hI6 := ins_edit (s := u) (b := y + 7) hq5.gd hI0 (show 0 ≤ y by omega)
  have hw6 := spl_edit (base := rise100) (s := u) (b := y + 7) hq5.gd hI0 (show 0 ≤ y by omega)
  rw [hw0] at hw6
  have hl6 : (byt (edL (newL 100) [] y (y + 7) u)).length = 93 + u.length := by
    have := congrArg List.length hw6
    rw [spl_len] at this
    rw [this]; simp [hr100]; omega
  generalize edL (newL 100) [] y (y + 7) u = q6 at *
  refine hq6.edit (by omega) (by omega) (by omega) hs (by omega) (by omega) ?_
  intro Fq7 m7 hch7 hFq7 hq7
  have hp7 := hp6.side hch7 (fun b h1 h2 => hqp6 b h2 h1) hq7.le
  have hI7 := ins_edit (s := s) (b := x + 5) hq6.gd hI6 (show 0 ≤ x by omega)
  have hw7 := spl_edit (base := rise100) (s := s) (b := x + 5) hq6.gd hI6 (show 0 ≤ x by omega)
  rw [hw6] at hw7
  generalize edL q6 ([] ++ u) x (x + 5) s = q7 at *
  have heq : spl rise100 ([] ++ s ++ u) (byt p5) = spl rise100 ([] ++ u ++ s) (byt q7) := by
    rw [hw5, hw7]
    have := splice2 rise100 s u (x := x.toNat) (y := y.toNat) (by omega) (by rw [hr100]; omega)
    rw [show (x + 5).toNat = x.toNat + 5 by omega, show (y + (s.length : Nat) - 5).toNat = y.toNat + s.length - 5 by omega, show (y + (s.length : Nat) + 2).toNat = y.toNat + s.length + 2 by omega, show (y + 7).toNat = y.toNat + 7 by omega]
    exact this
  have hleq : (byt p5).length = (byt q7).length := by
    have := congrArg List.length heq
    rwa [spl_len, spl_len] at this
  refine BrNf rfl (BrNf rfl (BrNf rfl (BrNf rfl ?_)))
  refine Len_spec hp7.tx hp7.gd ?_
  intro m8 hle8
  refine Len_spec (hq7.tx.le hle8) hq7.gd ?_
  intro m9 hle9
  refine BrNf (by rw [hleq]) ?_
  refine spell_spec (hp7.tx.le (hle8.trans hle9)) hp7.gd hI5 ?_
  intro m10 hle10
  refine spell_spec (hq7.tx.le ((hle8.trans hle9).trans hle10)) hq7.gd hI7 ?_
  intro m11 hle11
  refine ⟨?_, hq7.le.trans (((hle8.trans hle9).trans hle10).trans hle11)⟩
  rw [heq]
  simp
end Go.E
