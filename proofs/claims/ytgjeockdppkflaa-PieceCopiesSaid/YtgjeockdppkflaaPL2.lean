import Derived.Test.YtgjeockdppkflaaPL1
set_option linter.unusedVariables false
set_option linter.unusedSimpArgs false
namespace Go.E
open Go.H
attribute [local irreducible] BiN MkS ConvN LookN MapUpN CallV HC
abbrev Fine (m : Mem) : Ending → Mem → Prop := fun e m' => e = .returned (.bool true) ∧ Le m m'

/-! ### PieceFinds -/
section
variable {ms mm : Mem} {F : Nat → Prop} {bt : Nat} {ps : List Pc} {ad : List UInt8} {B : Nat}
theorem Finds_k5 (h : TS ms mm F bt ps ad B) {at_ : Int} (hat : at_ = ((byt ps).length : Nat)) : eyotlaw6_PieceFinds.k5 (some ⟨bt, 0, none⟩) at_ (Fine ms) mm := by
  unfold eyotlaw6_PieceFinds.k5
  refine Find_out h.tx h.gd (.inr (by omega)) ?_
  intro m1 hle1
  have h1 := h.up hle1
  refine Len_spec h1.tx h1.gd ?_
  intro m2 hle2
  exact BrEt hat ⟨rfl, (h1.up hle2).le⟩
theorem Finds_l3 (h : TS ms mm F bt ps ad B) {pa : Option Addr} {pc : Nat} (hp : CellsAt mm pa (pcs ps)) : eyotlaw6_PieceFinds.l3 (some ⟨bt, 0, none⟩) pa ps.length pc 0 0 (Fine ms) mm := by
  have hok : ∀ p ∈ ps, p.Ok := fun p hp => (h.gd.ok p hp).1
  have gl := h.gd.len
  have gb := h.gd.big
  have hge := byt_ge hok
  refine ⟨fun N x a l c at_ i m' => x = some ⟨bt, 0, none⟩ ∧ a = pa ∧ l = ps.length ∧ Le mm m' ∧ ∃ j : Nat, i = j ∧ j ≤ ps.length ∧ N = ps.length - j ∧ at_ = ((byt (ps.take j)).length : Nat), ps.length, ⟨rfl, rfl, rfl, Le.refl _, 0, rfl, by omega, by omega, by simp [byt]⟩, ?_⟩
  rintro N x a l c at_ i m' ⟨rfl, rfl, rfl, hle, j, rfl, hj, rfl, rfl⟩
  refine BrD (fun hlt => ?_) (fun hge2 => ?_)
  rotate_left
  · have e : ps.take j = ps := List.take_of_length_le (by omega)
    rw [e]
    exact Finds_k5 (h.up hle) rfl
  have hjl : j < ps.length := by omega
  have hg := List.getElem?_eq_getElem hjl
  refine IxS.pcs (hp.le hle) rfl (by omega) (by omega) ?_
  intro b o p hp1 c1 c2 c3
  have hp' : ps[j]? = some p := hp1
  have hpok := hok p (List.mem_of_getElem? hp')
  have hpb := (h.gd.ok p (List.mem_of_getElem? hp')).2
  unfold Pc.Ok at hpok
  have e1 := byt_take_len hp'
  have e2 := byt_take_le ps (j + 1)
  refine LdV.mk c2 ?_
  refine ⟨fun N x a2 l c at_ i2 k m' => x = some ⟨bt, 0, none⟩ ∧ a2 = a ∧ l = ps.length ∧ i2 = j ∧ Le mm m' ∧ p.f ≤ k ∧ k ≤ p.t ∧ N = (p.t - k).toNat ∧ at_ = ((byt (ps.take j)).length : Nat) + (k - p.f), (p.t - p.f).toNat, ⟨rfl, rfl, rfl, rfl, hle, by omega, by omega, rfl, by omega⟩, ?_⟩
  rintro N x a2 l c at_ i2 k m2 ⟨rfl, rfl, rfl, rfl, hle2, hk0, hk1, rfl, rfl⟩
  have h2 := h.up hle2
  refine IxS.pcs (hp.le hle2) rfl (by omega) (by omega) ?_
  intro b o q hq d1 d2 d3
  have : q = p := by rw [hp1] at hq; cases hq; rfl
  subst this
  refine LdV.mk d3 ?_
  refine BrD (fun hkl => ?_) (fun hkg => ?_)
  · refine Find_in h2.tx h2.gd (by omega) (by omega) ?_
    intro m3 hle3
    have hf := findL_at 0 hok hp' (o := k - q.f) (by omega) (by omega)
    rw [hf]
    refine BrNf rfl ?_
    refine BrNf (by simp) ?_
    refine IxS.pcs (hp.le (hle2.trans hle3)) rfl (by omega) (by omega) ?_
    intro b o r hr f1 f2 f3
    have : r = q := by rw [hp1] at hr; cases hr; rfl
    subst this
    refine LdV.mk f2 (UnI.mk ?_)
    rw [wi (n := k - r.f) (by omega) (by omega)]
    refine BrNf rfl ?_
    rw [wi (n := k + 1) (by omega) (by omega), wi (by omega) (by omega)]
    exact ⟨(r.t - (k + 1)).toNat, by omega, rfl, rfl, rfl, rfl, hle2.trans hle3, by omega, by omega, rfl, by omega⟩
  · rw [wi (n := ((j : Nat) : Int) + 1) (by omega) (by omega)]
    refine ⟨ps.length - (j + 1), by omega, rfl, rfl, rfl, hle2, j + 1, by omega, by omega, rfl, by omega⟩
end
theorem PieceFinds_arg {W : World} {v0 v1 : Value} (h0 : Arg P W T_uint8 v0) (h1 : Arg P W T_sl_eyotlaw6_Op v1) : HC P eyotlaw6_PieceFinds.id #[v0, v1] (heapM W) (Fine (heapM W)) := by
  obtain ⟨n, rfl, hn⟩ := h0.int (k := .u8) (by kernel_rfl)
  obtain ⟨a, c, os, rfl, hops⟩ := arg_ops h1
  have hn := wf_u8 hn
  generalize heapM W = m at *
  refine eyotlaw6_PieceFinds.ok _ _ _ _ _ _ ?_
  refine begun6 ?_
  intro m1 hle1
  refine Br.f rfl ?_
  refine BrD (fun _ => ⟨rfl, hle1⟩) (fun hlen => ?_)
  rw [wi (by omega) (by omega)]
  refine TS.new (B := 256) (by omega) (by decide) ?_
  intro bt F m2 hts
  have hts : TS m m2 F bt (newL n) [] 256 := ⟨hle1.trans hts.le, hts.tx, fun b hb => hle1.new (hts.fr b hb), hts.gd⟩
  refine ⟨fun N x1a x1l x1c x5 i mm => x1a = a ∧ x1l = os.length ∧ x5 = some ⟨bt, 0, none⟩ ∧ ∃ (j : Nat) (F : Nat → Prop) (ps : List Pc) (ad : List UInt8), i = j ∧ j ≤ os.length ∧ N = os.length - j ∧ TS m mm F bt ps ad (256 + 30 * j), os.length, ⟨rfl, rfl, rfl, 0, F, _, _, rfl, by omega, by omega, hts⟩, ?_⟩
  clear hts
  rintro N x1a x1l x1c x5 i mm ⟨rfl, rfl, rfl, j, F, ps, ad, rfl, hj, rfl, hts⟩
  refine BrD (fun hlt => ?_) (fun hge => ?_)
  rotate_left
  · unfold eyotlaw6_PieceFinds.k2
    refine Pieces_spec hts.tx hts.gd ?_
    intro pa pc m3 hle3 hp hfp
    exact Finds_l3 (hts.up hle3) hp.cells
  have hg := List.getElem?_eq_getElem (show j < os.length by omega)
  have hrow : ∀ {mm}, Le m mm → ∀ {K : Nat → Nat → Prop}, (∀ b o, (∀ j' u, (os[j].vals)[j']? = some u → mm.cell b (o + j') = some u) → K b o) → IxS x1a os.length (j : Int) 4 K := by
    intro mm hle K k
    refine IxS.rows OpC.len (by decide) (hops.le hle).1 rfl (by omega) (by omega) ?_
    intro b o x hx hc
    rw [Int.toNat_natCast, hg] at hx
    cases hx
    exact k b o hc
  have hs := hops.2 os[j] (List.getElem_mem _)
  generalize os[j] = x at *
  have gl := hts.gd.len
  refine hrow hts.le ?_
  intro b o hc
  refine LdV.mk (hc 2 _ rfl) ?_
  refine BrD (fun _ => ⟨rfl, hts.le⟩) (fun hs3 => ?_)
  refine ⟨mm, Le.refl _, ?_⟩
  refine hrow hts.le ?_
  intro b o hc
  refine LdV.mk (hc 0 _ rfl) ?_
  refine Len_spec hts.tx hts.gd ?_
  intro m3 hle3
  have hts3 := hts.up hle3
  refine ⟨m3, hle3, Le.refl _, ?_⟩
  rw [wi (by omega) (by omega)]
  refine Place_spec (by omega) (by omega) ?_
  intro r hr0 hr1
  refine ⟨m3, Le.refl _, ?_⟩
  refine hrow hts3.le ?_
  intro b o hc
  refine LdV.mk (hc 1 _ rfl) ?_
  refine hrow hts3.le ?_
  intro b o hc
  refine LdV.mk (hc 2 _ rfl) ?_
  refine Len_spec hts3.tx hts3.gd ?_
  intro m4 hle4
  have hts4 := hts3.up hle4
  refine ⟨m4, hle4, Le.refl _, ?_⟩
  rw [wi (n := ((byt ps).length : Nat) - r) (by omega) (by omega), wi (by omega) (by omega)]
  refine Place_spec (by omega) (by omega) ?_
  intro r2 hr20 hr21
  refine ⟨m4, Le.refl _, Le.refl _, ?_⟩
  rw [wi (by omega) (by omega)]
  refine hts4.edit (by omega) (by omega) (by omega) hs (by omega) (by omega) ?_
  intro F' m5 _ _ hts5
  rw [wi (by omega) (by omega)]
  exact ⟨os.length - (j + 1), by omega, rfl, rfl, rfl, j + 1, F', _, _, by omega, by omega, rfl, hts5.grow (by omega) (by omega)⟩
end Go.E
