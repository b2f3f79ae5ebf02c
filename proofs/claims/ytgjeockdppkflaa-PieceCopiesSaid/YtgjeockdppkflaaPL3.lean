import Derived.Test.YtgjeockdppkflaaPL2
set_option linter.unusedVariables false
set_option linter.unusedSimpArgs false
namespace Go.E
open Go.H
attribute [local irreducible] BiN MkS ConvN LookN MapUpN CallV HC

/-! ### PieceTypes -/
def tyP (a size i : Int) : List Pc := if i = 0 then [⟨false, 0, size⟩] else [⟨false, 0, a⟩, ⟨true, 0, i⟩, ⟨false, a, size⟩]
theorem tyP_bytes {a size i : Int} (h0 : 1 ≤ a) (h1 : a < size) (hi : 0 ≤ i) : byt (tyP a size i) = (⟨false, 0, a⟩ : Pc).bytes ++ (⟨true, 0, i⟩ : Pc).bytes ++ (⟨false, a, size⟩ : Pc).bytes := by
  unfold tyP
  split
  · rename_i e
    subst e
    have := two_bytes (q := ⟨false, 0, a⟩) (p := ⟨false, a, size⟩) (by simp only; omega) (by simp only; omega) rfl rfl
    rw [byt_cons, show byt [] = [] from rfl, List.append_nil]
    rw [show (⟨false, 0, size⟩ : Pc).bytes = (⟨false, 0, a⟩ : Pc).bytes ++ (⟨false, a, size⟩ : Pc).bytes from this]
    rw [show (⟨true, 0, 0⟩ : Pc).bytes = [] from rfl, List.append_nil]
  · rw [byt_cons, byt_cons, byt_cons, show byt [] = [] from rfl, List.append_nil, List.append_assoc]
theorem tyP_ok {a size i : Int} (h0 : 1 ≤ a) (h1 : a < size) (hi : 0 ≤ i) : (∀ p ∈ tyP a size i, p.Ok) ∧ Can (tyP a size i) := by
  unfold tyP
  split
  · refine ⟨fun p hp => ?_, trivial⟩
    simp at hp; subst hp; unfold Pc.Ok; simp only; omega
  · refine ⟨fun p hp => ?_, by simp [Can]⟩
    simp at hp
    rcases hp with rfl | rfl | rfl <;> unfold Pc.Ok <;> simp only <;> omega
theorem ty_step {a size : Int} {ad : List UInt8} {B : Nat} (h0 : 1 ≤ a) (h1 : a < size) (g : Gd B (tyP a size (ad.length : Nat)) ad) (hB : B + 1 ≤ 500000) (x : UInt8) :
    edL (tyP a size (ad.length : Nat)) ad (a + (ad.length : Nat)) (a + (ad.length : Nat)) [x] = tyP a size ((ad.length + 1 : Nat) : Int) := by
  have g2 := ed_good (s := [x]) g (a := a + (ad.length : Nat)) (b := a + (ad.length : Nat)) (by omega) (by omega) hB
  have ok2 := tyP_ok (a := a) (size := size) (i := ((ad.length + 1 : Nat) : Int)) h0 h1 (by omega)
  refine byt_inj (fun p hp => (g2.ok p hp).1) g2.can ok2.1 ok2.2 ?_
  rw [ed_bytes (fun p hp => (g.ok p hp).1) (by omega), tyP_bytes h0 h1 (by omega), tyP_bytes h0 h1 (by omega)]
  have hl1 : (⟨false, 0, a⟩ : Pc).bytes.length = a.toNat := by rw [bytes_len]; simp
  have hl2 : (⟨true, 0, (ad.length : Nat)⟩ : Pc).bytes.length = ad.length := by rw [bytes_len]; simp
  have hl : ((⟨false, 0, a⟩ : Pc).bytes ++ (⟨true, 0, (ad.length : Nat)⟩ : Pc).bytes).length = (a + (ad.length : Nat)).toNat := by rw [List.length_append, hl1, hl2]; omega
  rw [← hl, List.take_left', List.drop_left']
  · have : (⟨true, 0, ((ad.length + 1 : Nat) : Int)⟩ : Pc).bytes = (⟨true, 0, (ad.length : Nat)⟩ : Pc).bytes ++ [(true, ((ad.length : Nat) : Int))] := by
      have := two_bytes (q := ⟨true, 0, (ad.length : Nat)⟩) (p := ⟨true, (ad.length : Nat), ((ad.length + 1 : Nat) : Int)⟩) (by simp only; omega) (by simp only; omega) rfl rfl
      rw [show (⟨true, 0, ((ad.length + 1 : Nat) : Int)⟩ : Pc).bytes = _ from this]
      congr 1
      unfold Pc.bytes
      simp only
      rw [show (((ad.length + 1 : Nat) : Int) - (ad.length : Nat)).toNat = 1 by omega]
      simp
    rw [this]
    simp
  · rfl
  · rfl
theorem ty_back {a size : Int} {ad : List UInt8} {B : Nat} (h0 : 1 ≤ a) (h1 : a < size) (g : Gd B (tyP a size (ad.length : Nat)) ad) :
    edL (tyP a size (ad.length : Nat)) ad a (a + (ad.length : Nat)) [] = [⟨false, 0, size⟩] := by
  have g2 := ed_good (s := []) g (a := a) (b := a + (ad.length : Nat)) (by omega) (by omega) (by have := g.big; simpa using this)
  have ok2 := tyP_ok (a := a) (size := size) (i := 0) h0 h1 (by omega)
  have e0 : tyP a size 0 = [⟨false, 0, size⟩] := by unfold tyP; rw [if_pos rfl]
  rw [← e0]
  refine byt_inj (fun p hp => (g2.ok p hp).1) g2.can ok2.1 ok2.2 ?_
  rw [ed_bytes (fun p hp => (g.ok p hp).1) (by omega), tyP_bytes h0 h1 (by omega), tyP_bytes h0 h1 (by omega)]
  have hl1 : (⟨false, 0, a⟩ : Pc).bytes.length = a.toNat := by rw [bytes_len]; simp
  have hl2 : (⟨true, 0, (ad.length : Nat)⟩ : Pc).bytes.length = ad.length := by rw [bytes_len]; simp
  have hl : ((⟨false, 0, a⟩ : Pc).bytes ++ (⟨true, 0, (ad.length : Nat)⟩ : Pc).bytes).length = (a + (ad.length : Nat)).toNat := by rw [List.length_append, hl1, hl2]; omega
  rw [← hl, List.drop_left' rfl, ← hl1]
  rw [show ∀ (x y z : List (Bool × Int)), (x ++ y ++ z).take x.length = x from fun x y z => by rw [List.append_assoc, List.take_left' rfl]]
  rw [show (⟨true, 0, 0⟩ : Pc).bytes = [] from rfl]
  simp

theorem PieceTypes_arg {W : World} {v0 v1 v2 : Value} (h0 : Arg P W T_uint8 v0) (h1 : Arg P W T_uint8 v1) (h2 : Arg P W T_uint8 v2) : HC P eyotlaw6_PieceTypes.id #[v0, v1, v2] (heapM W) (Fine (heapM W)) := by
  obtain ⟨n, rfl, hn⟩ := h0.int (k := .u8) (by kernel_rfl)
  obtain ⟨q, rfl, hq⟩ := h1.int (k := .u8) (by kernel_rfl)
  obtain ⟨k, rfl, hk⟩ := h2.int (k := .u8) (by kernel_rfl)
  have hn := wf_u8 hn
  have hq := wf_u8 hq
  have hk := wf_u8 hk
  generalize heapM W = m at *
  refine eyotlaw6_PieceTypes.ok _ _ _ _ _ ?_
  refine begun6 ?_
  intro m1 hle1
  refine Br.f rfl ?_
  rw [wi (n := n) (by omega) (by omega), wi (n := q) (by omega) (by omega), Int.tmod_eq_emod_of_nonneg (a := n) (by omega), Int.tmod_eq_emod_of_nonneg (a := k) (by omega), wi (n := 2 + n % 100) (by omega) (by omega), wi (n := k % 30) (by omega) (by omega)]
  rw [wi (n := 2 + n % 100 - 1) (by omega) (by omega), Int.tmod_eq_emod_of_nonneg (a := q) (by omega)]
  have hs1 : 2 ≤ 2 + n % 100 := by omega
  have hs2 : 2 + n % 100 ≤ 101 := by omega
  generalize 2 + n % 100 = size at hs1 hs2
  have hm0 : 0 ≤ k % 30 := by omega
  have hm1 : k % 30 < 30 := by omega
  generalize k % 30 = mm at hm0 hm1
  have ha0 : 0 ≤ q % (size - 1) := Int.emod_nonneg _ (by omega)
  have ha1 : q % (size - 1) < size - 1 := Int.emod_lt_of_pos _ (by omega)
  rw [wi (n := 1 + q % (size - 1)) (by omega) (by omega)]
  generalize hae : 1 + q % (size - 1) = a
  have ha0 : 1 ≤ a := by omega
  have ha1 : a < size := by omega
  refine TS.new (B := 101) (by omega) (by decide) ?_
  intro bt F m2 hts
  have hts : TS m m2 F bt (newL size) [] 101 := ⟨hle1.trans hts.le, hts.tx, fun b hb => hle1.new (hts.fr b hb), hts.gd⟩
  have hnl : newL size = tyP a size 0 := by unfold newL tyP; rw [if_pos (by omega), if_pos rfl]
  rw [hnl] at hts
  refine NzI.mk (by omega) ?_
  refine ⟨fun N x7 x8 x9 x10 i m' => x7 = size ∧ x8 = some ⟨bt, 0, none⟩ ∧ x9 = a ∧ x10 = mm ∧ ∃ (F : Nat → Prop) (ad : List UInt8), i = (ad.length : Nat) ∧ i ≤ mm ∧ N = (mm - i).toNat ∧ TS m m' F bt (tyP a size (ad.length : Nat)) ad (101 + ad.length), mm.toNat, ⟨rfl, rfl, rfl, rfl, F, [], rfl, hm0, by simp, hts⟩, ?_⟩
  clear hts
  rintro N x7 x8 x9 x10 i m' ⟨rfl, rfl, rfl, rfl, F, ad, rfl, him, rfl, hts⟩
  have gl := hts.gd.len
  have hbl : (byt (tyP x9 x7 (ad.length : Nat))).length = x7.toNat + ad.length := by
    rw [tyP_bytes ha0 ha1 (by omega)]
    simp only [List.length_append, bytes_len]; omega
  refine BrD (fun hlt => ?_) (fun hge => ?_)
  · intro b45 hb45
    rw [wi (n := x9 + (ad.length : Nat)) (by omega) (by omega)]
    have hu8 : IntKind.u8.wrap ((ad.length : Nat) : Int) = ((UInt8.ofNat ad.length).toNat : Int) := by
      rw [IntKind.wrap_u8]
      rw [UInt8.toNat_ofNat']; omega
    rw [hu8]
    have hts1 := hts.up (Le.set hb45 (.cells #[.int .u8 ((UInt8.ofNat ad.length).toNat : Int)] T_uint8 (0, 0)))
    refine Edit_ok hts1.tx hts1.gd (by omega) (by omega) (by omega) (s := [UInt8.ofNat ad.length]) (cells_at (set_same _ _ _) rfl) rfl (by simp) (by simp; omega) ?_ ?_
    · intro _ b hb hF; cases hb; exact hts.tx.lv _ hF hb45
    intro F' m5 hch hF' hx
    refine BrNf rfl ?_
    rw [ty_step ha0 ha1 hts.gd (by omega)] at hx
    have g5 := ed_good (s := [UInt8.ofNat ad.length]) (a := x9 + (ad.length : Nat)) (b := x9 + (ad.length : Nat)) hts.gd (by omega) (by omega) (by simp; omega)
    rw [ty_step ha0 ha1 hts.gd (by omega)] at g5
    refine ⟨(x10 - ((ad.length + 1 : Nat) : Int)).toNat, by omega, rfl, rfl, rfl, rfl, F', ad ++ [UInt8.ofNat ad.length], ?_, ?_, ?_, ⟨hch.to_le hts1.le hts1.fr, by simpa using hx, fun b hb => ?_, ?_⟩⟩
    · rw [wi (by omega) (by omega)]; simp
    · rw [wi (by omega) (by omega)]; omega
    · rw [wi (by omega) (by omega)]; omega
    · rcases hF' b hb with e | e
      · exact hts1.fr b e
      · exact hts1.le.new e
    · simpa [Nat.add_assoc] using g5
  · have hie : ((ad.length : Nat) : Int) = x10 := by omega
    unfold eyotlaw6_PieceTypes.k2
    refine Pieces_spec hts.tx hts.gd ?_
    intro pa pc m3 hle3 hp hfp
    have hts3 := hts.up hle3
    by_cases hz : ad.length = 0
    · refine BrEt (by omega) ?_
      refine ⟨?_, hts3.le⟩
      have : (tyP x9 x7 (ad.length : Nat)).length = 1 := by rw [hz]; rfl
      rw [this]; rfl
    · refine BrEf (by omega) ?_
      have htp : tyP x9 x7 (ad.length : Nat) = [⟨false, 0, x9⟩, ⟨true, 0, (ad.length : Nat)⟩, ⟨false, x9, x7⟩] := by unfold tyP; rw [if_neg (by omega)]
      rw [htp] at hp ⊢
      refine BrNf rfl ?_
      refine IxS.pcs hp.cells rfl (by omega) (by simp) ?_
      intro b o p hpp c1 c2 c3
      cases hpp
      refine LdV.mk c1 (LdV.mk c2 (LdV.mk c3 ?_))
      refine Br.f (by simp [eqL, eqV]) ?_
      refine IxS.pcs hp.cells rfl (by omega) (by simp) ?_
      intro b o p hpp c1 c2 c3
      cases hpp
      refine LdV.mk c1 (LdV.mk c2 (LdV.mk c3 ?_))
      refine Br.f (by simp [eqL, eqV, hie]) ?_
      refine IxS.pcs hp.cells rfl (by omega) (by simp) ?_
      intro b o p hpp c1 c2 c3
      cases hpp
      refine LdV.mk c1 (LdV.mk c2 (LdV.mk c3 ?_))
      refine Br.f (by simp [eqL, eqV]) ?_
      rw [wi (n := x9 + x10) (by omega) (by omega), ← hie]
      refine hts3.edit (s := []) (by omega) (by omega) (by omega) (CellsAt.empty _ _) (by simp) (by simp; omega) ?_
      intro F' m4 hch4 hF4 hts4
      rw [ty_back ha0 ha1 hts.gd, List.append_nil] at hts4
      refine BrNf rfl ?_
      refine Pieces_spec hts4.tx hts4.gd ?_
      intro pa2 pc2 m5 hle5 hp5 hfp5
      have hts5 := hts4.up hle5
      refine BrEt rfl ?_
      refine IxS.pcs hp5.cells rfl (by omega) (by simp) ?_
      intro b o p hpp c1 c2 c3
      cases hpp
      refine LdV.mk c1 (LdV.mk c2 (LdV.mk c3 ?_))
      refine Br.t (by simp [eqL, eqV]) ?_
      refine Added_spec hts5.tx hts5.gd ?_
      intro aa ac m6 hle6 ha hfa
      have hts6 := hts5.up hle6
      refine BrEt rfl ?_
      refine make_one eU8 rfl (by decide) (by decide) (by decide) (by decide) ?_
      intro b7 hb7
      have hts7 := hts6.up (Le.set hb7 (.cells (List.replicate (301 : Int).toNat (Value.int .u8 0)).toArray T_uint8 (0, 0)))
      refine Edit_big hts7.tx hts7.gd (by decide) (by decide) (by omega) (by decide) ?_
      intro m8 hle8
      exact ⟨rfl, (hts7.up hle8).le⟩
end Go.E
