/- Layer 5: FileNew, FileSame. -/
import Derived.Test.YteljlgelgkijlaaFL1
set_option linter.unusedVariables false
set_option linter.unusedSimpArgs false
set_option maxRecDepth 20000
namespace Go.E
open Go.H
attribute [local irreducible] BiN MkS ConvN LookN MapUpN CallV HC

theorem num8 {W : World} {v : Value} (h : Arg P W T_uint8 v) : ∃ n : Nat, v = .int .u8 (n : Int) ∧ n < 256 := by
  obtain ⟨n, rfl, hw⟩ := h.int (k := .u8) (by kernel_rfl)
  have hn := wf_u8 hw
  exact ⟨n.toNat, by rw [Int.toNat_of_nonneg hn.1], by omega⟩

theorem seg_all {bs : List UInt8} {n : Nat} (h : n = bs.length) : seg bs 0 n = bs := by subst h; simp [seg]
theorem FileNew_m {m : Mem} {a : Option Addr} {l c : Nat} {bs : List UInt8} {n1 n2 : Nat} (hc : CellsAt m a (u8s bs)) (hl : bs.length = l) (h1 : n1 < 256) (h2 : n2 < 256) :
    HC P eyotlaw5_FileNew.id #[.slice a l c, .int .u8 (n1 : Int), .int .u8 (n2 : Int)] m (Fine m) := by
  refine eyotlaw5_FileNew.ok _ _ _ _ _ _ _ ?_
  refine begun_spec ?_
  intro m1 hle1
  dsimp only [Cont]
  refine UnB.mk ?_
  refine Br.f rfl ?_
  refine BrD (fun _ => ⟨rfl, hle1⟩) (fun h200 => ?_)
  have w1 : IntKind.i64.wrap ((n1 : Nat) : Int) = (n1 : Int) := wi (by omega) (by omega)
  rw [w1]
  have e1 : IntKind.i64.wrap (1 + Int.tmod (n1 : Int) 30) = ((1 + n1 % 30 : Nat) : Int) := by
    rw [show (30 : Int) = ((30 : Nat) : Int) from rfl, tmod_nat, wi (by omega) (by omega)]; omega
  have e2 : IntKind.i64.wrap (Int.tmod (n2 : Int) 9) = ((n2 % 9 : Nat) : Int) := by
    rw [show (9 : Int) = ((9 : Nat) : Int) from rfl, tmod_nat, wi (by omega) (by omega)]
  rw [e1, e2]
  generalize hw : 1 + n1 % 30 = w
  refine New_spec (hc.le hle1) hl (fun h => by omega) ?_
  intro _ _ _ bp Fp m2 hle2 hfp p
  refine FT.new p (hle1.trans hle2) (fun b e => hle1.new (hfp b e)) ?_
  intro bf F G m3 hle3 hT _ _
  dsimp only [Cont]
  refine UnP.mk ?_
  refine BrNf rfl ?_
  refine Br.f rfl ?_
  refine hT.bytes (a := 0) (b := l) (by omega) (by omega) (by simp) ?_
  intro F4 G4 m4 sa sc log4 ks4 ch4 gF4 gG4 hT4 hl4 own4 fr4
  have hlen4 : (u8s (seg bs 0 l)).length = l := by rw [u8s_len, seg_len (by omega)]; omega
  rw [Nat.sub_zero] at own4 ⊢
  have hsa : ∀ x, blk sa = some x → m x = none ∧ ¬ F4 x ∧ ¬ G4 x := fun x e => ⟨hT.le.new (fr4 x e).1, (fr4 x e).2⟩
  refine ⟨fun N x0a x0l x0c x9 x10a x10l x10c x11 x12 mm => x0a = a ∧ x0l = l ∧ x0c = c ∧ x9 = some ⟨bf, 0, none⟩ ∧ x10a = sa ∧ x10l = l ∧ x10c = sc ∧ x11 = 0 ∧
    FT m mm F4 G4 bf bp bs (w : Int) (fun _ => false) log4 ((n2 % 9 : Nat) : Int) ks4 ∧ ∃ (j : Nat) (xs : List Value), x12 = (j : Int) ∧ N = l - j ∧ j ≤ l ∧ Own mm T_uint8 1 sa l sc xs ∧ ∀ v ∈ xs, ∃ n : Int, v = .int .u8 n, l,
    ⟨rfl, rfl, rfl, rfl, rfl, rfl, rfl, rfl, hT4, 0, _, rfl, rfl, by omega, own4, ?_⟩, ?_⟩
  · intro v hv
    unfold u8s at hv
    rw [List.mem_map] at hv
    obtain ⟨x, _, rfl⟩ := hv
    exact ⟨_, rfl⟩
  rintro N x0a x0l x0c x9 x10a x10l x10c x11 x12 mm ⟨rfl, rfl, rfl, rfl, rfl, rfl, rfl, rfl, hTT, j, xs, rfl, rfl, hj, hown, hxs⟩
  refine BrD (fun hlt => ?_) (fun hge => ?_)
  · have hxl : xs.length = x10l := by have := hown.1; omega
    refine IxS.ld hown.cells hxl (by omega) hlt ?_
    intro v hv
    obtain ⟨n, rfl⟩ := hxs v (List.mem_of_getElem? hv)
    refine UnI.mk ?_
    refine hown.st (by omega) hlt (v := .int .u8 (bitsV .xor .u8 n 51)) rfl ?_
    intro m' hch ho'
    refine ⟨x10l - (j + 1), by omega, rfl, rfl, rfl, rfl, rfl, rfl, rfl, rfl, hTT.side hch (fun b e x => (hsa b x).2.1 e) (fun b e x => (hsa b x).2.2 e) (fun b e => (hsa b e).1), j + 1, _, ?_, rfl, by omega, ho', ?_⟩
    · rw [wi (by omega) (by omega)]; omega
    · intro u hu
      rcases List.mem_or_eq_of_mem_set hu with hu | hu
      · exact hxs u hu
      · exact ⟨_, hu⟩
  refine hTT.bytes (a := 0) (b := x10l) (by omega) (by omega) (by simp at hl4; omega) ?_
  intro F5 G5 m5 sa5 sc5 log5 ks5 ch5 gF5 gG5 hT5 hl5 own5 fr5
  refine BrEt rfl ?_
  refine BrEt rfl ?_
  rw [Nat.sub_zero] at own5 ⊢
  have hsg : seg bs 0 x10l = bs := seg_all hl.symm
  rw [hsg] at own5
  refine ⟨bs, hl, own5.cells, ?_⟩
  refine ⟨bs, hl, hc.le hT5.le, ?_⟩
  refine Br.t (beq_self_eq_true _) ?_
  exact ⟨by rw [beq_self_eq_true], hT5.le⟩
theorem FileNew_arg {W : World} {v0 v1 v2 : Value} (a0 : Arg P W T_sl_uint8 v0) (a1 : Arg P W T_uint8 v1) (a2 : Arg P W T_uint8 v2) : HC P eyotlaw5_FileNew.id #[v0, v1, v2] (heapM W) (Fine (heapM W)) := by
  obtain ⟨a, l, c, bs, rfl, hlc, hl, _, hx⟩ := a0.u8s (e := T_uint8) (by kernel_rfl) (by kernel_rfl)
  obtain ⟨n1, rfl, h1⟩ := num8 a1
  obtain ⟨n2, rfl, h2⟩ := num8 a2
  exact FileNew_m hx (by rw [List.length_take]; omega) h1 h2
end Go.E
