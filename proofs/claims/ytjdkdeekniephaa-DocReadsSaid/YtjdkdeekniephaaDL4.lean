/- Layer 7: both texts under way; Spell; the loop of edits. -/
import Derived.Test.YtjdkdeekniephaaDL3
import Derived.Test.YtjdkdeekniephaaLX
set_option linter.unusedVariables false
set_option linter.unusedSimpArgs false
set_option maxRecDepth 20000
namespace Go.E
open Go.H Go.E.Pz
attribute [local irreducible] BiN MkS ConvN LookN MapUpN CallV HC

/-- Both texts under way. -/
structure Bo (ms mm : Mem) (F Fr : Nat → Prop) (bt br : Nat) (ps : List Pc) (ad : List UInt8) (B : Nat) : Prop where
  t : TS ms mm F bt ps ad B
  r : Rt mm Fr br (byt ps) ad
  fr : ∀ b, Fr b → ms b = none
  ap : ∀ b, F b → ¬ Fr b
section
variable {ms mm m' : Mem} {F Fr : Nat → Prop} {bt br : Nat} {ps : List Pc} {ad : List UInt8} {B : Nat}
theorem Bo.up (h : Bo ms mm F Fr bt br ps ad B) (k : Le mm m') : Bo ms m' F Fr bt br ps ad B := ⟨h.t.up k, h.r.le k, h.fr, h.ap⟩
theorem Bo.grow (h : Bo ms mm F Fr bt br ps ad B) {B' : Nat} (k : B ≤ B') (hB : B' ≤ 500000) : Bo ms mm F Fr bt br ps ad B' := ⟨h.t.grow k hB, h.r, h.fr, h.ap⟩
theorem rowAt {m : Mem} {a : Option Addr} {os : List OpC} (hops : OpsAt m a os) {j : Nat} (hj : j < os.length) {mm : Mem} (hle : Le m mm) {K : Nat → Nat → Prop} (k : ∀ b o, (∀ j' u, (os[j].vals)[j']? = some u → mm.cell b (o + j') = some u) → K b o) : IxS a os.length (j : Int) 4 K := by
  have hg := List.getElem?_eq_getElem hj
  refine IxS.rows OpC.len (by decide) (hops.le hle).1 rfl (by omega) (by omega) ?_
  intro b o x hx hc
  rw [Int.toNat_natCast, hg] at hx
  cases hx
  exact k b o hc

theorem Spell_spec {L : List (Bool × Int)} {base : List UInt8} {ba : Option Addr} {bc : Nat} (h : Rt mm Fr br L ad) (hb : CellsAt mm ba (u8s base)) (hi : Ins base.length ad L) (hL : L.length ≤ 1000000) {R : Ending → Mem → Prop}
    (k : ∀ oa oc m', Le mm m' → Own m' T_uint8 1 oa L.length oc (u8s (spl base ad L)) → Fresh mm oa → R (.returned (.slice oa L.length oc)) m') :
    HC P eyotref3_Text_Spell.id #[.pointer (some ⟨br, 0, none⟩), .slice ba base.length bc] mm R := by
  obtain ⟨⟨la, ll, lc, aa, al, ac, g1, g2, g3, g4, g5, g6, g7, g8⟩, lv⟩ := h
  subst g3
  subst g5
  refine eyotref3_Text_Spell.ok _ _ _ _ _ _ ?_
  refine ⟨fun N t ba' bl' bc' oa ol oc i m' => t = some ⟨br, 0, none⟩ ∧ ba' = ba ∧ bl' = base.length ∧ bc' = bc ∧ Le mm m' ∧ Fresh mm oa ∧ ∃ j : Nat, i = (j : Int) ∧ j ≤ L.length ∧ N = L.length - j ∧ ol = j ∧ Own m' T_uint8 1 oa ol oc (u8s (spl base ad (L.take j))),
    L.length, ⟨rfl, rfl, rfl, rfl, Le.refl _, Fresh.none _, 0, rfl, by omega, by omega, rfl, by simpa [spl, u8s] using Own.nil mm T_uint8 1⟩, ?_⟩
  rintro N t ba' bl' bc' oa ol oc i m' ⟨rfl, rfl, rfl, rfl, hle, hf, j, rfl, hj, rfl, rfl, ho⟩
  unfold eyotref3_Text_Spell.l1B
  refine LdV.s0 (hle _ _ g1) (UnS.mk ?_)
  refine BrD (fun hlt => ?_) (fun hge => ?_)
  rotate_left
  · have e : ol = L.length := by omega
    subst e
    rw [List.take_length] at ho
    exact k oa oc m' hle ho hf
  have hlt : ol < L.length := by omega
  have hg := List.getElem?_eq_getElem hlt
  obtain ⟨x, hx⟩ : ∃ x, x = L[ol] := ⟨_, rfl⟩
  rw [← hx] at hg
  have hix := hi x (List.mem_of_getElem? hg)
  have rd : ∀ {K : Nat → Nat → Prop}, (∀ b o, m'.cell b o = some (.bool x.1) → m'.cell b (o + 1) = some (.int .i64 x.2) → K b o) → IxS la L.length (ol : Int) 2 K := by
    intro K k
    refine IxS.rbs (g2.cells.le hle) rfl (by omega) (by omega) ?_
    intro b o y hy d1 d2
    rw [Int.toNat_natCast, hg] at hy
    cases hy
    exact k b o d1 d2
  have next : ∀ (row : List UInt8) (v : UInt8), row = (if x.1 then ad else base) → row[x.2.toNat]? = some v →
      ∀ b, m' b = none → BiN P .append #[T_sl_uint8, T_sl_uint8] T_sl_uint8 #[false, false] #[.slice oa ol oc, .slice (some ⟨b, 0, none⟩) 1 1] (m'.set b (.cells #[.int .u8 v.toNat] T_uint8 (0, 0))) (fun w m3 =>
      UnS w fun x40a x40l x40c => ∃ N1, N1 < L.length - ol ∧ ((some ⟨br, 0, none⟩ : Option Addr) = some ⟨br, 0, none⟩ ∧ ba' = ba' ∧ base.length = base.length ∧ bc' = bc' ∧ Le mm m3 ∧ Fresh mm x40a ∧ ∃ j : Nat, IntKind.i64.wrap ((ol : Int) + 1) = (j : Int) ∧ j ≤ L.length ∧ N1 = L.length - j ∧ x40l = j ∧ Own m3 T_uint8 1 x40a x40l x40c (u8s (spl base ad (L.take j))))) (panicR R) := by
    intro row v hrow hv
    refine push_one eU8 ho rfl (by omega) (by decide) ?_
    intro a2 c2 m7 hch ho7 hg7
    refine UnS.mk ?_
    refine ⟨L.length - (ol + 1), by omega, rfl, rfl, rfl, rfl, hch.to_le hle (fun b e => hf b e), ?_, ol + 1, ?_, by omega, rfl, rfl, ?_⟩
    · intro b e
      rcases hg7 with e2 | e2
      · exact hf b (e2 ▸ e)
      · exact Fresh.le hle e2 b e
    · rw [wi (by omega) (by omega)]; omega
    · have hc : chr base ad x = v := by
        unfold chr
        rw [← hrow, List.getD_eq_getElem?_getD, hv]; rfl
      have : u8s (spl base ad (L.take (ol + 1))) = u8s (spl base ad (L.take ol)) ++ [.int .u8 v.toNat] := by
        rw [List.take_add_one, hg]
        simp [spl, u8s, hc]
      rw [this]; exact ho7
  refine LdV.s0 (hle _ _ g1) (UnS.mk ?_)
  refine rd fun b o d1 d2 => LdV.mk d1 (UnB.mk ?_)
  refine Br.mk (fun hxa => ?_) (fun hxa => ?_)
  · refine ⟨m', Le.refl _, ?_⟩
    rw [if_pos hxa] at hix
    refine LdV.s1 (hle _ _ g1) (UnS.mk ?_)
    refine LdV.s0 (hle _ _ g1) (UnS.mk ?_)
    refine rd fun b o d1 d2 => LdV.mk d2 (UnI.mk ?_)
    refine IxS.u8s (g4.cells.le hle) rfl (by omega) (by omega) ?_
    intro v hv
    refine UnI.mk ?_
    exact next ad v (by rw [if_pos hxa]) hv
  · have hxa' : ¬ x.1 = true := by rw [hxa]; decide
    rw [if_neg hxa'] at hix
    refine LdV.s0 (hle _ _ g1) (UnS.mk ?_)
    refine rd fun b o d1 d2 => LdV.mk d2 (UnI.mk ?_)
    refine IxS.u8s (hb.le hle) rfl (by omega) (by omega) ?_
    intro v hv
    refine UnI.mk ?_
    exact next base v (by rw [if_neg hxa']) hv

/-- One round of edits. -/
theorem edits_body {n : Nat} (h : Bo ms mm F Fr bt br ps ad B) (hi : Ins n ad (byt ps)) {a : Option Addr} {os : List OpC} (hops : OpsAt ms a os) {j : Nat} (hj : j < os.length) (hB : B ≤ 400000) {R : Ending → Mem → Prop} {Kk : Mem → Prop}
    (hR : R (.returned (.bool true)) mm) (k : ∀ F' Fr' m' ps' ad', Bo ms m' F' Fr' bt br ps' ad' (B + 100) → Ins n ad' (byt ps') → Kk m') :
    IxS a os.length (j : Int) 4 fun x68b x68o =>
    LdV mm x68b (x68o + 2) fun v =>
    UnS v fun x70a x70l x70c =>
    Br (decide (((x70l : Nat) : Int) > 100)) (
 R (.returned (.bool true)) mm) (
 Sub mm fun r1 =>
 IxS a os.length (j : Int) 4 fun x75b x75o =>
 LdV r1 x75b x75o fun v =>
 UnI v .i64 fun x77 =>
 NilC (some ⟨br, 0, none⟩) (fun x79b x79o =>
   LdV mm x79b x79o fun v =>
   UnS v fun x81a x81l x81c =>
   HC P eyotlaw0_Place.id #[.int .i64 x77, .int .i64 (IntKind.i64.wrap (((x81l : Nat) : Int) + 1))] mm (Cont (fun v m2 =>
  UnI v .i64 fun x84 =>
  Sub m2 fun r3 =>
  IxS a os.length (j : Int) 4 fun x88b x88o =>
  LdV r3 x88b (x88o + 1) fun v =>
  UnI v .i64 fun x90 =>
  NilC (some ⟨br, 0, none⟩) (fun x92b x92o =>
    LdV r3 x92b x92o fun v =>
    UnS v fun x94a x94l x94c =>
    HC P eyotlaw0_Place.id #[.int .i64 x90, .int .i64 (IntKind.i64.wrap ((IntKind.i64.wrap (((x94l : Nat) : Int) - x84)) + 1))] m2 (Cont (fun v m4 =>
   UnI v .i64 fun x99 =>
   IxS a os.length (j : Int) 4 fun x106b x106o =>
   LdV m4 x106b (x106o + 2) fun v =>
   UnS v fun x108a x108l x108c =>
   HC P piece_Text_Edit.id #[.pointer (some ⟨bt, 0, none⟩), .int .i64 x84, .int .i64 (IntKind.i64.wrap (x84 + x99)), .slice x108a x108l x108c] m4 (Cont (fun v m5 =>
       UnI v .i64 fun x109 =>
       IxS a os.length (j : Int) 4 fun x115b x115o =>
       LdV m5 x115b (x115o + 2) fun v =>
       UnS v fun x117a x117l x117c =>
       HC P eyotref3_Text_Edit.id #[.pointer (some ⟨br, 0, none⟩), .int .i64 x84, .int .i64 (IntKind.i64.wrap (x84 + x99)), .slice x117a x117l x117c] m5 (Cont (fun v m6 =>
    UnI v .i64 fun x118 => Kk m6) (panicR R))) (panicR R))) (panicR R))) (False)) (panicR R))) (False)) := by
  have hs := hops.2 os[j] (List.getElem_mem _)
  have gl := h.t.gd.len
  have ga := h.t.gd.ad
  obtain ⟨⟨la, ll, lc, aa, al, ac, g1, g2, g3, g4, g5, g6, g7, g8⟩, lv⟩ := h.r
  subst g3
  refine rowAt hops hj h.t.le ?_
  intro b o hc
  refine LdV.mk (hc 2 _ rfl) (UnS.mk ?_)
  refine BrD (fun _ => hR) (fun hs3 => ?_)
  refine ⟨mm, Le.refl _, ?_⟩
  refine rowAt hops hj h.t.le ?_
  intro b o hc
  refine LdV.mk (hc 0 _ rfl) (UnI.mk ?_)
  refine LdV.s0 g1 (UnS.mk ?_)
  rw [wi (n := (((byt ps).length : Nat) : Int) + 1) (by omega) (by omega)]
  refine Place_spec (by omega) (by omega) ?_
  intro x hx0 hx1
  dsimp only [Cont]
  refine UnI.mk ?_
  refine ⟨mm, Le.refl _, ?_⟩
  refine rowAt hops hj h.t.le ?_
  intro b o hc
  refine LdV.mk (hc 1 _ rfl) (UnI.mk ?_)
  refine LdV.s0 g1 (UnS.mk ?_)
  rw [wi (n := (((byt ps).length : Nat) : Int) - x) (by omega) (by omega), wi (n := (((byt ps).length : Nat) : Int) - x + 1) (by omega) (by omega)]
  refine Place_spec (by omega) (by omega) ?_
  intro y hy0 hy1
  dsimp only [Cont]
  refine UnI.mk ?_
  rw [wi (n := x + y) (by omega) (by omega)]
  refine rowAt hops hj h.t.le ?_
  intro b o hc
  refine LdV.mk (hc 2 _ rfl) (UnS.mk ?_)
  refine h.t.edit (by omega) (by omega) (by omega) hs (by omega) (by omega) ?_
  intro F' m8 hch hF' h8
  dsimp only [Cont]
  refine UnI.mk ?_
  refine rowAt hops hj h8.le ?_
  intro b o hc
  refine LdV.mk (hc 2 _ rfl) (UnS.mk ?_)
  have hr8 := h.r.chg hch (fun b e1 e2 => h.ap b e2 e1)
  have hap8 := sep_step h.ap hF' h.r.lv
  refine REdit_ok hr8 (by omega) (by omega) (by omega) (by omega) (by omega) (hs.le h8.le) (by omega) ?_
  intro Fr' m10 hch10 hFr' hr10
  dsimp only [Cont]
  refine UnI.mk (k F' Fr' m10 _ _ (Bo.grow ⟨h8.side hch10 hap8 (hch10.to_le h8.le h.fr), ?_, fun b hb => ?_, ?_⟩ (by omega) (by omega)) (ins_edit h.t.gd hi (by omega)))
  · have e := ed_bytes (a := x) (b := x + y) (s := os[j].s) (ad := ad) (fun p hp => (h.t.gd.ok p hp).1) (by omega)
    rw [e]
    exact hr10
  · rcases hFr' b hb with e | e
    · exact h.fr b e
    · exact h8.le.new e
  · exact fun b hb hg => sep_step (fun b e1 e2 => hap8 b e2 e1) hFr' h8.tx.lv b hg hb
end
end Go.E
