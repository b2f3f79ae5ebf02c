/- Layer 5: begun, FileParts, FileNew. -/
import Derived.Test.YteljlgelgkijlaaFI4
set_option linter.unusedVariables false
set_option linter.unusedSimpArgs false
set_option maxRecDepth 20000
namespace Go.E
open Go.H
attribute [local irreducible] BiN MkS ConvN LookN MapUpN CallV HC

/-- A law's end: true, and nothing turned. -/
def Fine (m : Mem) : Ending → Mem → Prop := fun e m' => e = .returned (.bool true) ∧ Le m m'
section
variable {ms mm : Mem} {bp : Nat} {bs : List UInt8} {size : Int} {f : Int → Bool} {log : List Int} {most : Int} {R : Ending → Mem → Prop}
theorem FT.new {Fp : Nat → Prop} (p : Pg mm Fp bp bs size f log) (hle : Le ms mm) (hfr : ∀ b, Fp b → ms b = none) (k : ∀ bf F G m', Le mm m' → FT ms m' F G bf bp bs size f log most [] → (∀ b, F b → Fp b ∨ mm b = none) → (∀ b, G b → mm b = none) → R (.returned (.pointer (some ⟨bf, 0, none⟩))) m') :
    HC P file_New.id #[.pointer (some ⟨bp, 0, none⟩), .int .i64 most] mm R := by
  refine FNew_spec p ?_
  intro bf F G m' h1 h2 h3 h4
  exact k bf F G m' h1 ⟨hle.trans h1, h4, fun b e => e.elim (fun e => (h2 b e).elim (hfr b) (fun x => hle.new x)) (fun e => hle.new (h3 b e))⟩ h2 h3
end
theorem begun_spec {m : Mem} {R : Ending → Mem → Prop} (k : ∀ m', Le m m' → R (.returned (.bool true)) m') : HC P eyotlaw5_begun.id #[] m R := by
  refine eyotlaw5_begun.ok _ _ ?_
  intro b9 hb9
  have hle0 := Le.set hb9 (.cells #[.int .u8 1, .int .u8 2, .int .u8 3, .int .u8 4, .int .u8 5] T_uint8 (0, 0))
  refine New_spec (bs := [1, 2, 3, 4, 5]) (cells_at (set_same _ _ _) rfl) rfl (fun h => by simp at h) ?_
  intro _ _ _ bp Fp m1 hle1 hfp p
  refine FT.new p (hle0.trans hle1) (fun b e => hle0.new (hfp b e)) ?_
  intro bf F G m2 hle2 hT _ _
  dsimp only [Cont]
  refine UnP.mk ?_
  refine BrNf rfl ?_
  refine Br.f rfl ?_
  refine Br.f rfl ?_
  refine Bytes_spec (w := 2) (a := 1) (b := 5) (ks' := [2, 1]) (log' := [0, 1, 2]) (ok := true) hT.fl (by decide) (by decide) (by decide) (by decide) ?_ (fun h => by cases h)
  intro _ F3 G3 m3 sa sc hch3 gF3 gG3 _ hfl3 hown3 hfr3
  have hT3 := hT.next hch3 gF3 gG3 hfl3
  refine At_spec (w := 2) (i := 4) (ks' := [2, 1]) (log' := [0, 1, 2]) (ok := true) hT3.fl (by decide) (by decide) (by decide) ?_ (fun h => by cases h)
  intro _ F4 G4 m4 hch4 gF4 gG4 _ hfl4
  have hT4 := hT3.next hch4 gF4 gG4 hfl4
  refine BrEt rfl ?_
  refine BrEt rfl ?_
  have hown4 := hown3.chg hch4 (fun b e => (hfr3 b e).2.1)
  refine IxS.u8s (i := 3) hown4.cells rfl (by decide) (by decide) ?_
  intro x hx
  cases hx
  refine UnI.mk ?_
  refine BrEt rfl ?_
  refine BrEt rfl ?_
  refine BrEt rfl ?_
  refine Kept_spec hT4.fl ?_
  intro m5 hle5
  dsimp only [Cont]
  refine UnI.mk ?_
  refine BrEt rfl ?_
  refine FLen_spec (hT4.fl.le hle5) ?_
  intro m6 hle6
  dsimp only [Cont]
  refine UnI.mk ?_
  exact k m6 ((hT4.le.trans hle5).trans hle6)

theorem tmod_nat (a n : Nat) : Int.tmod (a : Int) (n : Int) = ((a % n : Nat) : Int) := by rw [Int.tmod_eq_emod_of_nonneg (by omega)]; exact (Int.natCast_emod a n).symm
theorem min_nat {a b : Nat} {x y : Int} (hx : x = (a : Int)) (hy : y = (b : Int)) : (if x < y then x else y) = ((min a b : Nat) : Int) := by subst hx; subst hy; split <;> omega

theorem FileParts_m {m : Mem} {a : Option Addr} {l c : Nat} {bs : List UInt8} {n1 n2 n3 n4 n5 : Nat} (hc : CellsAt m a (u8s bs)) (hl : bs.length = l) (h1 : n1 < 256) (h2 : n2 < 256) (h3 : n3 < 256) (h4 : n4 < 256) (h5 : n5 < 256) :
    HC P eyotlaw5_FileParts.id #[.slice a l c, .int .u8 (n1 : Int), .int .u8 (n2 : Int), .int .u8 (n3 : Int), .int .u8 (n4 : Int), .int .u8 (n5 : Int)] m (Fine m) := by
  refine eyotlaw5_FileParts.ok _ _ _ _ _ _ _ _ _ _ ?_
  refine begun_spec ?_
  intro m1 hle1
  dsimp only [Cont]
  refine UnB.mk ?_
  refine Br.f rfl ?_
  refine BrE (fun _ => ⟨rfl, hle1⟩) (fun h0 => ?_)
  refine BrD (fun _ => ⟨rfl, hle1⟩) (fun h200 => ?_)
  have w1 : IntKind.i64.wrap ((n1 : Nat) : Int) = (n1 : Int) := wi (by omega) (by omega)
  have w3 : IntKind.i64.wrap ((n3 : Nat) : Int) = (n3 : Int) := wi (by omega) (by omega)
  have w4 : IntKind.i64.wrap ((n4 : Nat) : Int) = (n4 : Int) := wi (by omega) (by omega)
  have w5 : IntKind.i64.wrap ((n5 : Nat) : Int) = (n5 : Int) := wi (by omega) (by omega)
  rw [w1, w3, w4, w5]
  have e1 : IntKind.i64.wrap (1 + Int.tmod (n1 : Int) 30) = ((1 + n1 % 30 : Nat) : Int) := by
    rw [show (30 : Int) = ((30 : Nat) : Int) from rfl, tmod_nat, wi (by omega) (by omega)]; omega
  have e2 : IntKind.i64.wrap (Int.tmod (n2 : Int) 4) = ((n2 % 4 : Nat) : Int) := by
    rw [show (4 : Int) = ((4 : Nat) : Int) from rfl, tmod_nat, wi (by omega) (by omega)]
  have e3 : Int.tmod (n3 : Int) ((l : Nat) : Int) = ((n3 % l : Nat) : Int) := tmod_nat _ _
  rw [e1, e2, e3]
  have hfrom : n3 % l < l := Nat.mod_lt _ (by omega)
  generalize n3 % l = x at hfrom
  generalize hw : 1 + n1 % 30 = w
  have hw1 : 1 ≤ w := by omega
  have hw2 : w ≤ 30 := by omega
  have e4 : (if ((l : Nat) : Int) < IntKind.i64.wrap ((x : Int) + (n4 : Int)) then ((l : Nat) : Int) else IntKind.i64.wrap ((x : Int) + (n4 : Int))) = ((min l (x + n4) : Nat) : Int) := by
    rw [wi (by omega) (by omega)]; split <;> omega
  rw [e4]
  generalize hy : min l (x + n4) = y
  have e5 : (if ((l : Nat) : Int) < IntKind.i64.wrap ((y : Int) + (n5 : Int)) then ((l : Nat) : Int) else IntKind.i64.wrap ((y : Int) + (n5 : Int))) = ((min l (y + n5) : Nat) : Int) := by
    rw [wi (by omega) (by omega)]; split <;> omega
  rw [e5]
  generalize hz : min l (y + n5) = z
  have e6 : IntKind.i64.wrap ((x : Int) + 1) = ((x + 1 : Nat) : Int) := by rw [wi (by omega) (by omega)]; omega
  rw [e6]
  have hc1 := hc.le hle1
  refine New_spec hc1 hl (fun h => by omega) ?_
  intro _ _ _ bp Fp m2 hle2 hfp p
  refine FT.new p (hle1.trans hle2) (fun b e => hle1.new (hfp b e)) ?_
  intro bf F G m3 hle3 hT _ _
  dsimp only [Cont]
  refine UnP.mk ?_
  refine BrNf rfl ?_
  refine Br.f rfl ?_
  refine NzI.mk (by omega) ?_
  have base : ∀ {F : Nat → Prop} {m' : Mem}, Le m m' → CellsAt m' a (u8s bs) := fun h => hc.le h
  refine hT.bytes (a := x) (b := y) (by omega) (by omega) (by simp) ?_
  intro F4 G4 m4 sa4 sc4 log4 ks4 ch4 gF4 gG4 hT4 hl4 own4 fr4
  refine hT4.bytes (a := y) (b := z) (by omega) (by omega) (by simp at hl4; omega) ?_
  intro F5 G5 m5 sa5 sc5 log5 ks5 ch5 gF5 gG5 hT5 hl5 own5 fr5
  refine hT5.bytes (a := x) (b := z) (by omega) (by omega) (by simp at hl4; omega) ?_
  intro F6 G6 m6 sa6 sc6 log6 ks6 ch6 gF6 gG6 hT6 hl6 own6 fr6
  refine hT6.at (i := x) (by omega) (by simp at hl4; omega) ?_
  intro F7 G7 m7 log7 ks7 ch7 gF7 gG7 hT7 hl7
  refine hT7.bytes (a := x) (b := x + 1) (by omega) (by omega) (by simp at hl4; omega) ?_
  intro F8 G8 m8 sa8 sc8 log8 ks8 ch8 gF8 gG8 hT8 hl8 own8 fr8
  refine BrEt rfl ?_
  refine BrEt rfl ?_
  refine BrEt rfl ?_
  have o4 : Out m4 F4 sa4 (u8s (seg bs x y)) := ⟨own4.cells, fun b e => ⟨(fr4 b e).2.1, own4.live b e⟩⟩
  have o5 : Out m5 F5 sa5 (u8s (seg bs y z)) := ⟨own5.cells, fun b e => ⟨(fr5 b e).2.1, own5.live b e⟩⟩
  have o6 : Out m6 F6 sa6 (u8s (seg bs x z)) := ⟨own6.cells, fun b e => ⟨(fr6 b e).2.1, own6.live b e⟩⟩
  have o4' := (((o4.next ch5 gF5).next ch6 gF6).next ch7 gF7).next ch8 gF8
  have o5' := ((o5.next ch6 gF6).next ch7 gF7).next ch8 gF8
  have o6' := (o6.next ch7 gF7).next ch8 gF8
  refine ⟨seg bs x y, seg_len (by omega), o4'.at_, ?_⟩
  refine ⟨seg bs y z, seg_len (by omega), o5'.at_, ?_⟩
  have hjoin : seg bs x y ++ seg bs y z = seg bs x z := seg_join (by omega) (by omega)
  have hl1 : (seg bs x y).length = y - x := seg_len (by omega)
  have hl2 : (seg bs y z).length = z - y := seg_len (by omega)
  refine ⟨by simp [ByteArray.size]; omega, ?_⟩
  refine ⟨seg bs x z, seg_len (by omega), o6'.at_, ?_⟩
  refine Br.t ?_ ?_
  · have : (ByteArray.mk (seg bs x y).toArray ++ ByteArray.mk (seg bs y z).toArray) = ByteArray.mk (seg bs x z).toArray := by
      rw [← hjoin]; apply ByteArray.ext; simp
    rw [this]; exact beq_self_eq_true _
  refine BrEt rfl ?_
  refine BrEt rfl ?_
  rw [show x + 1 - x = 1 by omega] at own8 ⊢
  refine BrEt rfl ?_
  have hs : seg bs x (x + 1) = [bs[x]] := by
    unfold seg
    rw [show x + 1 - x = 1 by omega, List.drop_eq_getElem_cons (by omega)]; rfl
  rw [hs] at own8
  refine IxS.u8s (i := 0) own8.cells rfl (by decide) (show (0 : Int) < ((1 : Nat) : Int) by decide) ?_
  intro v hv
  cases hv
  refine UnI.mk ?_
  refine BrEt rfl ?_
  refine IxS.u8s (hc.le hT8.le) hl (by omega) (by omega) ?_
  intro v hv
  rw [Int.toNat_natCast, List.getElem?_eq_getElem (by omega)] at hv
  cases hv
  refine UnI.mk ?_
  exact ⟨by rw [beq_self_eq_true], hT8.le⟩
theorem FileParts_arg {W : World} {v0 v1 v2 v3 v4 v5 : Value} (a0 : Arg P W T_sl_uint8 v0) (a1 : Arg P W T_uint8 v1) (a2 : Arg P W T_uint8 v2) (a3 : Arg P W T_uint8 v3) (a4 : Arg P W T_uint8 v4) (a5 : Arg P W T_uint8 v5) :
    HC P eyotlaw5_FileParts.id #[v0, v1, v2, v3, v4, v5] (heapM W) (Fine (heapM W)) := by
  have num : ∀ {v : Value}, Arg P W T_uint8 v → ∃ n : Nat, v = .int .u8 (n : Int) ∧ n < 256 := by
    intro v h
    obtain ⟨n, rfl, hw⟩ := h.int (k := .u8) (by kernel_rfl)
    have hn := wf_u8 hw
    exact ⟨n.toNat, by rw [Int.toNat_of_nonneg hn.1], by omega⟩
  obtain ⟨a, l, c, bs, rfl, hlc, hl, _, hx⟩ := a0.u8s (e := T_uint8) (by kernel_rfl) (by kernel_rfl)
  obtain ⟨n1, rfl, h1⟩ := num a1
  obtain ⟨n2, rfl, h2⟩ := num a2
  obtain ⟨n3, rfl, h3⟩ := num a3
  obtain ⟨n4, rfl, h4⟩ := num a4
  obtain ⟨n5, rfl, h5⟩ := num a5
  exact FileParts_m hx (by rw [List.length_take]; omega) h1 h2 h3 h4 h5
end Go.E
