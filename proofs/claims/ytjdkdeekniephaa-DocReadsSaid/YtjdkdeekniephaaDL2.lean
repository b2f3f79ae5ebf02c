/- Layer 7: DocParts. -/
import Derived.Test.YtjdkdeekniephaaDL1
set_option linter.unusedVariables false
set_option linter.unusedSimpArgs false
set_option maxRecDepth 20000
namespace Go.E
open Go.H Go.E.Pz
attribute [local irreducible] BiN MkS ConvN LookN MapUpN CallV HC

theorem cut_join (L : List UInt8) {x y z : Nat} (h1 : x ≤ y) (h2 : y ≤ z) : (L.take y).drop x ++ (L.take z).drop y = (L.take z).drop x := by
  have := seg_join (bs := L) h1 h2
  unfold seg at this
  rw [List.drop_take, List.drop_take, List.drop_take]; exact this
theorem TS.base' {ms ms' mm : Mem} {F : Nat → Prop} {bt : Nat} {ps : List Pc} {ad : List UInt8} {B : Nat} (h : TS ms mm F bt ps ad B) (k : Le ms' ms) : TS ms' mm F bt ps ad B := ⟨k.trans h.le, h.tx, fun b e => k.new (h.fr b e), h.gd⟩
theorem DocParts_m {m : Mem} {a : Option Addr} {l c : Nat} {bs : List UInt8} {a' : Option Addr} {l' c' : Nat} {s : List UInt8} {n1 n2 n3 n4 n5 : Nat} (hc : CellsAt m a (u8s bs)) (hl : bs.length = l) (hc' : CellsAt m a' (u8s s)) (hl' : s.length = l') (h1 : n1 < 256) (h2 : n2 < 256) (h3 : n3 < 256) (h4 : n4 < 256) (h5 : n5 < 256) :
    HC P eyotlaw7_DocParts.id #[.slice a l c, .slice a' l' c', .int .u8 (n1 : Int), .int .u8 (n2 : Int), .int .u8 (n3 : Int), .int .u8 (n4 : Int), .int .u8 (n5 : Int)] m (Fine m) := by
  refine eyotlaw7_DocParts.ok _ _ _ _ _ _ _ _ _ _ _ _ _ ?_
  refine begun_spec ?_
  intro m1 hle1
  dsimp only [Cont]
  refine UnB.mk ?_
  refine Br.f rfl ?_
  refine BrD (fun _ => ⟨rfl, hle1⟩) (fun hb1 => ?_)
  refine BrD (fun _ => ⟨rfl, hle1⟩) (fun hb2 => ?_)
  rw [wi (n := ((l : Nat) : Int) + ((l' : Nat) : Int)) (by omega) (by omega)]
  refine BrE (fun _ => ⟨rfl, hle1⟩) (fun h0 => ?_)
  have w1 : ∀ n : Nat, n < 256 → IntKind.i64.wrap ((n : Nat) : Int) = (n : Int) := fun n h => wi (by omega) (by omega)
  rw [w1 n1 h1, w1 n2 h2, w1 n3 h3, w1 n4 h4]
  have e1 : IntKind.i64.wrap (1 + Int.tmod (n2 : Int) 20) = ((1 + n2 % 20 : Nat) : Int) := by
    rw [show (20 : Int) = ((20 : Nat) : Int) from rfl, tmod_nat, wi (by omega) (by omega)]; omega
  have e2 : Int.tmod (n1 : Int) (((l : Nat) : Int) + 1) = ((n1 % (l + 1) : Nat) : Int) := by rw [show ((l : Nat) : Int) + 1 = ((l + 1 : Nat) : Int) by omega, tmod_nat]
  have e3 : Int.tmod (n3 : Int) (((l : Nat) : Int) + ((l' : Nat) : Int)) = ((n3 % (l + l') : Nat) : Int) := by rw [show ((l : Nat) : Int) + ((l' : Nat) : Int) = ((l + l' : Nat) : Int) by omega, tmod_nat]
  have hat : n1 % (l + 1) < l + 1 := Nat.mod_lt _ (by omega)
  have hfrom : n3 % (l + l') < l + l' := Nat.mod_lt _ (by omega)
  rw [e1, wi (n := ((l : Nat) : Int) + 1) (by omega) (by omega), e2, e3]
  generalize n1 % (l + 1) = k at hat
  generalize n3 % (l + l') = x at hfrom
  generalize hw : 1 + n2 % 20 = w
  have e4 : (if ((l : Nat) : Int) + ((l' : Nat) : Int) < IntKind.i64.wrap ((x : Int) + (n4 : Int)) then ((l : Nat) : Int) + ((l' : Nat) : Int) else IntKind.i64.wrap ((x : Int) + (n4 : Int))) = ((min (l + l') (x + n4) : Nat) : Int) := by
    rw [wi (by omega) (by omega)]; split <;> omega
  rw [e4]
  generalize hy : min (l + l') (x + n4) = y
  refine New_spec (hc.le hle1) hl (fun h => by omega) ?_
  intro _ _ _ bp Fp m2 hle2 hfp p
  refine TS.new (ms := m2) (n := ((l : Nat) : Int)) (B := 10000) (by omega) (by decide) ?_
  intro bt T m3 hS
  dsimp only [Cont]
  refine UnP.mk ?_
  refine NzI.mk (by omega) ?_
  have hm2 := hle1.trans hle2
  have hi0 : Ins bs.length [] (byt (newL ((l : Nat) : Int))) := by rw [← hl]; exact ins_new _ []
  have hs0 : spl bs [] (byt (newL ((l : Nat) : Int))) = bs := by rw [← hl]; exact spl_new bs []
  have hsp := spl_edit (base := bs) (a := (k : Int)) (b := (k : Int)) (s := s) hS.gd hi0 (by omega)
  rw [hs0] at hsp
  have hl4 : (byt (newL ((l : Nat) : Int))).length = l := new_len l
  have hTF : ∀ x, T x → ¬ Fp x := fun x e y => p.lv x y (hS.fr x e)
  rw [← hl']
  refine hS.edit (a := (k : Int)) (b := (k : Int)) (s := s) (by omega) (by omega) (by rw [hl4]; omega) (hc'.le hm2) (by omega) (by omega) ?_
  intro T' m4 hch4 hT' hS5
  dsimp only [Cont]
  refine UnI.mk ?_
  have p3 := p.le hS.le
  refine DT.new (B0 := 0) (w := w) (p3.chg hch4 (fun b e x => hTF b x e)) (TS.base' hS5 hm2) (fun b e => hle1.new (hfp b e)) ?_ (ins_edit hS.gd hi0 (by omega)) ?_
  · intro b e z
    rcases hT' b e with x | x
    · exact hTF b x z
    · exact p3.lv b z x
  intro bd bf F G m5 hle5 _ hD
  dsimp only [Cont]
  refine UnP.mk ?_
  refine NzI.mk (by omega) ?_
  generalize edL (newL ((l : Nat) : Int)) [] (k : Int) (k : Int) s = ps at hsp hD
  obtain ⟨L, hL⟩ : ∃ L, L = spl bs ([] ++ s) (byt ps) := ⟨_, rfl⟩
  have hlen : (byt ps).length = l + l' := by rw [← spl_len bs ([] ++ s), hsp]; simp; omega
  have hLl : L.length = l + l' := by rw [hL, spl_len, hlen]
  unfold eyotlaw7_DocParts.k1
  rw [w1 n5 h5, hl']
  have e5 : (if ((l : Nat) : Int) + ((l' : Nat) : Int) < IntKind.i64.wrap ((y : Int) + (n5 : Int)) then ((l : Nat) : Int) + ((l' : Nat) : Int) else IntKind.i64.wrap ((y : Int) + (n5 : Int))) = ((min (l + l') (y + n5) : Nat) : Int) := by
    rw [wi (by omega) (by omega)]; split <;> omega
  rw [e5]
  generalize hz : min (l + l') (y + n5) = z
  have e6 : IntKind.i64.wrap ((x : Int) + 1) = ((x + 1 : Nat) : Int) := by rw [wi (by omega) (by omega)]; omega
  rw [e6]
  refine hD.bytes (a := x) (b := y) (by omega) (by omega) (by simp) ?_
  intro F4 G4 m4 sa4 sc4 log4 ks4 ch4 gF4 gG4 hT4 hl4 own4 fr4
  refine hT4.bytes (a := y) (b := z) (by omega) (by omega) (by simp at hl4; omega) ?_
  intro F5 G5 m5 sa5 sc5 log5 ks5 ch5 gF5 gG5 hT5 hl5 own5 fr5
  refine hT5.bytes (a := x) (b := z) (by omega) (by omega) (by simp at hl4; omega) ?_
  intro F6 G6 m6 sa6 sc6 log6 ks6 ch6 gF6 gG6 hT6 hl6 own6 fr6
  refine hT6.at (i := x) (by omega) (by simp at hl4; omega) ?_
  intro F7 G7 m7 v log7 ks7 ch7 gF7 gG7 hT7 hl7 hv
  refine hT7.bytes (a := x) (b := x + 1) (by omega) (by omega) (by simp at hl4; omega) ?_
  intro F8 G8 m8 sa8 sc8 log8 ks8 ch8 gF8 gG8 hT8 hl8 own8 fr8
  rw [← hL] at own4 own5 own6 own8 hv
  refine BrEt rfl ?_
  refine BrEt rfl ?_
  refine BrEt rfl ?_
  refine BrEt rfl ?_
  have o4 : Out m4 F4 sa4 _ := ⟨own4.cells, fun b e => ⟨(fr4 b e).2.1, own4.live b e⟩⟩
  have o5 : Out m5 F5 sa5 _ := ⟨own5.cells, fun b e => ⟨(fr5 b e).2.1, own5.live b e⟩⟩
  have o6 : Out m6 F6 sa6 _ := ⟨own6.cells, fun b e => ⟨(fr6 b e).2.1, own6.live b e⟩⟩
  have o4' := (((o4.next ch5 gF5).next ch6 gF6).next ch7 gF7).next ch8 gF8
  have o5' := ((o5.next ch6 gF6).next ch7 gF7).next ch8 gF8
  have o6' := (o6.next ch7 gF7).next ch8 gF8
  have lcut : ∀ {i j : Nat}, j ≤ l + l' → ((L.take j).drop i).length = j - i := by intro i j h; rw [List.length_drop, List.length_take]; omega
  refine ⟨_, lcut (by omega), o4'.at_, ?_⟩
  refine ⟨_, lcut (by omega), o5'.at_, ?_⟩
  have hjoin := cut_join L (x := x) (y := y) (z := z) (by omega) (by omega)
  have hl1 := lcut (i := x) (j := y) (by omega)
  have hl2 := lcut (i := y) (j := z) (by omega)
  refine ⟨by simp [ByteArray.size]; omega, ?_⟩
  refine ⟨_, lcut (by omega), o6'.at_, ?_⟩
  refine Br.t ?_ ?_
  · have : (ByteArray.mk ((L.take y).drop x).toArray ++ ByteArray.mk ((L.take z).drop y).toArray) = ByteArray.mk ((L.take z).drop x).toArray := by
      rw [← hjoin]; apply ByteArray.ext; simp
    rw [this]; exact beq_self_eq_true _
  refine BrEt rfl ?_
  refine BrEt rfl ?_
  rw [show x + 1 - x = 1 by omega] at own8 ⊢
  refine BrEt rfl ?_
  refine IxS.u8s (i := 0) own8.cells (by rw [lcut (by omega)]; omega) (by decide) (show (0 : Int) < ((1 : Nat) : Int) by decide) ?_
  intro u hu
  rw [show (0 : Int).toNat = 0 from rfl, List.getElem?_drop, List.getElem?_take_of_lt (by omega), Nat.add_zero, hv] at hu
  cases hu
  refine UnI.mk ?_
  exact ⟨by rw [beq_self_eq_true], hT8.le⟩
theorem DocParts_arg {W : World} {v0 v1 v2 v3 v4 v5 v6 : Value} (a0 : Arg P W T_sl_uint8 v0) (a1 : Arg P W T_sl_uint8 v1) (a2 : Arg P W T_uint8 v2) (a3 : Arg P W T_uint8 v3) (a4 : Arg P W T_uint8 v4) (a5 : Arg P W T_uint8 v5) (a6 : Arg P W T_uint8 v6) :
    HC P eyotlaw7_DocParts.id #[v0, v1, v2, v3, v4, v5, v6] (heapM W) (Fine (heapM W)) := by
  obtain ⟨a, l, c, bs, rfl, hlc, hl, _, hx⟩ := a0.u8s (e := T_uint8) (by kernel_rfl) (by kernel_rfl)
  obtain ⟨a', l', c', bs', rfl, hlc', hl', _, hx'⟩ := a1.u8s (e := T_uint8) (by kernel_rfl) (by kernel_rfl)
  obtain ⟨n1, rfl, h1⟩ := num8 a2
  obtain ⟨n2, rfl, h2⟩ := num8 a3
  obtain ⟨n3, rfl, h3⟩ := num8 a4
  obtain ⟨n4, rfl, h4⟩ := num8 a5
  obtain ⟨n5, rfl, h5⟩ := num8 a6
  exact DocParts_m hx (by rw [List.length_take]; omega) hx' (by rw [List.length_take]; omega) h1 h2 h3 h4 h5
end Go.E
