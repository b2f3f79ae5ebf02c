/- Layer 8: ClassJoins. -/
import Derived.Test.YtpbnhcggfgegkaaDoorKL4
set_option linter.unusedVariables false
set_option linter.unusedSimpArgs false
set_option maxRecDepth 20000
namespace Go.E
open Go.H
attribute [local irreducible] BiN MkS ConvN LookN MapUpN CallV HC limb dbTab

/-- Signs of bytes, one behind the other. -/
def sgsT (bs : List UInt8) : List UInt8 := bs.flatMap fun b => hx b.toNat
def toksOf (bs : List UInt8) : List Tok := bs.map fun b => (hx b.toNat, b.toNat, b.toNat)
theorem u8_lt (b : UInt8) : b.toNat < 256 := by have := UInt8.toNat_lt b; omega
theorem toksOf_PT (bs : List UInt8) : ∀ x ∈ toksOf bs, PT x.1 x.2.1 x.2.2 := by
  intro x h
  unfold toksOf at h
  rw [List.mem_map] at h
  obtain ⟨b, _, rfl⟩ := h
  exact PT.hx (u8_lt b)
theorem tokT_of (bs : List UInt8) : tokT (toksOf bs) = sgsT bs := by simp [tokT, toksOf, sgsT, List.flatMap_map]
theorem tokS_of (bs : List UInt8) (c : Nat) : tokS (toksOf bs) c = inB bs c := by
  unfold tokS toksOf inB
  rw [List.any_map]
  congr 1
  funext b
  simp only [Function.comp, fromTo]
  rw [Bool.eq_iff_iff]; simp; omega
theorem sgsT_append (a b : List UInt8) : sgsT (a ++ b) = sgsT a ++ sgsT b := by simp [sgsT]
theorem sgsT_len (a : List UInt8) : (sgsT a).length = 4 * a.length := by
  induction a with
  | nil => rfl
  | cons x a ih =>
    rw [show x :: a = [x] ++ a from rfl, sgsT_append, List.length_append, ih]
    simp [sgsT, hx]; omega
theorem sgsT_take {bs : List UInt8} {j : Nat} {x : UInt8} (h : bs[j]? = some x) : sgsT (bs.take j) ++ hx x.toNat = sgsT (bs.take (j + 1)) := by
  rw [List.take_add_one, h, sgsT_append]; simp [sgsT]
theorem cls_sgs {bs : List UInt8} (hne : bs ≠ []) (hl : bs.length ≤ 8) (other : Bool) :
    cls ((if other = true then [91, 94] else [91]) ++ (sgsT bs ++ [93])) = some (fun c => if other = true then !(inB bs c) else inB bs c, (if other = true then 2 else 1) + (sgsT bs).length + 1) := by
  have h := cls_toks (more := []) (toksOf_PT bs) (by simpa [toksOf] using hne) other
  rw [tokT_of] at h
  unfold cls
  rw [h]
  dsimp only
  have hf : (fun c => if other = true then !tokS (toksOf bs) c else tokS (toksOf bs) c) = fun c => if other = true then !(inB bs c) else inB bs c := by
    funext c; rw [tokS_of]
  rw [hf, if_neg]
  cases other with
  | false =>
    cases bs with
    | nil => exact absurd rfl hne
    | cons x bs => exact empty_not (u8_lt x) (by simp [inB])
  | true =>
    -- one of nine bytes is none of eight
    intro he
    have h1 := empty_all he
    have h2 : ∀ c, c < 9 → inB bs c = true := fun c hc => by have := h1 c (by omega); simpa using this
    have h3 : (List.range 9).Subset (bs.map UInt8.toNat) := by
      intro c hc
      have := h2 c (List.mem_range.mp hc)
      unfold inB at this
      rw [List.any_eq_true] at this
      obtain ⟨x, hx, e⟩ := this
      rw [List.mem_map]
      exact ⟨x, hx, (beq_iff_eq.mp e).symm⟩
    have h4 := (List.nodup_range (n := 9)).length_le_of_subset h3
    simp at h4; omega

theorem eq4' {f g : Nat → Bool} (h : ∀ b, b < 256 → f b = g b) : eqL [.int .u64 (L f 0), .int .u64 (L f 1), .int .u64 (L f 2), .int .u64 (L f 3)] [.int .u64 (L g 0), .int .u64 (L g 1), .int .u64 (L g 2), .int .u64 (L g 3)] = true := (eq4 f g).mpr h
theorem inB_app (a b : List UInt8) (c : Nat) : inB (a ++ b) c = (inB a c || inB b c) := by simp [inB]
section
variable {m0 m : Mem} {xa ya : Option Addr} {xl xc yl yc : Nat} {a b : List UInt8}
theorem joins_k4 (hG : Glob m0) (hle : Le m0 m) (hx : CellsAt m0 xa (u8s a)) (hy : CellsAt m0 ya (u8s b)) (hxl : a.length = xl) (hyl : b.length = yl) (h1 : 0 < xl) (h4 : xl ≤ 4) (h5 : yl ≤ 4) :
    eyotlaw8_ClassJoins.k4 xa xl xc ya yl yc (bstr (sgsT (a ++ b))) (Fine m0) m := by
  have hlen := sgsT_len (a ++ b)
  rw [List.length_append] at hlen
  have hne : a ++ b ≠ [] := by intro h; rw [List.append_eq_nil_iff] at h; rw [h.1] at hxl; simp at hxl; omega
  have hl8 : (a ++ b).length ≤ 8 := by rw [List.length_append]; omega
  have cf := cls_sgs hne hl8 false
  have ct := cls_sgs hne hl8 true
  simp only [Bool.false_eq_true, if_false] at cf
  simp only [if_true] at ct
  have e2 : ByteArray.mk #[91] ++ bstr (sgsT (a ++ b)) = bstr ([91] ++ sgsT (a ++ b)) := bstr_append [91] _
  have e3 : bstr ([91] ++ sgsT (a ++ b)) ++ ByteArray.mk #[93] = bstr ([91] ++ (sgsT (a ++ b) ++ [93])) := by
    rw [show (ByteArray.mk #[93]) = bstr [93] from rfl, bstr_append, List.append_assoc]
  have e4 : ByteArray.mk #[91, 94] ++ bstr (sgsT (a ++ b)) = bstr ([91, 94] ++ sgsT (a ++ b)) := bstr_append [91, 94] _
  have e5 : bstr ([91, 94] ++ sgsT (a ++ b)) ++ ByteArray.mk #[93] = bstr ([91, 94] ++ (sgsT (a ++ b) ++ [93])) := by
    rw [show (ByteArray.mk #[93]) = bstr [93] from rfl, bstr_append, List.append_assoc]
  unfold eyotlaw8_ClassJoins.k4
  rw [e2, e3, e4, e5]
  have hsz : (bstr (sgsT (a ++ b))).size = 4 * (a.length + b.length) := by rw [bstr_size]; exact hlen
  refine ⟨by rw [hsz]; show 1 + _ ≤ _; omega, ?_⟩
  refine ⟨by rw [bstr_size]; show _ + 1 ≤ _; simp [hlen]; omega, ?_⟩
  refine Parse_any (hG.le hle) (by rw [bstr_size]; simp [hlen]; omega) ?_
  rw [lst_bstr, cf]
  intro m1 hle1
  refine ContP.mk ?_
  refine own4 ?_
  intro b8 m2 hle2 hb8 e8
  have hl2 := (hle.trans hle1).trans hle2
  refine ⟨by rw [hsz]; show 2 + _ ≤ _; omega, ?_⟩
  refine ⟨by rw [bstr_size]; show _ + 1 ≤ _; simp [hlen]; omega, ?_⟩
  refine Parse_any (hG.le hl2) (by rw [bstr_size]; simp [hlen]; omega) ?_
  rw [lst_bstr, ct]
  intro m3 hle3
  refine ContP.mk ?_
  refine own4 ?_
  intro b11 m4 hle4 hb11 e11
  have hl4 := (hl2.trans hle3).trans hle4
  refine Of_spec (hx.le hl4) hxl (by omega) ?_
  intro m5 hle5
  refine ContSet.mk ?_
  refine Of_spec (hy.le (hl4.trans hle5)) hyl (by omega) ?_
  intro m6 hle6
  refine ContSet.mk ?_
  refine Or_spec ?_
  intro m7 hle7
  refine ContSet.mk ?_
  refine own4 ?_
  intro b14 m8 hle8 hb14 e14
  have hl8' := (((hl4.trans hle5).trans hle6).trans hle7).trans hle8
  have e11' := hle8 _ _ (hle7 _ _ (hle6 _ _ (hle5 _ _ e11)))
  have e8' := hle8 _ _ (hle7 _ _ (hle6 _ _ (hle5 _ _ (hle4 _ _ (hle3 _ _ e8)))))
  refine ⟨m8, Le.refl _, ?_⟩
  refine BrEt rfl ?_
  refine BrEt ?_ ?_
  · rw [hsz, wi (by omega) (by omega)]
    show ((1 + (sgsT (a ++ b)).length + 1 : Nat) : Int) = _
    omega
  refine get4 e8' ?_
  refine get4 e14 ?_
  refine Br.t (eq4' fun c _ => inB_app a b c) ?_
  refine BrEt rfl ?_
  refine BrEt ?_ ?_
  · rw [hsz, wi (by omega) (by omega)]
    show ((2 + (sgsT (a ++ b)).length + 1 : Nat) : Int) = _
    omega
  refine get4 e11' ?_
  refine get4 e14 ?_
  refine Not_spec ?_
  intro m9 hle9
  refine ContSet.mk ?_
  refine Lk.all hle9 ?_
  refine Br.t (eq4' fun c _ => congrArg not (inB_app a b c)) ?_
  refine get4 (hle9 _ _ e8') ?_
  refine get4 (hle9 _ _ e14) ?_
  refine Show_spec ?_
  intro m10 hle10
  dsimp only [Cont]
  refine UnStr.mk (Lk.all hle10 ?_)
  refine ShowClass_spec ?_
  intro m11 hle11
  dsimp only [Cont]
  refine UnStr.mk ?_
  refine ⟨?_, ((hl8'.trans hle9).trans hle10).trans hle11⟩
  have : shW (fun c => inB a c || inB b c) = shW (inB (a ++ b)) := by congr 1; funext c; rw [inB_app]
  rw [this, show (res (some (fun c => inB (a ++ b) c, 1 + (sgsT (a ++ b)).length + 1))).1 = inB (a ++ b) from rfl]
  rw [beq_self_eq_true]
theorem ClassJoins_m (hG : Glob m) (hx : CellsAt m xa (u8s a)) (hy : CellsAt m ya (u8s b)) (hxl : a.length = xl) (hyl : b.length = yl) :
    HC P eyotlaw8_ClassJoins.id #[.slice xa xl xc, .slice ya yl yc] m (Fine m) := by
  refine eyotlaw8_ClassJoins.ok _ _ _ _ _ _ _ _ ?_
  refine begun_spec hG ?_
  intro m1 hle1
  dsimp only [Cont]
  refine UnB.mk ?_
  refine Br.f rfl ?_
  refine BrE (fun _ => ⟨rfl, hle1⟩) (fun h1 => ?_)
  refine BrE (fun _ => ⟨rfl, hle1⟩) (fun h2 => ?_)
  refine BrD (fun _ => ⟨rfl, hle1⟩) (fun h3 => ?_)
  refine BrD (fun _ => ⟨rfl, hle1⟩) (fun h4 => ?_)
  refine ⟨fun N pa pl pc qa ql qc s i mm => pa = xa ∧ pl = xl ∧ pc = xc ∧ qa = ya ∧ ql = yl ∧ qc = yc ∧ Le m mm ∧ ∃ j : Nat, i = j ∧ N = xl - j ∧ j ≤ xl ∧ s = bstr (sgsT (a.take j)), xl, ⟨rfl, rfl, rfl, rfl, rfl, rfl, hle1, 0, rfl, rfl, by omega, rfl⟩, ?_⟩
  rintro N pa pl pc qa ql qc s i mm ⟨rfl, rfl, rfl, rfl, rfl, rfl, hle, j, rfl, rfl, hj, rfl⟩
  refine BrD (fun hlt => ?_) (fun hge => ?_)
  · refine IxS.u8s (hx.le hle) hxl (by omega) hlt ?_
    intro x hxx
    rw [Int.toNat_natCast] at hxx
    refine UnI.mk ?_
    refine lsign_spec (u8_lt x) ?_
    intro m2 hle2
    dsimp only [Cont]
    have hs := sgsT_len (a.take j)
    have ht : (a.take j).length ≤ j := by rw [List.length_take]; omega
    refine UnStr.mk (CatB_bs (by rw [hs]; show _ + 4 ≤ _; omega) ?_)
    rw [bstr_append, sgsT_take hxx]
    refine ⟨_, ?_, rfl, rfl, rfl, rfl, rfl, rfl, hle.trans hle2, j + 1, ?_, rfl, by omega, rfl⟩
    · omega
    · rw [wi (by omega) (by omega)]; omega
  have hj : j = a.length := by omega
  subst hj
  rw [List.take_length]
  refine ⟨fun N ra rl rc ta tl tc s i mm' => ra = pa ∧ rl = pl ∧ rc = pc ∧ ta = qa ∧ tl = ql ∧ tc = qc ∧ Le m mm' ∧ ∃ j : Nat, i = j ∧ N = ql - j ∧ j ≤ ql ∧ s = bstr (sgsT (a ++ b.take j)), ql, ⟨rfl, rfl, rfl, rfl, rfl, rfl, hle, 0, rfl, rfl, by omega, by simp⟩, ?_⟩
  rintro N ra rl rc ta tl tc s i mm' ⟨rfl, rfl, rfl, rfl, rfl, rfl, hle', j, rfl, rfl, hj', rfl⟩
  refine BrD (fun hlt => ?_) (fun hge' => ?_)
  · refine IxS.u8s (hy.le hle') hyl (by omega) hlt ?_
    intro x hxx
    rw [Int.toNat_natCast] at hxx
    refine UnI.mk ?_
    refine lsign_spec (u8_lt x) ?_
    intro m2 hle2
    dsimp only [Cont]
    have hs := sgsT_len (a ++ b.take j)
    have ht : (b.take j).length ≤ j := by rw [List.length_take]; omega
    rw [List.length_append] at hs
    refine UnStr.mk (CatB_bs (by rw [hs]; show _ + 4 ≤ _; omega) ?_)
    rw [bstr_append]
    refine ⟨_, ?_, rfl, rfl, rfl, rfl, rfl, rfl, hle'.trans hle2, j + 1, ?_, rfl, by omega, ?_⟩
    · omega
    · rw [wi (by omega) (by omega)]; omega
    · rw [sgsT_append, List.append_assoc, sgsT_take hxx, sgsT_append]
  have hj2 : j = b.length := by omega
  subst hj2
  rw [List.take_length]
  exact joins_k4 hG hle' hx hy hxl hyl (by omega) (by omega) (by omega)
end
theorem ClassJoins_arg {W : World} {v w : Value} (hG : Glob (heapM W)) (h : Arg P W T_sl_uint8 v) (h2 : Arg P W T_sl_uint8 w) : HC P eyotlaw8_ClassJoins.id #[v, w] (heapM W) (Fine (heapM W)) := by
  obtain ⟨a, l, c, bs, rfl, hlc, hl, _, hx⟩ := h.u8s (e := T_uint8) (by kernel_rfl) (by kernel_rfl)
  obtain ⟨a2, l2, c2, bs2, rfl, hlc2, hl2, _, hx2⟩ := h2.u8s (e := T_uint8) (by kernel_rfl) (by kernel_rfl)
  exact ClassJoins_m hG hx hx2 (by rw [List.length_take]; omega) (by rw [List.length_take]; omega)
end Go.E
