/- Layer 8: ClassRuns, ClassJoins. -/
import Derived.Test.YtpbnhcggfgegkaaDoorSH5
import Derived.Test.YtpbnhcggfgegkaaDoorKL3
set_option linter.unusedVariables false
set_option linter.unusedSimpArgs false
set_option maxRecDepth 20000
namespace Go.E
open Go.H
attribute [local irreducible] BiN MkS ConvN LookN MapUpN CallV HC limb dbTab

theorem lsign_spec {c : Nat} (hc : c < 256) {m : Mem} {R : Ending → Mem → Prop} (k : ∀ m', Le m m' → R (.returned (.string (bstr (hx c)))) m') : HC P eyotlaw8_sign.id #[.int .u8 (c : Int), .string hexB] m R := by
  refine eyotlaw8_sign.ok _ _ _ _ ?_
  refine ⟨m, Le.refl _, ?_⟩
  rw [byte_d16 hc, byte_m16]
  refine ⟨by omega, by show ((c / 16 : Nat) : Int) < 16; omega, ?_⟩
  refine ⟨by omega, by show ((c % 16 : Nat) : Int) < 16; omega, ?_⟩
  have h1 := hex_bt (c / 16) (by omega)
  have h2 := hex_bt (c % 16) (by omega)
  rw [h1, h2]
  intro b hb
  refine ⟨[92, 120, hexd (c / 16), hexd (c % 16)], rfl, cells_at (set_same _ _ _) rfl, ?_⟩
  exact k _ (Le.set hb _)

/-- The text of a range of signs. -/
def rgT (a b : Nat) (other : Bool) : List UInt8 := (if other = true then [91, 94] else [91]) ++ ((hx a ++ ([45] ++ hx b)) ++ [93])
theorem cls_rg {a b : Nat} (hab : a ≤ b) (hb : b < 256) (other : Bool) : cls0 (rgT a b other) = some (fun c => if other = true then !(fromTo a b c) else fromTo a b c, (rgT a b other).length) := by
  have h := cls_toks (ts := [(hx a ++ ([45] ++ hx b), a, b)]) (more := []) (by intro x hx; rw [List.mem_singleton] at hx; subst hx; exact PT.hx2 hab hb) (by simp) other
  have e : tokT [(hx a ++ ([45] ++ hx b), a, b)] = hx a ++ ([45] ++ hx b) := by simp [tokT]
  rw [e] at h
  unfold rgT
  rw [h]
  congr 2
  · funext c; simp [tokS]
  · cases other <;> simp <;> omega
theorem prt_rg {a b : Nat} (hb : b < a) (ha : a < 256) {l rest : List UInt8} {i : Nat} (h : l.drop i = hx a ++ ([45] ++ (hx b ++ rest))) : prt l i = none := by
  unfold prt
  rw [sgn_at h (sgn_hx ha _)]
  dsimp only
  have h2 := drop_more (t := hx a) h
  have n1 : nx l (i + 4) = 45 := by have := nx_rest (t := hx a) h; exact this
  rw [n1, if_neg (by simp)]
  have h3 : l.drop (i + 4 + 1) = hx b ++ rest := by rw [← List.drop_drop, show l.drop (i + 4) = _ from h2]; rfl
  rw [sgn_at h3 (sgn_hx (by omega) _)]
  dsimp only
  rw [if_pos hb]
theorem cls_rg_none {a b : Nat} (hb : b < a) (ha : a < 256) (other : Bool) : cls (rgT a b other) = none := by
  have n0 : nx (rgT a b other) 0 = 91 := by cases other <;> rfl
  have n1 : (nx (rgT a b other) 1 = 94) = (other = true) := by
    cases other
    · have : nx (rgT a b false) 1 = 92 := rfl
      rw [this]; simp
    · have : nx (rgT a b true) 1 = 94 := rfl
      rw [this]; simp
  have hd : (rgT a b other).drop (if other = true then 2 else 1) = hx a ++ ([45] ++ (hx b ++ [93])) := by
    unfold rgT
    rw [List.append_assoc, List.append_assoc]
    cases other <;> rfl
  unfold cls cls0
  rw [if_neg (by omega), if_pos n0]
  simp only [n1]
  rw [prt_rg hb ha hd]
theorem emptyS_congr {f g : Nat → Bool} (h : ∀ b, b < 256 → f b = g b) : emptyS f = emptyS g := by
  unfold emptyS
  rw [Bool.eq_iff_iff, List.all_eq_true, List.all_eq_true]
  constructor
  · intro k x hx; rw [← h x (List.mem_range.mp hx)]; exact k x hx
  · intro k x hx; rw [h x (List.mem_range.mp hx)]; exact k x hx
theorem empty_of {f : Nat → Bool} (h : ∀ b, b < 256 → f b = false) : emptyS f = true := by
  unfold emptyS
  rw [List.all_eq_true]
  intro x hx
  rw [h x (List.mem_range.mp hx)]; rfl

section
variable {a b : Nat} {other : Bool} {m0 m m1 : Mem}
theorem runs_k4 (ha : a < 256) (hb : b < 256) (hle : Le m0 m) {b9 : Nat} {S : Nat → Bool} (hS : ∀ c, S c = if other = true then !(fromTo a b c) else fromTo a b c) (e9 : m b9 = some (.cells (cells4 S) T_api_Set (0, 0))) :
    eyotlaw8_ClassRuns.l4 (a : Int) (b : Int) other b9 0 0 (Fine m0) m := by
  refine ⟨fun N x0 x1 x2 xb xo i mm => x0 = (a : Int) ∧ x1 = (b : Int) ∧ x2 = other ∧ xb = b9 ∧ xo = 0 ∧ Le m mm ∧ ∃ j : Nat, i = j ∧ N = 256 - j ∧ j ≤ 256, 256, ⟨rfl, rfl, rfl, rfl, rfl, Le.refl _, 0, rfl, rfl, by omega⟩, ?_⟩
  rintro N x0 x1 x2 xb xo i mm ⟨rfl, rfl, rfl, rfl, rfl, hle1, j, rfl, rfl, hj⟩
  refine BrD (fun hlt => ?_) (fun hge => ⟨rfl, hle.trans hle1⟩)
  have hw8 : IntKind.u8.wrap (j : Int) = (j : Int) := u8w (by omega)
  rw [hw8]
  have hw : IntKind.i64.wrap ((j : Int) + 1) = ((j + 1 : Nat) : Int) := by rw [wi (by omega) (by omega)]; omega
  have key : ∀ t, t = fromTo a b j → eyotlaw8_ClassRuns.k5 (fun c0 c1 c2 c3 c4 c5 m' => ∃ N', N' < 256 - j ∧ (c0 = (a : Int) ∧ c1 = (b : Int) ∧ c2 = x2 ∧ c3 = xb ∧ c4 = 0 ∧ Le m m' ∧ ∃ j : Nat, c5 = j ∧ N' = 256 - j ∧ j ≤ 256)) (a : Int) (b : Int) x2 xb 0 (j : Int) t (Fine m0) mm := by
    intro t ht
    unfold eyotlaw8_ClassRuns.k5
    refine get4 (hle1 _ _ e9) ?_
    rw [hw8, hw]
    refine Has_spec (by omega) ?_
    intro m2 hle2
    dsimp only [Cont]
    refine UnB.mk ?_
    refine Br.f ?_ ?_
    · rw [hS j, ht]
      cases x2 <;> cases fromTo a b j <;> rfl
    · exact ⟨256 - (j + 1), by omega, rfl, rfl, rfl, rfl, rfl, hle1.trans hle2, j + 1, rfl, rfl, by omega⟩
  refine BrD (fun h1 => ?_) (fun h1 => ?_)
  · refine key _ ?_
    unfold fromTo
    rw [Bool.eq_iff_iff]; simp; omega
  · refine key _ ?_
    unfold fromTo
    rw [Bool.eq_iff_iff]; simp; omega
theorem runs_k1 (ha : a < 256) (hb : b < 256) (hG : Glob m0) (hle : Le m0 m) : eyotlaw8_ClassRuns.k1 (a : Int) (b : Int) other (bstr (rgT a b other)) (Fine m0) m := by
  have hlen : (rgT a b other).length ≤ 12 := by unfold rgT hx; cases other <;> simp
  refine Parse_any (hG.le hle) (by rw [bstr_size]; omega) ?_
  intro m1 hle1
  rw [lst_bstr]
  refine ContP.mk ?_
  refine own4 ?_
  intro b9 m2 hle2 hb9 e9
  have hl2 := (hle.trans hle1).trans hle2
  -- what is asked for
  have bad : cls (rgT a b other) = none → eyotlaw8_ClassRuns.k2 (a : Int) (b : Int) other (bstr (rgT a b other)) b9 0 ((res (cls (rgT a b other))).2.1 : Nat) ((res (cls (rgT a b other))).2.2 : Nat) true (Fine m0) m2 := by
    intro hn
    rw [hn] at e9 ⊢
    refine Br.t rfl ?_
    refine BrEt rfl ?_
    refine BrEt rfl ?_
    refine get4 e9 ?_
    rw [eq4_zero]
    exact ⟨by rw [show emptyS (res none).1 = true from empty_of fun _ _ => rfl], hl2⟩
  have good : a ≤ b → ¬ (other = true ∧ a = 0 ∧ b = 255) → eyotlaw8_ClassRuns.k2 (a : Int) (b : Int) other (bstr (rgT a b other)) b9 0 ((res (cls (rgT a b other))).2.1 : Nat) ((res (cls (rgT a b other))).2.2 : Nat) false (Fine m0) m2 := by
    intro hab hno
    have hc : cls (rgT a b other) = some (fun c => if other = true then !(fromTo a b c) else fromTo a b c, (rgT a b other).length) := by
      unfold cls
      rw [cls_rg hab hb]
      dsimp only
      rw [if_neg]
      cases other with
      | false => exact empty_not ha (by simp; omega)
      | true =>
        by_cases h0 : a = 0
        · have hb' : b ≠ 255 := fun e => hno ⟨rfl, h0, e⟩
          exact empty_not (c := 255) (by omega) (by simp; omega)
        · exact empty_not (c := 0) (by omega) (by simp; omega)
    rw [hc] at e9 ⊢
    refine Br.f rfl ?_
    refine BrNf rfl ?_
    refine BrNf (by rw [bstr_size]; rfl) ?_
    exact runs_k4 ha hb hl2 (fun c => rfl) e9
  refine BrD (fun h1 => ?_) (fun h1 => ?_)
  · exact bad (cls_rg_none (by omega) ha other)
  · cases other with
    | false =>
      refine Br.f rfl ?_
      exact good (by omega) (by simp)
    | true =>
      refine Br.t rfl ?_
      refine BrE (fun h2 => ?_) (fun h2 => ?_)
      · cases h3 : (((b : Nat) : Int) == 255) with
        | true =>
          rw [beq_iff_eq] at h3
          have ha0 : a = 0 := by omega
          have hb0 : b = 255 := by omega
          refine bad ?_
          unfold cls
          rw [cls_rg (by omega) hb]
          dsimp only
          rw [if_pos (empty_of fun c hc => by simp; omega)]
        | false =>
          rw [beq_eq_false_iff_ne] at h3
          exact good (by omega) (fun h => by omega)
      · exact good (by omega) (fun h => by omega)
end
theorem ClassRuns_m {a b : Nat} {other : Bool} (ha : a < 256) (hb : b < 256) {m : Mem} (hG : Glob m) : HC P eyotlaw8_ClassRuns.id #[.int .u8 (a : Int), .int .u8 (b : Int), .bool other] m (Fine m) := by
  refine eyotlaw8_ClassRuns.ok _ _ _ _ _ ?_
  refine begun_spec hG ?_
  intro m1 hle1
  dsimp only [Cont]
  refine UnB.mk ?_
  refine Br.f rfl ?_
  refine lsign_spec ha ?_
  intro m2 hle2
  dsimp only [Cont]
  have l1 : (hx a).length = 4 := rfl
  have l2 : (hx b).length = 4 := rfl
  refine UnStr.mk ?_
  have e1 : bstr (hx a) ++ ByteArray.mk #[45] = bstr (hx a ++ [45]) := bstr_append _ [45]
  rw [e1]
  refine ⟨by rw [bstr_size, l1]; show 4 + 1 ≤ _; omega, ?_⟩
  refine lsign_spec hb ?_
  intro m3 hle3
  have hl3 := (hle1.trans hle2).trans hle3
  dsimp only [Cont]
  refine UnStr.mk ?_
  refine CatB_bs (by simp [l1, l2]) ?_
  rw [bstr_append]
  have e2 : ByteArray.mk #[91] ++ bstr ((hx a ++ [45]) ++ hx b) = bstr ([91] ++ ((hx a ++ [45]) ++ hx b)) := bstr_append [91] _
  have e3 : bstr ([91] ++ ((hx a ++ [45]) ++ hx b)) ++ ByteArray.mk #[93] = bstr (rgT a b false) := by
    rw [show (ByteArray.mk #[93]) = bstr [93] from rfl, bstr_append]
    congr 1
  have e4 : ByteArray.mk #[91, 94] ++ bstr ((hx a ++ [45]) ++ hx b) = bstr ([91, 94] ++ ((hx a ++ [45]) ++ hx b)) := bstr_append [91, 94] _
  have e5 : bstr ([91, 94] ++ ((hx a ++ [45]) ++ hx b)) ++ ByteArray.mk #[93] = bstr (rgT a b true) := by
    rw [show (ByteArray.mk #[93]) = bstr [93] from rfl, bstr_append]
    congr 1
  rw [e2, e3, e4, e5]
  have hz1 : ∀ l : List UInt8, l.length ≤ 100 → ∀ l2 : ByteArray, l2.size ≤ 100 → (bstr l).size + l2.size ≤ 1000000 := by
    intro l h l2 h2; rw [bstr_size]; omega
  refine ⟨?_, ?_, ?_⟩
  · rw [bstr_size]; show 1 + _ ≤ _; simp [l1, l2]
  · rw [bstr_size]; show _ + 1 ≤ _; simp [l1, l2]
  · cases other with
    | true =>
      refine Br.t rfl ⟨?_, ?_, ?_⟩
      · rw [bstr_size]; show 2 + _ ≤ _; simp [l1, l2]
      · rw [bstr_size]; show _ + 1 ≤ _; simp [l1, l2]
      · exact runs_k1 ha hb hG hl3
    | false => exact Br.f rfl (runs_k1 ha hb hG hl3)
theorem ClassRuns_arg {W : World} {v w u : Value} (hG : Glob (heapM W)) (h : Arg P W T_uint8 v) (h2 : Arg P W T_uint8 w) (h3 : Arg P W T_bool u) : HC P eyotlaw8_ClassRuns.id #[v, w, u] (heapM W) (Fine (heapM W)) := by
  obtain ⟨n, rfl, hw⟩ := h.int (k := .u8) (by kernel_rfl)
  obtain ⟨n2, rfl, hw2⟩ := h2.int (k := .u8) (by kernel_rfl)
  obtain ⟨o, rfl⟩ := h3.bool (by kernel_rfl)
  have hn := wf_u8 hw
  have hn2 := wf_u8 hw2
  obtain ⟨a, rfl⟩ : ∃ a : Nat, n = (a : Int) := ⟨n.toNat, by omega⟩
  obtain ⟨b, rfl⟩ : ∃ b : Nat, n2 = (b : Int) := ⟨n2.toNat, by omega⟩
  exact ClassRuns_m (by omega) (by omega) hG
end Go.E
