/- Classes: how a byte and a run are shown. -/
import Derived.Test.YtpbnhcggfgegkaaDoorSR4
set_option linter.unusedVariables false
set_option linter.unusedSimpArgs false
set_option maxRecDepth 20000
namespace Go.E
open Go.H
attribute [local irreducible] BiN MkS ConvN LookN MapUpN CallV HC limb dbTab

/-- A text of bytes. -/
def bstr (l : List UInt8) : ByteArray := ⟨l.toArray⟩
theorem bstr_append (a b : List UInt8) : bstr a ++ bstr b = bstr (a ++ b) := by
  apply ByteArray.ext
  rw [ByteArray.data_append]
  simp [bstr]
theorem bstr_size (a : List UInt8) : (bstr a).size = a.length := by simp [bstr, ByteArray.size]
theorem lst_bstr (a : List UInt8) : lst (bstr a) = a := by simp [bstr, lst]
theorem bstr_lst (s : ByteArray) : bstr (lst s) = s := by apply ByteArray.ext; simp [bstr, lst]
theorem bstr_inj {a b : List UInt8} (h : bstr a = bstr b) : a = b := by rw [← lst_bstr a, h, lst_bstr]
/-- a digit of sixteen -/
def hexd (k : Nat) : UInt8 := if k < 10 then UInt8.ofNat (48 + k) else UInt8.ofNat (87 + k)
/-- A byte's sign. -/
def sgT (c : Nat) : List UInt8 :=
  if c < 33 ∨ 126 < c then [92, 120, hexd (c / 16), hexd (c % 16)]
  else if isSp c = true then [92, UInt8.ofNat c] else [UInt8.ofNat c]
theorem hex_ext : ∀ k, k < 16 → (hexB.extract k (k + 1)).data.toList = [hexd k] := by decide +kernel
theorem hex_ext' {k : Nat} (h : k < 16) : hexB.extract k (k + 1) = bstr [hexd k] := by
  rw [← hex_ext k h]; exact (bstr_lst _).symm
theorem shr4 : ∀ c, c < 256 → shrV .u8 ((c : Nat) : Int) 4 = ((c / 16 : Nat) : Int) := by decide +kernel
theorem and15 : ∀ c, c < 256 → bitsV .and .u8 ((c : Nat) : Int) 15 = ((c % 16 : Nat) : Int) := by decide +kernel
theorem sgT_len (c : Nat) : (sgT c).length ≤ 4 := by unfold sgT; split <;> (try split) <;> simp

theorem SlB_hex {k : Nat} (h : k < 16) {K : ByteArray → Prop} (kk : K (bstr [hexd k])) : SlB hexB (k : Int) (IntKind.u8.wrap ((k : Int) + 1)) K := by
  have w : IntKind.u8.wrap ((k : Int) + 1) = ((k + 1 : Nat) : Int) := by rw [IntKind.wrap_u8]; omega
  rw [w]
  refine ⟨by omega, by omega, by show ((k + 1 : Nat) : Int) ≤ 16; omega, ?_⟩
  rw [Int.toNat_natCast, Int.toNat_natCast, hex_ext' h]
  exact kk
theorem CatB_bs {a b : List UInt8} (h : a.length + b.length ≤ 1000000) {A : Prop} (k : A) : CatB (bstr a) (bstr b) A := ⟨by rw [bstr_size, bstr_size]; omega, k⟩

theorem csign_spec {c : Nat} (hc : c < 256) {m : Mem} {R : Ending → Mem → Prop} (k : ∀ m', Le m m' → R (.returned (.string (bstr (sgT c)))) m') : HC P class_sign.id #[.int .u8 (c : Int)] m R := by
  refine class_sign.ok _ _ _ ?_
  have k1t : (c < 33 ∨ 126 < c) → class_sign.k1 (c : Int) true R m := by
    intro h
    unfold sgT at k
    rw [if_pos h] at k
    unfold class_sign.k1
    refine Br.mk (fun _ => ?_) (fun h => by cases h)
    refine ⟨m, Le.refl _, ?_⟩
    rw [shr4 c hc, and15 c hc]
    refine SlB_hex (by omega) ?_
    refine CatB_bs (a := [92, 120]) (by simp) ?_
    refine SlB_hex (by omega) ?_
    have e : (ByteArray.mk #[92, 120]) ++ bstr [hexd (c / 16)] = bstr [92, 120, hexd (c / 16)] := bstr_append [92, 120] _
    rw [e]
    refine CatB_bs (by simp) ?_
    rw [bstr_append]
    exact k m (Le.refl _)
  have k1f : ¬ (c < 33 ∨ 126 < c) → class_sign.k1 (c : Int) false R m := by
    intro h
    unfold sgT at k
    rw [if_neg h] at k
    unfold class_sign.k1
    refine Br.mk (fun h => by cases h) (fun _ => ?_)
    refine IndexByte_spec hc ?_
    dsimp only [Cont]
    refine UnI.mk ?_
    refine BrD (fun hg => ?_) (fun hg => ?_)
    · have hg : 0 ≤ ixB _ c := hg
      rw [ix_sp _ hc] at hg
      rw [if_pos hg] at k
      intro b hb
      refine ⟨[UInt8.ofNat c], rfl, cells_at (set_same _ _ _) (by rw [u8n hc]; rfl), ?_⟩
      refine CatB_bs (a := [92]) (b := [UInt8.ofNat c]) (by simp) ?_
      have e : (ByteArray.mk #[92]) ++ bstr [UInt8.ofNat c] = bstr [92, UInt8.ofNat c] := bstr_append [92] _
      have := k _ (Le.set hb (.cells #[.int .u8 (c : Int)] T_uint8 (0, 0)))
      rw [← e] at this
      exact this
    · have hg : ¬ 0 ≤ ixB _ c := hg
      rw [ix_sp _ hc] at hg
      rw [if_neg hg] at k
      intro b hb
      refine ⟨[UInt8.ofNat c], rfl, cells_at (set_same _ _ _) (by rw [u8n hc]; rfl), ?_⟩
      exact k _ (Le.set hb (.cells #[.int .u8 (c : Int)] T_uint8 (0, 0)))
  refine BrD (fun h => k1t (by omega)) (fun h => ?_)
  cases hd : decide ((c : Int) > 126) with
  | true => exact k1t (by have := of_decide_eq_true hd; omega)
  | false => exact k1f (by have := of_decide_eq_false hd; omega)

/-- How a run is shown. -/
def shT (a b : Nat) : List UInt8 := if b = a then sgT a else if b = a + 1 then sgT a ++ sgT b else sgT a ++ ([45] ++ sgT b)
theorem shown_spec {a b : Nat} (hab : a ≤ b) (hb : b < 256) {m : Mem} {R : Ending → Mem → Prop} (k : ∀ m', Le m m' → R (.returned (.string (bstr (shT a b)))) m') :
    HC P class_shown.id #[.agg #[.int .u8 (a : Int), .int .u8 (b : Int)]] m R := by
  refine class_shown.ok _ _ _ _ ?_
  intro b1 hb1
  have hle := Le.set hb1 (.cells #[.int .u8 (a : Int), .int .u8 (b : Int)] T_arr2_uint8 (0, 0))
  have e1 : (m.set b1 (.cells #[.int .u8 (a : Int), .int .u8 (b : Int)] T_arr2_uint8 (0, 0))) b1 = some (.cells #[.int .u8 (a : Int), .int .u8 (b : Int)] T_arr2_uint8 (0, 0)) := set_same _ _ _
  generalize (m.set b1 (.cells #[.int .u8 (a : Int), .int .u8 (b : Int)] T_arr2_uint8 (0, 0))) = m1 at hle e1
  unfold shT at k
  refine ⟨by omega, by omega, ?_⟩
  refine LdV.s1 e1 (UnI.mk ?_)
  refine ⟨by omega, by omega, ?_⟩
  refine LdV.s0 e1 (UnI.mk ?_)
  have w : IntKind.u8.wrap ((b : Int) - (a : Int)) = ((b - a : Nat) : Int) := by rw [IntKind.wrap_u8]; omega
  rw [w]
  refine BrE (fun h => ?_) (fun h => ?_)
  · rw [if_pos (by omega)] at k
    refine ⟨by omega, by omega, ?_⟩
    refine LdV.s0 e1 (UnI.mk ?_)
    refine csign_spec (by omega) ?_
    intro m2 hle2
    dsimp only [Cont]
    exact UnStr.mk (k m2 (hle.trans hle2))
  rw [if_neg (by omega)] at k
  have l1 := sgT_len a; have l2 := sgT_len b
  refine BrE (fun h => ?_) (fun h => ?_)
  · rw [if_pos (by omega)] at k
    refine ⟨m1, Le.refl _, ?_⟩
    refine ⟨by omega, by omega, ?_⟩
    refine LdV.s0 e1 (UnI.mk ?_)
    refine ⟨by omega, by omega, ?_⟩
    refine LdV.s1 e1 (UnI.mk ?_)
    refine csign_spec (by omega) ?_
    intro m2 hle2
    dsimp only [Cont]
    refine UnStr.mk (Lk.all hle2 ?_)
    refine csign_spec hb ?_
    intro m3 hle3
    dsimp only [Cont]
    refine UnStr.mk (CatB_bs (by omega) ?_)
    rw [bstr_append]
    exact k m3 ((hle.trans hle2).trans hle3)
  · rw [if_neg (by omega)] at k
    refine ⟨m1, Le.refl _, ?_⟩
    refine ⟨by omega, by omega, ?_⟩
    refine LdV.s0 e1 (UnI.mk ?_)
    refine ⟨by omega, by omega, ?_⟩
    refine LdV.s1 e1 (UnI.mk ?_)
    refine csign_spec (by omega) ?_
    intro m2 hle2
    dsimp only [Cont]
    refine UnStr.mk (Lk.all hle2 ?_)
    refine CatB_bs (b := [45]) (by simp; omega) ?_
    refine csign_spec hb ?_
    intro m3 hle3
    dsimp only [Cont]
    refine UnStr.mk ?_
    have e : bstr (sgT a) ++ ByteArray.mk #[45] = bstr (sgT a ++ [45]) := bstr_append _ [45]
    rw [e]
    refine CatB_bs (by simp; omega) ?_
    rw [bstr_append, List.append_assoc]
    exact k m3 ((hle.trans hle2).trans hle3)
end Go.E
