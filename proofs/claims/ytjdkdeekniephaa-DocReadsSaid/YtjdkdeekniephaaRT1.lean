/- The document's text of bytes (eyotref3). -/
import Derived.Test.YtjdkdeekniephaaPC6
set_option linter.unusedVariables false
set_option maxRecDepth 20000
namespace Go.E.Pz
open Go.H Go.E
attribute [local irreducible] BiN MkS ConvN LookN MapUpN CallV HC

theorem eRb : ElemOK P T_sl_eyotref3_Byte T_eyotref3_Byte (.agg #[.bool false, .int .i64 0]) 2 16 := .of (by kernel_rfl) (by kernel_rfl) rfl
def rv (x : Bool × Int) : List Value := [.bool x.1, .int .i64 x.2]
def rbs (L : List (Bool × Int)) : List Value := L.flatMap rv
theorem rbs_cons (x : Bool × Int) (L : List (Bool × Int)) : rbs (x :: L) = rv x ++ rbs L := by simp [rbs]
theorem rbs_append (K L : List (Bool × Int)) : rbs (K ++ L) = rbs K ++ rbs L := by simp [rbs]
theorem rbs_len : ∀ (L : List (Bool × Int)), (rbs L).length = L.length * 2
  | [] => rfl
  | x :: L => by rw [rbs_cons, List.length_append, rbs_len L]; simp [rv]; omega
theorem rbs_one (L : List (Bool × Int)) : ∀ v ∈ rbs L, notOne v = false := by
  intro v hv
  simp only [rbs, List.mem_flatMap, rv] at hv
  obtain ⟨p, _, hv⟩ := hv
  simp at hv
  rcases hv with rfl | rfl <;> rfl
theorem rbs_get : ∀ {L : List (Bool × Int)} {i : Nat} {x : Bool × Int}, L[i]? = some x → (rbs L)[2 * i]? = some (.bool x.1) ∧ (rbs L)[2 * i + 1]? = some (.int .i64 x.2)
  | [], i, p, h => by simp at h
  | q :: L, 0, p, h => by
    simp at h; subst h
    exact ⟨rfl, rfl⟩
  | q :: L, i + 1, p, h => by
    have ih := rbs_get (L := L) (i := i) (x := p) (by simpa using h)
    rw [rbs_cons]
    have hl : (rv q).length = 2 := rfl
    refine ⟨?_, ?_⟩
    · rw [List.getElem?_append_right (by omega), hl, show 2 * (i + 1) - 2 = 2 * i by omega]; exact ih.1
    · rw [List.getElem?_append_right (by omega), hl, show 2 * (i + 1) + 1 - 2 = 2 * i + 1 by omega]; exact ih.2
theorem rbs_nil_of {L : List (Bool × Int)} (h : rbs L = []) : L = [] := by
  have := rbs_len L
  rw [h] at this
  simp at this
  exact List.eq_nil_of_length_eq_zero (by omega)
theorem rbs_take : ∀ (L : List (Bool × Int)) (n : Nat), (rbs L).take (n * 2) = rbs (L.take n)
  | [], n => by simp [rbs]
  | x :: L, 0 => by simp [rbs]
  | x :: L, n + 1 => by
    rw [rbs_cons, List.take_succ_cons, rbs_cons, ← rbs_take L n, List.take_append]
    have hl : (rv x).length = 2 := rfl
    rw [List.take_of_length_le (by omega), hl, show (n + 1) * 2 - 2 = n * 2 by omega]
theorem rbs_drop : ∀ (L : List (Bool × Int)) (n : Nat), (rbs L).drop (n * 2) = rbs (L.drop n)
  | [], n => by simp [rbs]
  | x :: L, 0 => by simp
  | x :: L, n + 1 => by
    rw [rbs_cons, List.drop_succ_cons, ← rbs_drop L n, List.drop_append]
    have hl : (rv x).length = 2 := rfl
    rw [List.drop_of_length_le (by omega), hl, show (n + 1) * 2 - 2 = n * 2 by omega, List.nil_append]
theorem IxS.rbs {m : Mem} {a : Option Addr} {len : Nat} {L : List (Bool × Int)} (hc : CellsAt m a (rbs L)) (hl : L.length = len) {i : Int} (h0 : 0 ≤ i) (h1 : i < len) {K : Nat → Nat → Prop}
    (k : ∀ b o x, L[i.toNat]? = some x → m.cell b o = some (.bool x.1) → m.cell b (o + 1) = some (.int .i64 x.2) → K b o) : IxS a len i 2 K := by
  refine ⟨h0, h1, ?_⟩
  have hlt : i.toNat < L.length := by omega
  rcases hc.cases with ⟨b, o, rfl, hx⟩ | ⟨hx, _⟩
  · obtain ⟨g1, g2⟩ := rbs_get (List.getElem?_eq_getElem hlt)
    refine k b (o + i.toNat * 2) L[i.toNat] (List.getElem?_eq_getElem hlt) ?_ ?_
    · have := hx _ _ g1; rwa [show o + i.toNat * 2 = o + 2 * i.toNat by omega]
    · have := hx _ _ g2; rwa [show o + i.toNat * 2 + 1 = o + (2 * i.toNat + 1) by omega]
  · rw [rbs_nil_of hx] at hl; simp at hl; omega

/-- A *eyotref3.Text. -/
structure Rt (m : Mem) (F : Nat → Prop) (br : Nat) (L : List (Bool × Int)) (ad : List UInt8) : Prop where
  ex : ∃ la ll lc aa al ac, m br = some (.cells #[.slice la ll lc, .slice aa al ac] T_eyotref3_Text (0, 0)) ∧ Own m T_eyotref3_Byte 2 la ll lc (rbs L) ∧ L.length = ll ∧ Own m T_uint8 1 aa al ac (u8s ad) ∧ ad.length = al ∧
    F br ∧ (∀ b, blk la = some b → F b) ∧ ∀ b, blk aa = some b → F b
  lv : ∀ b, F b → m b ≠ none
section
variable {m m' : Mem} {F : Nat → Prop} {br : Nat} {L : List (Bool × Int)} {ad : List UInt8}
theorem Rt.le (h : Le m m') (k : Rt m F br L ad) : Rt m' F br L ad := by
  obtain ⟨⟨la, ll, lc, aa, al, ac, h1, h2, h3, h4, h5, h6⟩, lv⟩ := k
  exact ⟨⟨la, ll, lc, aa, al, ac, h _ _ h1, Own.le h h2, h3, Own.le h h4, h5, h6⟩, fun b hb => h.live (lv b hb)⟩
theorem Rt.chg {S : Nat → Prop} (h : Chg S m m') (k : Rt m F br L ad) (hn : ∀ b, F b → ¬ S b) : Rt m' F br L ad := by
  obtain ⟨⟨la, ll, lc, aa, al, ac, h1, h2, h3, h4, h5, h6, h7, h8⟩, lv⟩ := k
  exact ⟨⟨la, ll, lc, aa, al, ac, h.eq _ _ h1 (hn _ h6), h2.chg h (fun b e => hn _ (h7 b e)), h3, h4.chg h (fun b e => hn _ (h8 b e)), h5, h6, h7, h8⟩, fun b hb => h.live b (lv b hb)⟩

def newR (n : Int) : List (Bool × Int) := (List.range n.toNat).map fun (k : Nat) => (false, (k : Int))
theorem NewText_spec {n : Int} (hn : n ≤ 1000) {R : Ending → Mem → Prop} (h : ∀ br F m', Le m m' → (∀ b, F b → m b = none) → Rt m' F br (newR n) [] → R (.returned (.pointer (some ⟨br, 0, none⟩))) m') : HC P eyotref3_NewText.id #[.int .i64 n] m R := by
  refine eyotref3_NewText.ok _ _ _ ?_
  intro b6 hb6
  refine ⟨fun N x b o i mm => x = n ∧ b = b6 ∧ o = 0 ∧ Le m mm ∧ ∃ k : Nat, i = k ∧ k ≤ n.toNat ∧ N = n.toNat - k ∧ ∃ la lc, mm b6 = some (.cells #[.slice la k lc, .slice none 0 0] T_eyotref3_Text (0, 0)) ∧ Own mm T_eyotref3_Byte 2 la k lc (rbs ((List.range k).map fun (k : Nat) => (false, (k : Int)))) ∧ Fresh m la,
    n.toNat, ⟨rfl, rfl, rfl, Le.set hb6 _, 0, rfl, by omega, by omega, none, 0, set_same _ _ _, Own.nil _ _ _, Fresh.none m⟩, ?_⟩
  rintro N x b o i mm ⟨rfl, rfl, rfl, hle, k, rfl, hk, rfl, la, lc, hb, ho, hf⟩
  refine BrD (fun hlt => ?_) (fun hge => ?_)
  · refine LdV.of (o := 0) hb rfl ?_
    refine push_row eRb (by decide) ho (news := #[.bool false, .int .i64 (k : Int)]) rfl (by intro v hv; simp at hv; rcases hv with rfl | rfl <;> rfl) (by omega) (by decide) ?_
    intro a' c' m7 hch ho7 hb7
    have hne := own_ne ho hb (by decide)
    have hb7' := hch.eq b _ hb (fun e => hne e)
    refine St1.to #[.slice a' (k + 1) c', .slice none 0 0] (o := 0) hb7' (by simp) rfl rfl ?_
    have hc8 := Chg.set m7 b (.cells #[.slice a' (k + 1) c', .slice none 0 0] T_eyotref3_Text (0, 0))
    have hne7 := own_ne ho7 hb7' (by decide)
    refine ⟨x.toNat - (k + 1), by omega, rfl, rfl, rfl, hc8.to_le (hch.to_le hle (fun b e => hf b e)) (by rintro b rfl; exact hb6), k + 1, ?_, by omega, rfl, a', c', set_same _ _ _, ?_, ?_⟩
    · rw [wi (by omega) (by omega)]; omega
    · have := ho7.chg hc8 (fun b e hb => hne7 (hb ▸ e))
      rw [List.range_succ, List.map_append, rbs_append]
      exact this
    · rcases hb7 with e | e
      · intro b hb; exact hf b (e ▸ hb)
      · exact Fresh.le hle e
  · have e : k = x.toNat := by omega
    subst e
    refine h b (fun k => k = b ∨ blk la = some k) mm hle ?_ ⟨⟨la, x.toNat, lc, none, 0, 0, hb, ho, by simp [newR], Own.nil _ _ _, rfl, .inl rfl, fun b e => .inr e, fun b e => by cases e⟩, ?_⟩
    · rintro k (rfl | e)
      · exact hb6
      · exact hf k e
    · rintro k (rfl | e)
      · rw [hb]; simp
      · exact ho.live k e
end
end Go.E.Pz
