/- The piece layer: what its functions do. -/
import Derived.Test.YtjdkdeekniephaaH10
import Derived.Test.YtjdkdeekniephaaPC0
import Derived.Test.YtjdkdeekniephaaEU
set_option linter.unusedVariables false
set_option maxRecDepth 20000
namespace Go.E.Pz
open Go.H Go.E
attribute [local irreducible] BiN MkS ConvN LookN MapUpN CallV HC

theorem ePc : ElemOK P T_sl_api_Piece T_api_Piece (.agg #[.bool false, .int .i64 0, .int .i64 0]) 3 24 := .of (by kernel_rfl) (by kernel_rfl) rfl

def Pc.vals (p : Pc) : List Value := [.bool p.a, .int .i64 p.f, .int .i64 p.t]
def pcs (ps : List Pc) : List Value := ps.flatMap Pc.vals
theorem pcs_nil : pcs [] = [] := rfl
theorem pcs_cons (p : Pc) (ps : List Pc) : pcs (p :: ps) = p.vals ++ pcs ps := by simp [pcs]
theorem pcs_append (ps qs : List Pc) : pcs (ps ++ qs) = pcs ps ++ pcs qs := by simp [pcs]
theorem pcs_len : ∀ (ps : List Pc), (pcs ps).length = ps.length * 3
  | [] => rfl
  | p :: ps => by rw [pcs_cons, List.length_append, pcs_len ps]; simp [Pc.vals]; omega
theorem pcs_one (ps : List Pc) : ∀ v ∈ pcs ps, notOne v = false := by
  intro v hv
  simp only [pcs, List.mem_flatMap, Pc.vals] at hv
  obtain ⟨p, _, hv⟩ := hv
  simp at hv
  rcases hv with rfl | rfl | rfl <;> rfl
theorem pcs_get : ∀ {ps : List Pc} {i : Nat} {p : Pc}, ps[i]? = some p → (pcs ps)[3 * i]? = some (.bool p.a) ∧ (pcs ps)[3 * i + 1]? = some (.int .i64 p.f) ∧ (pcs ps)[3 * i + 2]? = some (.int .i64 p.t)
  | [], i, p, h => by simp at h
  | q :: ps, 0, p, h => by
    simp at h; subst h
    exact ⟨rfl, rfl, rfl⟩
  | q :: ps, i + 1, p, h => by
    have ih := pcs_get (ps := ps) (i := i) (p := p) (by simpa using h)
    rw [pcs_cons]
    have hl : q.vals.length = 3 := rfl
    refine ⟨?_, ?_, ?_⟩
    · rw [List.getElem?_append_right (by omega), hl, show 3 * (i + 1) - 3 = 3 * i by omega]; exact ih.1
    · rw [List.getElem?_append_right (by omega), hl, show 3 * (i + 1) + 1 - 3 = 3 * i + 1 by omega]; exact ih.2.1
    · rw [List.getElem?_append_right (by omega), hl, show 3 * (i + 1) + 2 - 3 = 3 * i + 2 by omega]; exact ih.2.2
theorem pcs_nil_of {ps : List Pc} (h : pcs ps = []) : ps = [] := by
  have := pcs_len ps
  rw [h] at this
  simp at this
  exact List.eq_nil_of_length_eq_zero (by omega)
theorem IxS.pcs {m : Mem} {a : Option Addr} {len : Nat} {ps : List Pc} (hc : CellsAt m a (pcs ps)) (hl : ps.length = len) {i : Int} (h0 : 0 ≤ i) (h1 : i < len) {K : Nat → Nat → Prop}
    (k : ∀ b o p, ps[i.toNat]? = some p → m.cell b o = some (.bool p.a) → m.cell b (o + 1) = some (.int .i64 p.f) → m.cell b (o + 2) = some (.int .i64 p.t) → K b o) : IxS a len i 3 K := by
  refine ⟨h0, h1, ?_⟩
  have hlt : i.toNat < ps.length := by omega
  rcases hc.cases with ⟨b, o, rfl, hx⟩ | ⟨hx, _⟩
  · obtain ⟨g1, g2, g3⟩ := pcs_get (List.getElem?_eq_getElem hlt)
    refine k b (o + i.toNat * 3) ps[i.toNat] (List.getElem?_eq_getElem hlt) ?_ ?_ ?_
    · have := hx _ _ g1; rwa [show o + i.toNat * 3 = o + 3 * i.toNat by omega]
    · have := hx _ _ g2; rwa [show o + i.toNat * 3 + 1 = o + (3 * i.toNat + 1) by omega]
    · have := hx _ _ g3; rwa [show o + i.toNat * 3 + 2 = o + (3 * i.toNat + 2) by omega]
  · rw [pcs_nil_of hx] at hl; simp at hl; omega

theorem clone_u8 {m : Mem} {a : Option Addr} {l c : Nat} {bs : List UInt8} (hc : CellsAt m a (u8s bs)) (hl : bs.length = l) (hlen : l ≤ 1000000000) {R : Ending → Mem → Prop}
    (h : ∀ a' c' m', Le m m' → Own m' T_uint8 1 a' l c' (u8s bs) → Fresh m a' → R (.returned (.slice a' l c')) m') :
    HC P slices_Clone_s_byte_byte.id #[.slice a l c] m R := by
  refine slices_Clone_s_byte_byte.ok _ _ _ _ _ ?_
  unfold slices_Clone_s_byte_byte.e0
  cases a with
  | none =>
    refine Br.t rfl ?_
    have e : bs = [] := by
      have h0 : u8s bs = [] := hc
      simpa [u8s] using h0
    subst e
    subst hl
    exact h none 0 m (Le.refl m) (Own.nil _ _ _) (Fresh.none m)
  | some a =>
    refine Br.f rfl ?_
    intro b5 hb
    refine clone_gen eU8 (by decide) hc (by simp [u8s, hl]) (u8s_one bs) (by omega) (by omega) ?_ b5 hb
    exact h
theorem clone_pc {m : Mem} {a : Option Addr} {l c : Nat} {ps : List Pc} (hc : CellsAt m a (pcs ps)) (hl : ps.length = l) (hlen : l ≤ 1000000000) {R : Ending → Mem → Prop}
    (h : ∀ a' c' m', Le m m' → Own m' T_api_Piece 3 a' l c' (pcs ps) → Fresh m a' → R (.returned (.slice a' l c')) m') :
    HC P slices_Clone_s_api_Piece_api_Piece.id #[.slice a l c] m R := by
  refine slices_Clone_s_api_Piece_api_Piece.ok _ _ _ _ _ ?_
  unfold slices_Clone_s_api_Piece_api_Piece.e0
  cases a with
  | none =>
    refine Br.t rfl ?_
    have e : ps = [] := pcs_nil_of hc
    subst e
    subst hl
    exact h none 0 m (Le.refl m) (Own.nil _ _ _) (Fresh.none m)
  | some a =>
    refine Br.f rfl ?_
    intro b5 hb
    refine clone_gen ePc (by decide) hc (by rw [pcs_len, hl]) (pcs_one ps) (by omega) (by omega) ?_ b5 hb
    exact h

theorem size_spec {m : Mem} (a : Bool) (f t : Int) {R : Ending → Mem → Prop} (h : ∀ m', Le m m' → R (.returned (.int .i64 (IntKind.i64.wrap (t - f)))) m') : HC P piece_size.id #[.agg #[.bool a, .int .i64 f, .int .i64 t]] m R := by
  refine piece_size.ok _ _ _ _ _ ?_
  intro b hb
  refine LdV.of (o := 2) (set_same _ _ _) rfl ?_
  refine LdV.of (o := 1) (set_same _ _ _) rfl ?_
  exact h _ (Le.set hb _)

/-- Small pieces. -/
def Pc.Sm (p : Pc) : Prop := 0 ≤ p.f ∧ p.f < p.t ∧ p.t ≤ 1000000
theorem Pc.Sm.ok {p : Pc} (h : p.Sm) : p.Ok := ⟨h.1, h.2.1⟩
theorem byt_ge : ∀ {ps : List Pc}, (∀ p ∈ ps, p.Ok) → ps.length ≤ (byt ps).length
  | [], _ => by simp
  | p :: ps, h => by
    have ih := byt_ge (ps := ps) (fun p hp => h p (by simp [hp]))
    have hp := h p (by simp)
    unfold Pc.Ok at hp
    rw [byt_cons, List.length_append, bytes_len]; simp; omega
theorem byt_take_len {ps : List Pc} {k : Nat} {p : Pc} (h : ps[k]? = some p) : ((byt (ps.take (k + 1))).length : Int) = (byt (ps.take k)).length + (p.t - p.f).toNat := by
  rw [List.take_add_one, h, byt_append, List.length_append, Option.toList_some, byt_cons, List.length_append, bytes_len]; simp [byt]
theorem byt_take_le (ps : List Pc) (k : Nat) : (byt (ps.take k)).length ≤ (byt ps).length := by
  have : byt ps = byt (ps.take k) ++ byt (ps.drop k) := by rw [← byt_append, List.take_append_drop]
  rw [this, List.length_append]; omega

/-- The loop's own copy of a piece. -/
theorem set3 {m : Mem} {b : Nat} {K : Mem → Prop} {a : Bool} {f t : Int} (hb : m b = none)
    (k : K (m.set b (.cells #[.bool a, .int .i64 f, .int .i64 t] T_api_Piece (0, 0)))) :
    St1 (m.set b (.cells #[.bool false, .int .i64 0, .int .i64 0] T_api_Piece (0, 0))) b 0 (.bool a) fun m2 => St1 m2 b 1 (.int .i64 f) fun m3 => St1 m3 b 2 (.int .i64 t) K := by
  refine St1.to #[.bool a, .int .i64 0, .int .i64 0] (o := 0) (set_same _ _ _) (by simp) rfl rfl ?_
  rw [set_set]
  refine St1.to #[.bool a, .int .i64 f, .int .i64 0] (o := 1) (set_same _ _ _) (by simp) rfl rfl ?_
  rw [set_set]
  refine St1.to #[.bool a, .int .i64 f, .int .i64 t] (o := 2) (set_same _ _ _) (by simp) rfl rfl ?_
  rw [set_set]
  exact k

theorem Len_loop {m : Mem} {ps : List Pc} {la : Option Addr} {ll lc : Nat} (hc : CellsAt m la (pcs ps)) (hl : ps.length = ll) (hs : ∀ p ∈ ps, p.Sm) (hb : (byt ps).length ≤ 1000000) {R : Ending → Mem → Prop}
    (h : ∀ m', Le m m' → R (.returned (.int .i64 ((byt ps).length : Nat))) m') : piece_Text_Len.l1 0 la ll lc ((ll : Nat) : Int) 0 R m := by
  have hge := byt_ge (fun p hp => (hs p hp).ok)
  refine ⟨fun N n a l c x12 i mm => a = la ∧ l = ll ∧ x12 = ((ll : Nat) : Int) ∧ Le m mm ∧ ∃ k : Nat, i = k ∧ k ≤ ll ∧ N = ll - k ∧ n = ((byt (ps.take k)).length : Nat), ll, ⟨rfl, rfl, rfl, Le.refl m, 0, rfl, by omega, by omega, by simp [byt]⟩, ?_⟩
  rintro N n a l c x12 i mm ⟨rfl, rfl, rfl, hle, k, rfl, hk, rfl, rfl⟩
  refine BrD (fun hlt => ?_) (fun hge => ?_)
  · refine IxS.pcs (CellsAt.le hle hc) hl (by omega) (by omega) ?_
    intro b o p hp c1 c2 c3
    have hp' : ps[k]? = some p := hp
    have hsm := hs p (List.mem_of_getElem? hp')
    unfold Pc.Sm at hsm
    refine LdV.mk c1 ?_
    refine LdV.mk c2 ?_
    refine LdV.mk c3 ?_
    intro bp hbp
    refine set3 hbp ?_
    refine LdV.of (o := 0) (set_same _ _ _) rfl ?_
    refine LdV.of (o := 1) (set_same _ _ _) rfl ?_
    refine LdV.of (o := 2) (set_same _ _ _) rfl ?_
    refine size_spec _ _ _ ?_
    intro m5 hle5
    have e1 := byt_take_len hp'
    have e2 := byt_take_le ps (k + 1)
    refine ⟨l - (k + 1), by omega, rfl, rfl, rfl, hle.trans ((Le.set hbp _).trans hle5), k + 1, ?_, by omega, rfl, ?_⟩
    · rw [wi (by omega) (by omega)]; omega
    · rw [wi (n := p.t - p.f) (by omega) (by omega), wi (by omega) (by omega)]; omega
  · have e : ps.take k = ps := List.take_of_length_le (by omega)
    rw [e]
    exact h mm hle
end Go.E.Pz
