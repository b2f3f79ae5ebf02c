/- More helps for the laws: Place, rows of structs, a constant's bytes. -/
import Derived.Test.YtjdkdeekniephaaRT2
import Derived.Test.YtjdkdeekniephaaHF
set_option linter.unusedVariables false
namespace Go.H
theorem conv_bytes {P : Program} {t e : TypeId} (ht : P.underlying t = some (.slice e)) (he : P.underlying e = some (.int .u8)) {m : Mem} {b l c : Nat} {cur : Array Value} (hb : m b = some (.cells cur e (0, 0))) {K : Value → Mem → Prop} {Pn : List PanicEntry → Mem → Prop}
    (k : K (.slice (some ⟨b, 0, none⟩) l c) (m.set b (.cells cur e (cur.size, cur.size + 1)))) : ConvN P t t (.slice (some ⟨b, 0, none⟩) l c) m K Pn := by
  unfold ConvN
  rw [pt_bind]
  unfold convert
  rw [pt_bind, pt_under ht, pt_bind, pt_under ht]
  simp only [beq_self_eq_true]
  rw [pt_bind, pt_under he]
  simp only []
  rw [pt_bind]
  unfold markStringish
  rw [pt_bind]
  refine ⟨_, hb, ?_⟩
  simp only [shapeOf]
  show ∃ o, _
  refine ⟨_, hb, ?_⟩
  simp only [freezeObj]
  exact k
end Go.H
namespace Go.E.Pz
open Go.H Go.E
attribute [local irreducible] BiN MkS ConvN LookN MapUpN CallV HC

theorem Place_spec {m : Mem} {k n : Int} (hn : 1 ≤ n) (hn2 : n ≤ 1000000000) {R : Ending → Mem → Prop} (h : ∀ r : Int, 0 ≤ r → r < n → R (.returned (.int .i64 r)) m) : HC P eyotlaw0_Place.id #[.int .i64 k, .int .i64 n] m R := by
  refine eyotlaw0_Place.ok _ _ _ _ ?_
  have h1 := Int.tmod_lt_of_pos k (b := n) (by omega)
  have h2 := Int.lt_tmod_of_pos k (b := n) (by omega)
  refine BrDf (by omega) (NzI.mk (by omega) ?_)
  refine BrD (fun h3 => ?_) (fun h3 => h _ (by omega) (by omega))
  rw [wi (by omega) (by omega)]
  exact h _ (by omega) (by omega)

/-- An edit, as the laws are told it. -/
structure OpC where
  a : Int
  b : Int
  sa : Option Addr
  sc : Nat
  s : List UInt8
  cp : Bool
def OpC.vals (o : OpC) : List Value := [.int .i64 o.a, .int .i64 o.b, .slice o.sa o.s.length o.sc, .bool o.cp]
theorem OpC.len (o : OpC) : o.vals.length = 4 := rfl
def OpsAt (m : Mem) (a : Option Addr) (os : List OpC) : Prop := CellsAt m a (os.flatMap OpC.vals) ∧ ∀ o ∈ os, CellsAt m o.sa (u8s o.s)
theorem OpsAt.le {m m' : Mem} {a : Option Addr} {os : List OpC} (h : OpsAt m a os) (k : Le m m') : OpsAt m' a os := ⟨h.1.le k, fun o ho => (h.2 o ho).le k⟩
theorem u8s_cells {W : World} {t : TypeId} {cs : List Value} (hr : Rd P W t cs) (ht : P.underlying t = some (.slice T_uint8)) (he : P.underlying T_uint8 = some (.int .u8)) : ∃ a l c bs, cs = [.slice a l c] ∧ l ≤ c ∧ bs.length = l ∧ CellsAt (heapM W) a (u8s bs) := hr.u8s ht he
theorem op_row {W : World} {cs : List Value} (hr : Rd P W T_eyotlaw6_Op cs) : ∃ o : OpC, cs = o.vals ∧ CellsAt (heapM W) o.sa (u8s o.s) := by
  have hl := hr.len (by kernel_rfl)
  have hsz : P.cellsOf T_eyotlaw6_Op = 4 := by kernel_rfl
  rw [hsz] at hl
  obtain ⟨x0, x1, x2, x3, rfl⟩ : ∃ x0 x1 x2 x3, cs = [x0, x1, x2, x3] := by
    match cs, hl with
    | [x0, x1, x2, x3], _ => exact ⟨_, _, _, _, rfl⟩
  have c3 : P.cellsOf T_int = 1 := by kernel_rfl
  have c22 : P.cellsOf T_sl_uint8 = 1 := by kernel_rfl
  have c4 : P.cellsOf T_bool = 1 := by kernel_rfl
  have k0 := hr.field (t' := T_int) (off := 0) (by kernel_rfl)
  have k1 := hr.field (t' := T_int) (off := 1) (by kernel_rfl)
  have k2 := hr.field (t' := T_sl_uint8) (off := 2) (by kernel_rfl)
  have k3 := hr.field (t' := T_bool) (off := 3) (by kernel_rfl)
  rw [c3] at k0 k1
  rw [c22] at k2
  rw [c4] at k3
  obtain ⟨n0, e0, _⟩ := k0.int (k := .i64) (by kernel_rfl)
  obtain ⟨n1, e1, _⟩ := k1.int (k := .i64) (by kernel_rfl)
  obtain ⟨a, l, c, bs, e2, _, hbl, hc⟩ := u8s_cells k2 (by kernel_rfl) (by kernel_rfl)
  obtain ⟨b, e3⟩ := k3.bool (by kernel_rfl)
  simp at e0 e1 e2 e3
  subst e0; subst e1; subst e2; subst e3
  exact ⟨⟨n0, n1, a, c, bs, b⟩, by simp [OpC.vals, hbl], hc⟩
theorem op_rows {W : World} {es : List (List Value)} (h : ∀ x ∈ es, Rd P W T_eyotlaw6_Op x) : ∃ os : List OpC, os.length = es.length ∧ es.flatten = os.flatMap OpC.vals ∧ ∀ o ∈ os, CellsAt (heapM W) o.sa (u8s o.s) := by
  induction es with
  | nil => exact ⟨[], rfl, rfl, fun o h => by cases h⟩
  | cons x es ih =>
    obtain ⟨os, h1, h2, h3⟩ := ih (fun y hy => h y (by simp [hy]))
    obtain ⟨o, ho, hc⟩ := op_row (h x (by simp))
    refine ⟨o :: os, by simp [h1], by rw [List.flatten_cons, h2, ho]; rfl, fun p hp => ?_⟩
    rcases List.mem_cons.1 hp with rfl | hp
    · exact hc
    · exact h3 p hp
theorem arg_ops {W : World} {v : Value} (h : Arg P W T_sl_eyotlaw6_Op v) : ∃ a c os, v = .slice a (List.length os) c ∧ OpsAt (heapM W) a os := by
  obtain ⟨a, l, c, rfl, h1, _, es, h2, h3, h4⟩ := h.sl (e := T_eyotlaw6_Op) (by kernel_rfl)
  obtain ⟨os, h5, h6, h7⟩ := op_rows (fun x hx => (h3 x hx).2)
  have hl : l = (os.take l).length := by simp; omega
  refine ⟨a, c, os.take l, by rw [← hl], ?_, fun o ho => h7 o (List.mem_of_mem_take ho)⟩
  rw [h6, ← List.take_append_drop l os, List.flatMap_append] at h4
  exact h4.left

theorem byt_inj {ps qs : List Pc} (h1 : ∀ p ∈ ps, p.Ok) (h2 : Can ps) (h3 : ∀ p ∈ qs, p.Ok) (h4 : Can qs) (h : byt ps = byt qs) : ps = qs := by
  rw [← pieces_of h1 h2, h, pieces_of h3 h4]

theorem new_good {n : Int} {B : Nat} (h : n ≤ B) (hB : B ≤ 500000) : Gd B (newL n) [] := by
  unfold newL
  split
  · refine ⟨fun p hp => ?_, ?_, by simp, trivial, hB⟩
    · simp at hp; subst hp; unfold Pc.Ok; simp only; omega
    · rw [byt_cons, List.length_append, bytes_len]; simp [byt]; omega
  · exact ⟨fun p hp => by simp at hp, by simp [byt], by simp, trivial, hB⟩
end Go.E.Pz
