/- More helps for the laws: Place, rows of structs, a constant's bytes. -/
import Derived.Test.YtgjeockdppkflaaRT3
import Derived.Test.YtgjeockdppkflaaHF
set_option linter.unusedVariables false
namespace Go.H
/-- An element of a row of structs. -/
theorem rows_get {α : Type} {f : α → List Value} {sz : Nat} (hf : ∀ x, (f x).length = sz) : ∀ {rows : List α} {i : Nat} {x : α}, rows[i]? = some x → ∀ j u, (f x)[j]? = some u → (rows.flatMap f)[i * sz + j]? = some u
  | [], i, x, h, _, _, _ => by simp at h
  | y :: r, 0, x, h, j, u, hu => by
    simp at h; subst h
    rw [List.flatMap_cons, Nat.zero_mul, Nat.zero_add, List.getElem?_append_left]
    · exact hu
    · rcases Nat.lt_or_ge j (f y).length with h | h
      · exact h
      · rw [List.getElem?_eq_none h] at hu; cases hu
  | y :: r, i + 1, x, h, j, u, hu => by
    have ih := rows_get hf (rows := r) (i := i) (x := x) (by simpa using h) j u hu
    have e : (i + 1) * sz + j - (f y).length = i * sz + j := by rw [hf, Nat.add_mul, Nat.one_mul]; omega
    rw [List.flatMap_cons, List.getElem?_append_right (by rw [hf, Nat.add_mul, Nat.one_mul]; omega), e]
    exact ih
theorem rows_len {α : Type} {f : α → List Value} {sz : Nat} (hf : ∀ x, (f x).length = sz) : ∀ (rows : List α), (rows.flatMap f).length = rows.length * sz
  | [] => by simp
  | y :: r => by rw [List.flatMap_cons, List.length_append, hf, rows_len hf r, List.length_cons, Nat.add_mul, Nat.one_mul]; omega
theorem IxS.rows {α : Type} {f : α → List Value} {sz : Nat} (hf : ∀ x, (f x).length = sz) (hsz : 0 < sz) {m : Mem} {a : Option Addr} {len : Nat} {rows : List α} (hc : CellsAt m a (rows.flatMap f)) (hl : rows.length = len) {i : Int} (h0 : 0 ≤ i) (h1 : i < len) {K : Nat → Nat → Prop}
    (k : ∀ b o x, rows[i.toNat]? = some x → (∀ j u, (f x)[j]? = some u → m.cell b (o + j) = some u) → K b o) : IxS a len i sz K := by
  refine ⟨h0, h1, ?_⟩
  have hlt : i.toNat < rows.length := by omega
  have hg := List.getElem?_eq_getElem hlt
  rcases hc.cases with ⟨b, o, rfl, hx⟩ | ⟨hx, _⟩
  · refine k b (o + i.toNat * sz) _ hg ?_
    intro j u hu
    have := hx _ u (rows_get hf hg j u hu)
    rw [Nat.add_assoc]; exact this
  · have := rows_len hf rows
    rw [hx] at this
    simp only [List.length_nil] at this
    have : 0 < rows.length * sz := Nat.mul_pos (by omega) hsz
    omega
theorem conv_bytes {P : Program} {t e : TypeId} (ht : P.underlying t = some (.slice e)) (he : P.underlying e = some (.int .u8)) {m : Mem} {b l c : Nat} {cur : Array Value} (hb : m b = some (.cells cur e (0, 0))) {K : Value → Mem → Prop} {Pn : List PanicEntry → Mem → Prop}
    (k : K (.slice (some ⟨b, 0, none⟩) l c) (m.set b (.cells cur e (cur.size, cur.size + 1)))) : ConvN P t t (.slice (some ⟨b, 0, none⟩) l c) m K Pn := by
  unfold ConvN
  rw [pt_bind]
  unfold convert
  rw [pt_bind, pt_under ht, pt_bind, pt_under ht]
  simp only [beq_self_eq_true]
  rw [pt_bind, pt_under he]
  simp only []
  rw [pt_bind]
  unfold markStringish
  rw [pt_bind]
  refine ⟨_, hb, ?_⟩
  simp only [shapeOf]
  show ∃ o, _
  refine ⟨_, hb, ?_⟩
  simp only [freezeObj]
  exact k
end Go.H
namespace Go.E
open Go.H
attribute [local irreducible] BiN MkS ConvN LookN MapUpN CallV HC

theorem Place_spec {m : Mem} {k n : Int} (hn : 1 ≤ n) (hn2 : n ≤ 1000000000) {R : Ending → Mem → Prop} (h : ∀ r : Int, 0 ≤ r → r < n → R (.returned (.int .i64 r)) m) : HC P eyotlaw0_Place.id #[.int .i64 k, .int .i64 n] m R := by
  refine eyotlaw0_Place.ok _ _ _ _ ?_
  have h1 := Int.tmod_lt_of_pos k (b := n) (by omega)
  have h2 := Int.lt_tmod_of_pos k (b := n) (by omega)
  refine BrDf (by omega) (NzI.mk (by omega) ?_)
  refine BrD (fun h3 => ?_) (fun h3 => h _ (by omega) (by omega))
  rw [wi (by omega) (by omega)]
  exact h _ (by omega) (by omega)

/-- An edit, as the laws are told it. -/
structure OpC where
  a : Int
  b : Int
  sa : Option Addr
  sc : Nat
  s : List UInt8
  cp : Bool
def OpC.vals (o : OpC) : List Value := [.int .i64 o.a, .int .i64 o.b, .slice o.sa o.s.length o.sc, .bool o.cp]
theorem OpC.len (o : OpC) : o.vals.length = 4 := rfl
def OpsAt (m : Mem) (a : Option Addr) (os : List OpC) : Prop := CellsAt m a (os.flatMap OpC.vals) ∧ ∀ o ∈ os, CellsAt m o.sa (u8s o.s)
theorem OpsAt.le {m m' : Mem} {a : Option Addr} {os : List OpC} (h : OpsAt m a os) (k : Le m m') : OpsAt m' a os := ⟨h.1.le k, fun o ho => (h.2 o ho).le k⟩
theorem u8s_cells {W : World} {t : TypeId} {cs : List Value} (hr : Rd P W t cs) (ht : P.underlying t = some (.slice T_uint8)) (he : P.underlying T_uint8 = some (.int .u8)) : ∃ a l c bs, cs = [.slice a l c] ∧ l ≤ c ∧ bs.length = l ∧ CellsAt (heapM W) a (u8s bs) := hr.u8s ht he
theorem op_row {W : World} {cs : List Value} (hr : Rd P W T_eyotlaw6_Op cs) : ∃ o : OpC, cs = o.vals ∧ CellsAt (heapM W) o.sa (u8s o.s) := by
  have hl := hr.len (by kernel_rfl)
  have hsz : P.cellsOf T_eyotlaw6_Op = 4 := by kernel_rfl
  rw [hsz] at hl
  obtain ⟨x0, x1, x2, x3, rfl⟩ : ∃ x0 x1 x2 x3, cs = [x0, x1, x2, x3] := by
    match cs, hl with
    | [x0, x1, x2, x3], _ => exact ⟨_, _, _, _, rfl⟩
  have c3 : P.cellsOf T_int = 1 := by kernel_rfl
  have c22 : P.cellsOf T_sl_uint8 = 1 := by kernel_rfl
  have c4 : P.cellsOf T_bool = 1 := by kernel_rfl
  have k0 := hr.field (t' := T_int) (off := 0) (by kernel_rfl)
  have k1 := hr.field (t' := T_int) (off := 1) (by kernel_rfl)
  have k2 := hr.field (t' := T_sl_uint8) (off := 2) (by kernel_rfl)
  have k3 := hr.field (t' := T_bool) (off := 3) (by kernel_rfl)
  rw [c3] at k0 k1
  rw [c22] at k2
  rw [c4] at k3
  obtain ⟨n0, e0, _⟩ := k0.int (k := .i64) (by kernel_rfl)
  obtain ⟨n1, e1, _⟩ := k1.int (k := .i64) (by kernel_rfl)
  obtain ⟨a, l, c, bs, e2, _, hbl, hc⟩ := u8s_cells k2 (by kernel_rfl) (by kernel_rfl)
  obtain ⟨b, e3⟩ := k3.bool (by kernel_rfl)
  simp at e0 e1 e2 e3
  subst e0; subst e1; subst e2; subst e3
  exact ⟨⟨n0, n1, a, c, bs, b⟩, by simp [OpC.vals, hbl], hc⟩
theorem op_rows {W : World} {es : List (List Value)} (h : ∀ x ∈ es, Rd P W T_eyotlaw6_Op x) : ∃ os : List OpC, os.length = es.length ∧ es.flatten = os.flatMap OpC.vals ∧ ∀ o ∈ os, CellsAt (heapM W) o.sa (u8s o.s) := by
  induction es with
  | nil => exact ⟨[], rfl, rfl, fun o h => by cases h⟩
  | cons x es ih =>
    obtain ⟨os, h1, h2, h3⟩ := ih (fun y hy => h y (by simp [hy]))
    obtain ⟨o, ho, hc⟩ := op_row (h x (by simp))
    refine ⟨o :: os, by simp [h1], by rw [List.flatten_cons, h2, ho]; rfl, fun p hp => ?_⟩
    rcases List.mem_cons.1 hp with rfl | hp
    · exact hc
    · exact h3 p hp
theorem arg_ops {W : World} {v : Value} (h : Arg P W T_sl_eyotlaw6_Op v) : ∃ a c os, v = .slice a (List.length os) c ∧ OpsAt (heapM W) a os := by
  obtain ⟨a, l, c, rfl, h1, _, es, h2, h3, h4⟩ := h.sl (e := T_eyotlaw6_Op) (by kernel_rfl)
  obtain ⟨os, h5, h6, h7⟩ := op_rows (fun x hx => (h3 x hx).2)
  have hl : l = (os.take l).length := by simp; omega
  refine ⟨a, c, os.take l, by rw [← hl], ?_, fun o ho => h7 o (List.mem_of_mem_take ho)⟩
  rw [h6, ← List.take_append_drop l os, List.flatMap_append] at h4
  exact h4.left

theorem byt_inj {ps qs : List Pc} (h1 : ∀ p ∈ ps, p.Ok) (h2 : Can ps) (h3 : ∀ p ∈ qs, p.Ok) (h4 : Can qs) (h : byt ps = byt qs) : ps = qs := by
  rw [← pieces_of h1 h2, h, pieces_of h3 h4]

theorem new_good {n : Int} {B : Nat} (h : n ≤ B) (hB : B ≤ 500000) : Gd B (newL n) [] := by
  unfold newL
  split
  · refine ⟨fun p hp => ?_, ?_, by simp, trivial, hB⟩
    · simp at hp; subst hp; unfold Pc.Ok; simp only; omega
    · rw [byt_cons, List.length_append, bytes_len]; simp [byt]; omega
  · exact ⟨fun p hp => by simp at hp, by simp [byt], by simp, trivial, hB⟩

theorem begun6 {m : Mem} {R : Ending → Mem → Prop} (k : ∀ m', Le m m' → R (.returned (.bool true)) m') : HC P eyotlaw6_begun.id #[] m R := by
  refine eyotlaw6_begun.ok _ _ ?_
  refine New_spec ?_
  intro bt F m1 hle1 hF hx
  have g0 : Gd 4 (newL 4) [] := new_good (by decide) (by decide)
  intro b9 hb9
  have hle2 := Le.set hb9 (.cells #[.int .u8 120] T_uint8 (0, 0))
  refine conv_bytes (t := T_sl_uint8) (e := T_uint8) (by kernel_rfl) (by kernel_rfl) (set_same _ _ _) ?_
  rw [set_set]
  have hle3 := Le.set hb9 (.cells #[.int .u8 120] T_uint8 (1, 2))
  refine UnS.mk ?_
  have hlen : (byt (newL 4)).length = 4 := rfl
  refine Edit_ok (Tx.le hle3 hx) g0 (a := 2) (b := 2) (by decide) (by decide) (by decide) (s := [120]) (cells_at (set_same _ _ _) rfl) rfl (by decide) (by decide) ?_ ?_
  · intro _ b e hb; cases e; exact hx.lv _ hb hb9
  intro F' m4 hch hF' hx4
  have hps : edL (newL 4) [] 2 2 [120] = [⟨false, 0, 2⟩, ⟨true, 0, 1⟩, ⟨false, 2, 4⟩] := by rfl
  have g4 : Gd 5 (edL (newL 4) [] 2 2 [120]) ([] ++ [120]) := ed_good (s := [120]) (a := 2) (b := 2) g0 (by decide) (by decide) (by decide)
  rw [hps] at hx4 g4
  have hle4 : Le m m4 := hch.to_le (hle1.trans hle3) hF
  refine Pieces_spec hx4 g4 ?_
  intro pa pc m5 hle5 hp hfp
  refine Find_in (Tx.le hle5 hx4) g4 (by decide) (by decide) ?_
  intro m6 hle6
  refine BrEt rfl ?_
  refine BrEt rfl ?_
  refine IxS.pcs (Own.le hle6 hp).cells rfl (by decide) (by decide) ?_
  intro b o p hpp c1 c2 c3
  cases hpp
  refine LdV.mk c1 ?_
  refine Br.t rfl ?_
  refine Len_spec (Tx.le (hle5.trans hle6) hx4) g4 ?_
  intro m7 hle7
  refine BrEt rfl ?_
  refine Added_spec (Tx.le ((hle5.trans hle6).trans hle7) hx4) g4 ?_
  intro aa ac m8 hle8 ha hfa
  refine ⟨[120], rfl, ha.cells, ?_⟩
  refine Br.t (by simp) ?_
  refine BrEt rfl ?_
  refine BrEt rfl ?_
  exact k m8 ((((hle4.trans hle5).trans hle6).trans hle7).trans hle8)
end Go.E
