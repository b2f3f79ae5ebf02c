/- More laws of memory: appending in place, appending zeros, clear, full slices, function values, slices.overlaps. -/
import Derived.Test.YtjdkdeekniephaaH10
set_option linter.unusedVariables false
set_option linter.unusedSimpArgs false
namespace Go.H

theorem first_cells {P : Program} {m : Mem} (sz n : Nat) (aa : Option Addr) (cc nn : Nat) (vs : List Value) (Q : Array Value → Mem → Prop) (E : Value → Mem → Prop) (hv : CellsAt m aa vs) (hvl : vs.length = nn * sz) (hQ : Q vs.toArray m) :
    pt P (Builtin.firstCells sz nn (.slice aa n cc)) Q E m := by
  rcases hv.cases with ⟨b, o, rfl, hx⟩ | ⟨rfl, _⟩
  · simp only [Builtin.firstCells, loadCells]
    rw [← hvl]
    exact pt_loadCells vs 0 #[] (by simpa using hx) (by simpa using hQ)
  · cases aa with
    | none => exact hQ
    | some aa =>
      simp only [Builtin.firstCells, loadCells]
      rw [← hvl]
      exact hQ

/-- 'append' where there is room: in place. -/
theorem append_room {P : Program} {t e : TypeId} {z : Value} {sz bytes : Nat} (hE : ElemOK P t e z sz bytes) {m : Mem} {ty : TypeId} {cs : Array Bool}
    {b o l c : Nat} {cur : Array Value} (hb : m b = some (.cells cur e (0, 0))) {a2 : Option Addr} {l2 c2 : Nat} {news : List Value} (hc : CellsAt m a2 news) (hl : news.length = l2 * sz)
    (hone : ∀ v ∈ news, notOne v = false) (hroom : l + l2 ≤ c) (hfit : o + l * sz + news.length ≤ cur.size) {K : Value → Mem → Prop} {Pn : List PanicEntry → Mem → Prop}
    (h : K (.slice (some ⟨b, o, none⟩) (l + l2) c) (m.set b (.cells (putCells cur (o + l * sz) news) e (0, 0)))) :
    BiN P .append #[t, t] ty cs #[.slice (some ⟨b, o, none⟩) l c, .slice a2 l2 c2] m K Pn := by
  obtain ⟨i, hi, hzi, rfl, rfl⟩ := hE.hi
  unfold BiN
  show pt P (do pure (Next.value (← Builtin.append_ #[t, t] ty #[.slice (some ⟨b, o, none⟩) l c, .slice a2 l2 c2])) : Sem Next) _ _ m
  rw [pt_bind]
  unfold Builtin.append_
  simp only [List.getElem?_toArray, List.getElem?_cons_zero, List.getElem?_cons_succ]
  rw [pt_bind, pt_under hE.ht]
  simp only []
  rw [pt_bind, pt_sizeOf hi, pt_bind, pt_under hE.ht]
  simp only [pt_bind, pt_pure, Bool.false_eq_true, if_false, Builtin.lenOf]
  rw [pt_ite, if_pos hroom]
  simp only [Bool.not_false, if_true]
  rw [pt_bind]
  refine first_cells _ l2 a2 c2 l2 news _ _ hc hl ?_
  simp only []
  rw [pt_bind, add_none]
  refine pt_storeCells news 0 m cur hb hone (by simpa using hfit) ?_
  simp only [pt_pure]
  exact h

theorem zeroCells_one (z : Array Value) (n : Nat) : (Builtin.zeroCells z n).size = n * z.size := by simp [Builtin.zeroCells]

/-- 'append(s, make([]T, n)...)' where there is no room. -/
theorem append_zeros {P : Program} {t e t2 : TypeId} {z : Value} {sz bytes : Nat} (hE : ElemOK P t e z sz bytes) (ht2 : P.underlying t2 = some (.int .i64)) {m : Mem} {ty : TypeId} {cs : Array Bool}
    {a : Option Addr} {l c : Nat} {xs : List Value} (ho : CellsAt m a xs) (hxl : xs.length = l * sz) {n : Int} (h0 : 0 < n) (h1 : n ≤ 1000000) (hl1 : l ≤ 1000000) (hsz : 0 < sz) (hby : bytes ≤ 1000) (hroom : ¬ l + n.toNat ≤ c) {K : Value → Mem → Prop} {Pn : List PanicEntry → Mem → Prop}
    (h : ∀ b c' cur, m b = none → l + n.toNat ≤ c' → c' ≤ 9223372036854775807 → cur.size = c' * sz → cur.toList.take (l * sz) = xs → K (.slice (some ⟨b, 0, none⟩) (l + n.toNat) c') (m.set b (.cells cur e (0, 0)))) :
    BiN P .append #[t, t2] ty cs #[.slice a l c, .int .i64 n] m K Pn := by
  obtain ⟨i, hi, hzi, rfl, rfl⟩ := hE.hi
  unfold BiN
  show pt P (do pure (Next.value (← Builtin.append_ #[t, t2] ty #[.slice a l c, .int .i64 n])) : Sem Next) _ _ m
  rw [pt_bind]
  unfold Builtin.append_
  simp only [List.getElem?_toArray, List.getElem?_cons_zero, List.getElem?_cons_succ]
  rw [pt_bind, pt_under hE.ht]
  simp only []
  rw [pt_bind, pt_sizeOf hi, pt_bind, pt_under ht2]
  simp only [pt_bind, pt_pure, if_true]
  have hw : IntKind.i64.wrap n = n := by rw [IntKind.wrap_i64]; omega
  have hasInt : ∀ (Q : Int → Mem → Prop) E, Q n m → pt P (asInt (.int .i64 n)) Q E m := by
    intro Q E hQ
    simpa [asInt, asIntOf, pt_bind, pt_pure] using hQ
  refine hasInt _ _ ?_
  have hp : (2 : Int) ^ 48 = 281474976710656 := rfl
  have hmul : n * (i.bytes : Int) ≤ 1000000 * 1000 := Int.mul_le_mul h1 (by omega) (by omega) (by omega)
  rw [hw]
  simp only [pt_ite, pt_bind, pt_typeInfo hi, pt_pure]
  rw [if_neg (by omega), if_neg (by rw [hp]; omega)]
  have hn0 : n.toNat * i.size ≠ 0 := by
    have : 0 < n.toNat * i.size := Nat.mul_pos (by omega) hsz
    omega
  have hmax : ¬ (((l + n.toNat : Nat) : Int) > IntKind.i64.max ∧ (True ∨ i.bytes = 0)) := by
    rintro ⟨h1, _⟩
    have : IntKind.i64.max = 9223372036854775807 := rfl
    rw [this] at h1; omega
  have hnext : ¬ Builtin.nextslicecap (l + n.toNat) c * i.bytes > 2 ^ 48 := by
    have h1 := Nat.mul_le_mul (nextcap_le (l + n.toNat) c (by omega)) hby
    have : (2 : Nat) ^ 48 = 281474976710656 := rfl
    omega
  rw [if_neg hroom, if_neg hmax, if_neg hnext]
  intro tp
  have hge : l + n.toNat ≤ (Question.appendCap (l + n.toNat) c e).cut tp := by simp [Question.cut]
  have hlt63 : (Question.appendCap (l + n.toNat) c e).cut tp ≤ 9223372036854775807 := by
    have h1 : tp % (2 ^ 63 - (l + n.toNat)) < 2 ^ 63 - (l + n.toNat) := Nat.mod_lt _ (by omega)
    simp only [Question.cut]
    omega
  generalize (Question.appendCap (l + n.toNat) c e).cut tp = nc at hge hlt63 ⊢
  rw [show ∀ (Q : Nat → Mem → Prop) E, pt P (Sem.pure nc) Q E m = Q nc m from fun _ _ => rfl]
  have hask : ∀ n (Q : Unit → Mem → Prop) E, Q () m → pt P (askRoom n) Q E m := by
    intro n Q E hQ; unfold askRoom; split <;> exact hQ
  refine hask _ _ _ ?_
  refine first_cells _ l a c l xs _ _ ho hxl ?_
  simp only [Bool.not_true, Bool.false_eq_true, if_false]
  rw [if_neg hn0, pt_zero hi hzi, pt_zero hi hzi, pt_newRow]
  intro b hb
  refine h b nc _ hb hge hlt63 ?_ ?_
  · simp only [Array.size_append, zeroCells_one, hE.hz]
    simp only [List.size_toArray, hxl, ← Nat.add_mul]
    congr 1; omega
  · simp only [Array.toList_append]
    rw [← hxl, List.append_assoc]
    exact List.take_left' rfl

/-- 'clear(s)' of a row of one's own. -/
theorem clear_row {P : Program} {t e : TypeId} {z : Value} {sz bytes : Nat} (hE : ElemOK P t e z sz bytes) (hzo : ∀ v ∈ z.cells.toList, notOne v = false) {m : Mem} {ty : TypeId} {cs : Array Bool}
    {b o l c : Nat} {cur : Array Value} (hb : m b = some (.cells cur e (0, 0))) (hfit : o + l * sz ≤ cur.size) {K : Value → Mem → Prop} {Pn : List PanicEntry → Mem → Prop}
    (h : ∀ zs : List Value, zs.length = l * sz → K (.tuple #[]) (m.set b (.cells (putCells cur o zs) e (0, 0)))) :
    BiN P .clear #[t] ty cs #[.slice (some ⟨b, o, none⟩) l c] m K Pn := by
  obtain ⟨i, hi, hzi, rfl, rfl⟩ := hE.hi
  unfold BiN
  show pt P (do pure (Next.value (← Builtin.clear_ #[t] ty #[.slice (some ⟨b, o, none⟩) l c])) : Sem Next) _ _ m
  rw [pt_bind]
  unfold Builtin.clear_
  simp only [List.getElem?_toArray, List.getElem?_cons_zero]
  rw [pt_bind, pt_under hE.ht]
  have hsame : m.set b (.cells cur e (0, 0)) = m := by
    funext k; by_cases hk : k = b
    · subst hk; rw [set_same, hb]
    · rw [set_other _ _ hk]
  cases l with
  | zero =>
    simp only [pt_bind, pt_pure]
    have := h [] (by simp)
    rw [putCells, hsame] at this
    exact this
  | succ l =>
    simp only []
    rw [pt_bind, pt_zero hi hzi, pt_bind]
    refine pt_storeCells _ 0 m cur hb ?_ ?_ ?_
    · intro v hv
      simp only [Builtin.zeroCells, Array.mem_toList_iff, Array.mem_map, Array.mem_range] at hv
      obtain ⟨j, hj, rfl⟩ := hv
      have hzs : z.cells.size ≠ 0 := fun e => by rw [e] at hj; simp at hj
      have hlt : j % z.cells.size < z.cells.size := Nat.mod_lt _ (by omega)
      rw [getElem!_pos z.cells _ hlt]
      exact hzo _ (by simp)
    · rw [Array.length_toList, zeroCells_one, hE.hz]; simpa using hfit
    · simp only [pt_pure]
      exact h _ (by rw [Array.length_toList, zeroCells_one, hE.hz])

theorem sl3_ok {P : Program} {t e : TypeId} {z : Value} {sz bytes : Nat} (hE : ElemOK P t e z sz bytes) {m : Mem} {a : Option Addr} {l c : Nat} {lo hi mx : Int} (h0 : 0 ≤ lo) (h1 : lo ≤ hi) (h2 : hi ≤ mx) (h3 : mx ≤ c) {K : Value → Prop} (h : ∀ v, K v) :
    Sl3N P m t (.slice a l c) (.int .i64 lo) (.int .i64 hi) (.int .i64 mx) K := by
  obtain ⟨i, hi', hzi, rfl, rfl⟩ := hE.hi
  unfold Sl3N
  rw [pq_bind]
  unfold Instr.sliceAt
  rw [pq_bind, pq_under hE.ht]
  simp only []
  unfold Instr.slice
  rw [pq_bind, pq_under hE.ht]
  simp only []
  rw [pq_bind]
  unfold Instr.sliceBounds
  have hb : ∀ (x : Int) (y : Nat) (code : BoundsCode) (Q : Nat → Prop), 0 ≤ x → x ≤ y → Q x.toNat → pq P (Instr.sliceBound (.int .i64 x) y code) Q m := by
    intro x y code Q hx hy hQ
    unfold Instr.sliceBound
    rw [pq_bind]
    show pq P (pure (IntKind.i64, x)) _ m
    rw [pq_pure]
    simp only [hx, hy, and_self, if_true]
    exact hQ
  simp only [pq_bind]
  refine hb mx c _ _ (by omega) h3 ?_
  try simp only []
  refine hb hi mx.toNat _ _ (by omega) (by omega) ?_
  try simp only []
  refine hb lo hi.toNat _ _ h0 (by omega) ?_
  simp only [pq_pure]
  have hsz : ∀ Q : Nat → Prop, Q i.size → pq P (Go.sizeOf e) Q m := by
    intro Q hQ
    unfold Go.sizeOf
    rw [pq_bind]
    show pq P ((Sem.program .pure).bind _) _ m
    simp only [Sem.bind, pq, hi']
    exact hQ
  refine hsz _ ?_
  exact h _

theorem CallV.of {P : Program} {g : FuncId} {first cap args : Array Value} {m : Mem} {R : Ending → Mem → Prop} (h : HC P g (first ++ args ++ cap) m R) : CallV P (.func (.func g) first cap) args m R := h

theorem overlaps_pt {P : Program} {t e : TypeId} {z : Value} {i : TypeInfo} {rs : Array TypeId} (hE : ElemOK P t e z i.size i.bytes) (hi' : P.info? e = some i) {m : Mem} {b1 o1 l1 c1 b2 o2 l2 c2 : Nat} {cur1 cur2 : Array Value}
    (h1 : m b1 = some (.cells cur1 e (0, 0))) (h2 : m b2 = some (.cells cur2 e (0, 0))) (hne : b1 ≠ b2) {Q : Value → Mem → Prop} {E : Value → Mem → Prop} (k : Q (.bool false) m) :
    pt P (Extern.SlicesOverlaps.overlaps #[t, t] rs #[.slice (some ⟨b1, o1, none⟩) l1 c1, .slice (some ⟨b2, o2, none⟩) l2 c2]) Q E m := by
  delta Extern.SlicesOverlaps.overlaps
  show pt P (underlying t >>= _) Q E m
  rw [pt_bind, pt_under hE.ht]
  simp only []
  rw [pt_bind, pt_sizeOf hi']
  rw [pt_ite]
  split
  · exact k
  · have hfz : ∀ (b o : Nat) (cur : Array Value) (Q : Bool → Mem → Prop) E, m b = some (.cells cur e (0, 0)) → Q false m → pt P (frozen ⟨b, o, none⟩) Q E m := by
      intro b o cur Q E hb hQ
      refine ⟨_, hb, ?_⟩
      have : frozenOf (.cells cur e (0, 0)) o = false := by simp [frozenOf]
      show Q (frozenOf _ o) m
      rw [this]; exact hQ
    have hsh : ∀ (b : Nat) (cur : Array Value) (Q : Option (TypeId × Nat) → Mem → Prop) E, m b = some (.cells cur e (0, 0)) → Q (some (e, cur.size)) m → pt P (shape b) Q E m := by
      intro b cur Q E hb hQ
      exact ⟨_, hb, hQ⟩
    have hstr : ∀ (b o : Nat) (cur : Array Value) (Q : Bool → Mem → Prop) E, m b = some (.cells cur e (0, 0)) → Q false m → pt P (stringish ⟨b, o, none⟩) Q E m := by
      intro b o cur Q E hb hQ
      unfold stringish
      rw [pt_bind]
      refine hfz b o cur _ _ hb ?_
      simp only [Bool.false_eq_true, if_false]
      rw [pt_bind]
      refine hsh b cur _ _ hb ?_
      exact hfz b _ cur _ _ hb hQ
    have hview : ∀ (b : Nat) (cur : Array Value) (Q : Option _ → Mem → Prop) E, m b = some (.cells cur e (0, 0)) → Q none m → pt P (viewAt b) Q E m := by
      intro b cur Q E hb hQ
      unfold viewAt
      rw [pt_bind]
      refine hsh b cur _ _ hb ?_
      exact hQ
    rw [pt_bind]
    refine hfz b1 o1 cur1 _ _ h1 ?_
    rw [pt_bind]
    refine hfz b2 o2 cur2 _ _ h2 ?_
    simp only [Bool.and_false, Bool.false_and, Bool.false_eq_true, if_false]
    have hbne : (b1 != b2) = true := by simpa using hne
    simp only [hbne, if_true]
    unfold noView
    rw [pt_bind, pt_bind]
    refine hview b1 cur1 _ _ h1 ?_
    simp only [Option.isSome_none, Bool.false_eq_true, if_false, pt_pure]
    rw [pt_bind, pt_bind]
    refine hview b2 cur2 _ _ h2 ?_
    simp only [Option.isSome_none, Bool.false_eq_true, if_false, pt_pure]
    rw [pt_bind]
    unfold mayBeOne
    rw [pt_bind]
    refine hstr b1 o1 cur1 _ _ h1 ?_
    rw [pt_bind]
    refine hstr b2 o2 cur2 _ _ h2 ?_
    simp only []
    rw [pt_bind, pt_bind]
    refine hsh b1 cur1 _ _ h1 ?_
    simp only [pt_pure]
    rw [pt_bind, pt_bind]
    refine hsh b2 cur2 _ _ h2 ?_
    simp only [pt_pure, Bool.and_false, Bool.false_and, Bool.or_false, Bool.false_eq_true, if_false]
    have hbf : (b1 == b2) = false := by simpa using hne
    rw [hbf]
    exact k
/-- 'slices.overlaps' of rows of two blocks. -/
theorem overlaps_no {P : Program} {g : FuncId} {fn : Func} {t e : TypeId} {z : Value} {sz bytes : Nat} {rs : Array TypeId} (hE : ElemOK P t e z sz bytes) (hf : P.funcs[g]? = some fn) (hn : (fn.name == "runtime.NumGoroutine") = false) (hb : fn.body.isNone = true)
    (hx : Extern.findNext fn = none) (hy : Extern.find fn = some (Extern.SlicesOverlaps.overlaps #[t, t] rs)) {m : Mem} {b1 o1 l1 c1 b2 o2 l2 c2 : Nat} {cur1 cur2 : Array Value}
    (h1 : m b1 = some (.cells cur1 e (0, 0))) (h2 : m b2 = some (.cells cur2 e (0, 0))) (hne : b1 ≠ b2) {R : Ending → Mem → Prop} (k : R (.returned (.bool false)) m) :
    HC P g #[.slice (some ⟨b1, o1, none⟩) l1 c1, .slice (some ⟨b2, o2, none⟩) l2 c2] m R := by
  obtain ⟨i, hi', hzi, rfl, rfl⟩ := hE.hi
  refine .inr ?_
  generalize hov : Extern.SlicesOverlaps.overlaps #[t, t] rs = ov at hy
  have key : pt P (ov #[.slice (some ⟨b1, o1, none⟩) l1 c1, .slice (some ⟨b2, o2, none⟩) l2 c2]) (fun v m' => R (.returned v) m') (fun v m' => R (.panicked [{ v := v, recovered := false }]) m') m := by
    subst hov
    refine overlaps_pt hE hi' h1 h2 hne k
  unfold callFunc
  rw [pt_bind]
  show pt P (Sem.program .pure) _ _ m
  simp only [pt]
  rw [hf]
  simp only [hn, Bool.false_eq_true, if_false, hb, if_true]
  rw [pt_bind]
  show pt P (Sem.mark _ (Sem.pure ())) _ _ m
  simp only [pt, hx, hy]
  rw [pt_bind]
  exact key
theorem rows_get {α : Type} {f : α → List Value} {sz : Nat} (hf : ∀ x, (f x).length = sz) : ∀ {rows : List α} {i : Nat} {x : α}, rows[i]? = some x → ∀ j u, (f x)[j]? = some u → (rows.flatMap f)[i * sz + j]? = some u
  | [], i, x, h, _, _, _ => by simp at h
  | y :: r, 0, x, h, j, u, hu => by
    simp at h; subst h
    rw [List.flatMap_cons, Nat.zero_mul, Nat.zero_add, List.getElem?_append_left]
    · exact hu
    · rcases Nat.lt_or_ge j (f y).length with h | h
      · exact h
      · rw [List.getElem?_eq_none h] at hu; cases hu
  | y :: r, i + 1, x, h, j, u, hu => by
    have ih := rows_get hf (rows := r) (i := i) (x := x) (by simpa using h) j u hu
    have e : (i + 1) * sz + j - (f y).length = i * sz + j := by rw [hf, Nat.add_mul, Nat.one_mul]; omega
    rw [List.flatMap_cons, List.getElem?_append_right (by rw [hf, Nat.add_mul, Nat.one_mul]; omega), e]
    exact ih
theorem rows_len {α : Type} {f : α → List Value} {sz : Nat} (hf : ∀ x, (f x).length = sz) : ∀ (rows : List α), (rows.flatMap f).length = rows.length * sz
  | [] => by simp
  | y :: r => by rw [List.flatMap_cons, List.length_append, hf, rows_len hf r, List.length_cons, Nat.add_mul, Nat.one_mul]; omega
theorem rows_take {α : Type} {f : α → List Value} {sz : Nat} (hf : ∀ x, (f x).length = sz) : ∀ (rows : List α) (n : Nat), (rows.flatMap f).take (n * sz) = (rows.take n).flatMap f
  | [], n => by simp
  | y :: r, 0 => by simp
  | y :: r, n + 1 => by
    rw [List.flatMap_cons, List.take_succ_cons, List.flatMap_cons, ← rows_take hf r n, List.take_append, List.take_of_length_le (by rw [hf, Nat.add_mul]; omega), hf, Nat.add_mul, Nat.one_mul, Nat.add_sub_cancel]
theorem rows_drop {α : Type} {f : α → List Value} {sz : Nat} (hf : ∀ x, (f x).length = sz) : ∀ (rows : List α) (n : Nat), (rows.flatMap f).drop (n * sz) = (rows.drop n).flatMap f
  | [], n => by simp
  | y :: r, 0 => by simp
  | y :: r, n + 1 => by
    rw [List.flatMap_cons, List.drop_succ_cons, ← rows_drop hf r n, List.drop_append, List.drop_of_length_le (by rw [hf, Nat.add_mul]; omega), hf, Nat.add_mul, Nat.one_mul, Nat.add_sub_cancel, List.nil_append]
theorem IxS.rows {α : Type} {f : α → List Value} {sz : Nat} (hf : ∀ x, (f x).length = sz) (hsz : 0 < sz) {m : Mem} {a : Option Addr} {len : Nat} {rows : List α} (hc : CellsAt m a (rows.flatMap f)) (hl : rows.length = len) {i : Int} (h0 : 0 ≤ i) (h1 : i < len) {K : Nat → Nat → Prop}
    (k : ∀ b o x, rows[i.toNat]? = some x → (∀ j u, (f x)[j]? = some u → m.cell b (o + j) = some u) → K b o) : IxS a len i sz K := by
  refine ⟨h0, h1, ?_⟩
  have hlt : i.toNat < rows.length := by omega
  have hg := List.getElem?_eq_getElem hlt
  rcases hc.cases with ⟨b, o, rfl, hx⟩ | ⟨hx, _⟩
  · refine k b (o + i.toNat * sz) _ hg ?_
    intro j u hu
    have := hx _ u (rows_get hf hg j u hu)
    rw [Nat.add_assoc]; exact this
  · have := rows_len hf rows
    rw [hx] at this
    simp only [List.length_nil] at this
    have : 0 < rows.length * sz := Nat.mul_pos (by omega) hsz
    omega
theorem St1.three {m : Mem} {b : Nat} {x0 x1 x2 u0 u1 u2 : Value} {e : TypeId} {K : Mem → Prop} (h : m b = some (.cells #[x0, x1, x2] e (0, 0))) (h0 : notOne u0 = false) (h1 : notOne u1 = false) (h2 : notOne u2 = false)
    (k : K (m.set b (.cells #[u0, u1, u2] e (0, 0)))) : St1 m b 0 u0 fun m' => St1 m' b 1 u1 fun m' => St1 m' b 2 u2 K := by
  refine St1.to #[u0, x1, x2] (o := 0) h (by simp) h0 rfl ?_
  refine St1.to #[u0, u1, x2] (o := 1) (set_same _ _ _) (by simp) h1 rfl ?_
  rw [set_set]
  refine St1.to #[u0, u1, u2] (o := 2) (set_same _ _ _) (by simp) h2 rfl ?_
  rw [set_set]
  exact k
theorem shf0 (b o sz c : Nat) : shf (some ⟨b, o, none⟩) (0 : Int).toNat sz c = some ⟨b, o, none⟩ := by
  unfold shf; split
  · rfl
  · simp [add_none]
theorem shf_at {b o l sz c : Nat} (h : l < c) : shf (some ⟨b, o, none⟩) l sz c = some ⟨b, o + l * sz, none⟩ := by
  unfold shf
  rw [if_neg (by omega)]
  simp [add_none]
/-- Cells put behind each other, in either order of time. -/
theorem put_two {cur : Array Value} {xs ys : List Value} (h : xs.length + ys.length ≤ cur.size) : (putCells (putCells cur xs.length ys) 0 xs).toList.take (xs.length + ys.length) = xs ++ ys := by
  apply List.ext_getElem?
  intro j
  rw [List.getElem?_take, Array.getElem?_toList, putCells_get _ _ _ _ (by rw [putCells_size]; omega), putCells_get _ _ _ _ (by omega), List.getElem?_append]
  simp only [Nat.zero_add, Nat.zero_le, true_and, Nat.sub_zero]
  by_cases h1 : j < xs.length
  · rw [if_pos (by omega), if_pos h1, if_pos h1]
  · by_cases h2 : j < xs.length + ys.length
    · rw [if_pos h2, if_neg h1, if_pos (by omega), if_neg h1]
    · rw [if_neg h2, if_neg h1, List.getElem?_eq_none (by omega)]
theorem put_two' {cur : Array Value} {xs ys : List Value} (h : xs.length + ys.length ≤ cur.size) : (putCells (putCells cur 0 xs) xs.length ys).toList.take (xs.length + ys.length) = xs ++ ys := by
  apply List.ext_getElem?
  intro j
  rw [List.getElem?_take, Array.getElem?_toList, putCells_get _ _ _ _ (by rw [putCells_size]; omega), putCells_get _ _ _ _ (by omega), List.getElem?_append]
  simp only [Nat.zero_add, Nat.zero_le, true_and, Nat.sub_zero]
  by_cases h1 : j < xs.length
  · rw [if_pos (by omega), if_neg (by omega), if_pos h1, if_pos h1]
  · by_cases h2 : j < xs.length + ys.length
    · rw [if_pos h2, if_pos (by omega), if_neg h1]
    · rw [if_neg h2, if_neg h1, List.getElem?_eq_none (by omega)]
theorem put_cut {cur : Array Value} {xs ys zs : List Value} {p : Nat} (hx : cur.toList.take p = xs) (hp : p ≤ cur.size) (h : p + ys.length + zs.length ≤ cur.size) : (putCells (putCells cur p ys) (p + ys.length) zs).toList.take (p + ys.length) = xs ++ ys := by
  have hxl : xs.length = p := by rw [← hx, List.length_take]; simp; omega
  apply List.ext_getElem?
  intro j
  rw [List.getElem?_take, Array.getElem?_toList, putCells_get _ _ _ _ (by rw [putCells_size]; omega), putCells_get _ _ _ _ (by omega), List.getElem?_append]
  by_cases h1 : j < p
  · rw [if_pos (by omega), if_neg (by omega), if_neg (by omega), if_pos (by omega), ← hx, List.getElem?_take, if_pos h1, Array.getElem?_toList]
  · by_cases h2 : j < p + ys.length
    · rw [if_pos h2, if_neg (by omega), if_pos (by omega), if_neg (by omega), hxl]
    · rw [if_neg h2, if_neg (by omega), List.getElem?_eq_none (by omega)]
/-- The first elements of an own row. -/
theorem Own.take {m : Mem} {e : TypeId} {sz : Nat} {a : Option Addr} {l c : Nat} {xs : List Value} (h : Own m e sz a l c xs) {n : Nat} (hn : n ≤ l) : Own m e sz a n c (xs.take (n * sz)) := by
  obtain ⟨hl, hx⟩ := h
  have hns : n * sz ≤ l * sz := Nat.mul_le_mul_right _ hn
  refine ⟨by rw [List.length_take, hl]; omega, ?_⟩
  rcases hx with ⟨rfl, rfl, rfl⟩ | ⟨b, cur, rfl, hb, hlc, hs, ht, hcm⟩
  · exact .inl ⟨rfl, by omega, rfl⟩
  · refine .inr ⟨b, cur, rfl, hb, by omega, hs, ?_, hcm⟩
    rw [← ht, List.take_take]
    congr 1; omega
end Go.H
