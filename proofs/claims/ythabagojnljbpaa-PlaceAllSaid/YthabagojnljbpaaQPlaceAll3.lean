/- This project's own logic, printed forms and lemmas, as far as this claim needs them (part 3). -/
import Derived.Test.YthabagojnljbpaaQPlaceAll2
set_option linter.unusedVariables false
set_option linter.unusedSimpArgs false
namespace Go.H
theorem first_cells {P : Program} {m : Mem} (sz n : Nat) (aa : Option Addr) (cc nn : Nat) (vs : List Value) (Q : Array Value → Mem → Prop) (E : Value → Mem → Prop) (hv : CellsAt m aa vs) (hvl : vs.length = nn * sz) (hQ : Q vs.toArray m) :
    pt P (Builtin.firstCells sz nn (.slice aa n cc)) Q E m := by
  rcases hv.cases with ⟨b, o, rfl, hx⟩ | ⟨rfl, _⟩
  · simp only [Builtin.firstCells, loadCells]
    rw [← hvl]
    exact pt_loadCells vs 0 #[] (by simpa using hx) (by simpa using hQ)
  · cases aa with
    | none => exact hQ
    | some aa =>
      simp only [Builtin.firstCells, loadCells]
      rw [← hvl]
      exact hQ
theorem zeroCells_one (z : Array Value) (n : Nat) : (Builtin.zeroCells z n).size = n * z.size := by simp [Builtin.zeroCells]
/-- 'append(s, make([]T, n)...)' where there is no room. -/
theorem append_zeros {P : Program} {t e t2 : TypeId} {z : Value} {sz bytes : Nat} (hE : ElemOK P t e z sz bytes) (ht2 : P.underlying t2 = some (.int .i64)) {m : Mem} {ty : TypeId} {cs : Array Bool}
    {a : Option Addr} {l c : Nat} {xs : List Value} (ho : CellsAt m a xs) (hxl : xs.length = l * sz) {n : Int} (h0 : 0 < n) (h1 : n ≤ 1000000) (hl1 : l ≤ 1000000) (hsz : 0 < sz) (hby : bytes ≤ 1000) (hroom : ¬ l + n.toNat ≤ c) {K : Value → Mem → Prop} {Pn : List PanicEntry → Mem → Prop}
    (h : ∀ b c' cur, m b = none → l + n.toNat ≤ c' → c' ≤ 9223372036854775807 → cur.size = c' * sz → cur.toList.take (l * sz) = xs → K (.slice (some ⟨b, 0, none⟩) (l + n.toNat) c') (m.set b (.cells cur e (0, 0)))) :
    BiN P .append #[t, t2] ty cs #[.slice a l c, .int .i64 n] m K Pn := by
  obtain ⟨i, hi, hzi, rfl, rfl⟩ := hE.hi
  unfold BiN
  show pt P (do pure (Next.value (← Builtin.append_ #[t, t2] ty #[.slice a l c, .int .i64 n])) : Sem Next) _ _ m
  rw [pt_bind]
  unfold Builtin.append_
  simp only [List.getElem?_toArray, List.getElem?_cons_zero, List.getElem?_cons_succ]
  rw [pt_bind, pt_under hE.ht]
  simp only []
  rw [pt_bind, pt_sizeOf hi, pt_bind, pt_under ht2]
  simp only [pt_bind, pt_pure, if_true]
  have hw : IntKind.i64.wrap n = n := by rw [IntKind.wrap_i64]; omega
  have hasInt : ∀ (Q : Int → Mem → Prop) E, Q n m → pt P (asInt (.int .i64 n)) Q E m := by
    intro Q E hQ
    simpa [asInt, asIntOf, pt_bind, pt_pure] using hQ
  refine hasInt _ _ ?_
  have hp : (2 : Int) ^ 48 = 281474976710656 := rfl
  have hmul : n * (i.bytes : Int) ≤ 1000000 * 1000 := Int.mul_le_mul h1 (by omega) (by omega) (by omega)
  rw [hw]
  simp only [pt_ite, pt_bind, pt_typeInfo hi, pt_pure]
  rw [if_neg (by omega), if_neg (by rw [hp]; omega)]
  have hn0 : n.toNat * i.size ≠ 0 := by
    have : 0 < n.toNat * i.size := Nat.mul_pos (by omega) hsz
    omega
  have hmax : ¬ (((l + n.toNat : Nat) : Int) > IntKind.i64.max ∧ (True ∨ i.bytes = 0)) := by
    rintro ⟨h1, _⟩
    have : IntKind.i64.max = 9223372036854775807 := rfl
    rw [this] at h1; omega
  have hnext : ¬ Builtin.nextslicecap (l + n.toNat) c * i.bytes > 2 ^ 48 := by
    have h1 := Nat.mul_le_mul (nextcap_le (l + n.toNat) c (by omega)) hby
    have : (2 : Nat) ^ 48 = 281474976710656 := rfl
    omega
  rw [if_neg hroom, if_neg hmax, if_neg hnext]
  intro tp
  have hge : l + n.toNat ≤ (Question.appendCap (l + n.toNat) c e).cut tp := by simp [Question.cut]
  have hlt63 : (Question.appendCap (l + n.toNat) c e).cut tp ≤ 9223372036854775807 := by
    have h1 : tp % (2 ^ 63 - (l + n.toNat)) < 2 ^ 63 - (l + n.toNat) := Nat.mod_lt _ (by omega)
    simp only [Question.cut]
    omega
  generalize (Question.appendCap (l + n.toNat) c e).cut tp = nc at hge hlt63 ⊢
  rw [show ∀ (Q : Nat → Mem → Prop) E, pt P (Sem.pure nc) Q E m = Q nc m from fun _ _ => rfl]
  have hask : ∀ n (Q : Unit → Mem → Prop) E, Q () m → pt P (askRoom n) Q E m := by
    intro n Q E hQ; unfold askRoom; split <;> exact hQ
  refine hask _ _ _ ?_
  refine first_cells _ l a c l xs _ _ ho hxl ?_
  simp only [Bool.not_true, Bool.false_eq_true, if_false]
  rw [if_neg hn0, pt_zero hi hzi, pt_zero hi hzi, pt_newRow]
  intro b hb
  refine h b nc _ hb hge hlt63 ?_ ?_
  · simp only [Array.size_append, zeroCells_one, hE.hz]
    simp only [List.size_toArray, hxl, ← Nat.add_mul]
    congr 1; omega
  · simp only [Array.toList_append]
    rw [← hxl, List.append_assoc]
    exact List.take_left' rfl
theorem CallV.of {P : Program} {g : FuncId} {first cap args : Array Value} {m : Mem} {R : Ending → Mem → Prop} (h : HC P g (first ++ args ++ cap) m R) : CallV P (.func (.func g) first cap) args m R := h
theorem rows_get {α : Type} {f : α → List Value} {sz : Nat} (hf : ∀ x, (f x).length = sz) : ∀ {rows : List α} {i : Nat} {x : α}, rows[i]? = some x → ∀ j u, (f x)[j]? = some u → (rows.flatMap f)[i * sz + j]? = some u
  | [], i, x, h, _, _, _ => by simp at h
  | y :: r, 0, x, h, j, u, hu => by
    simp at h; subst h
    rw [List.flatMap_cons, Nat.zero_mul, Nat.zero_add, List.getElem?_append_left]
    · exact hu
    · rcases Nat.lt_or_ge j (f y).length with h | h
      · exact h
      · rw [List.getElem?_eq_none h] at hu; cases hu
  | y :: r, i + 1, x, h, j, u, hu => by
    have ih := rows_get hf (rows := r) (i := i) (x := x) (by simpa using h) j u hu
    have e : (i + 1) * sz + j - (f y).length = i * sz + j := by rw [hf, Nat.add_mul, Nat.one_mul]; omega
    rw [List.flatMap_cons, List.getElem?_append_right (by rw [hf, Nat.add_mul, Nat.one_mul]; omega), e]
    exact ih
theorem rows_len {α : Type} {f : α → List Value} {sz : Nat} (hf : ∀ x, (f x).length = sz) : ∀ (rows : List α), (rows.flatMap f).length = rows.length * sz
  | [] => by simp
  | y :: r => by rw [List.flatMap_cons, List.length_append, hf, rows_len hf r, List.length_cons, Nat.add_mul, Nat.one_mul]; omega
theorem IxS.rows {α : Type} {f : α → List Value} {sz : Nat} (hf : ∀ x, (f x).length = sz) (hsz : 0 < sz) {m : Mem} {a : Option Addr} {len : Nat} {rows : List α} (hc : CellsAt m a (rows.flatMap f)) (hl : rows.length = len) {i : Int} (h0 : 0 ≤ i) (h1 : i < len) {K : Nat → Nat → Prop}
    (k : ∀ b o x, rows[i.toNat]? = some x → (∀ j u, (f x)[j]? = some u → m.cell b (o + j) = some u) → K b o) : IxS a len i sz K := by
  refine ⟨h0, h1, ?_⟩
  have hlt : i.toNat < rows.length := by omega
  have hg := List.getElem?_eq_getElem hlt
  rcases hc.cases with ⟨b, o, rfl, hx⟩ | ⟨hx, _⟩
  · refine k b (o + i.toNat * sz) _ hg ?_
    intro j u hu
    have := hx _ u (rows_get hf hg j u hu)
    rw [Nat.add_assoc]; exact this
  · have := rows_len hf rows
    rw [hx] at this
    simp only [List.length_nil] at this
    have : 0 < rows.length * sz := Nat.mul_pos (by omega) hsz
    omega
theorem St1.three {m : Mem} {b : Nat} {x0 x1 x2 u0 u1 u2 : Value} {e : TypeId} {K : Mem → Prop} (h : m b = some (.cells #[x0, x1, x2] e (0, 0))) (h0 : notOne u0 = false) (h1 : notOne u1 = false) (h2 : notOne u2 = false)
    (k : K (m.set b (.cells #[u0, u1, u2] e (0, 0)))) : St1 m b 0 u0 fun m' => St1 m' b 1 u1 fun m' => St1 m' b 2 u2 K := by
  refine St1.to #[u0, x1, x2] (o := 0) h (by simp) h0 rfl ?_
  refine St1.to #[u0, u1, x2] (o := 1) (set_same _ _ _) (by simp) h1 rfl ?_
  rw [set_set]
  refine St1.to #[u0, u1, u2] (o := 2) (set_same _ _ _) (by simp) h2 rfl ?_
  rw [set_set]
  exact k
/-- The first elements of an own row. -/
theorem Own.take {m : Mem} {e : TypeId} {sz : Nat} {a : Option Addr} {l c : Nat} {xs : List Value} (h : Own m e sz a l c xs) {n : Nat} (hn : n ≤ l) : Own m e sz a n c (xs.take (n * sz)) := by
  obtain ⟨hl, hx⟩ := h
  have hns : n * sz ≤ l * sz := Nat.mul_le_mul_right _ hn
  refine ⟨by rw [List.length_take, hl]; omega, ?_⟩
  rcases hx with ⟨rfl, rfl, rfl⟩ | ⟨b, cur, rfl, hb, hlc, hs, ht, hcm⟩
  · exact .inl ⟨rfl, by omega, rfl⟩
  · refine .inr ⟨b, cur, rfl, hb, by omega, hs, ?_, hcm⟩
    rw [← ht, List.take_take]
    congr 1; omega
end Go.H
set_option linter.unusedVariables false
namespace Go.H
open Go.WideShapes
/-- An argument of type t, as the statement's frame tells it. -/
def Arg (P : Program) (W : World) (t : TypeId) (v : Value) : Prop :=
  ∃ (base : Nat) (H : Type) (enc : TypeId × Value → H) (d : DataW H) (p : List MemPlace), Value.okWide P W .any base t v ∧ DataW.Trod enc P W 0 (fun _ => true) true t v d p
/-- These cells can be read at type t. -/
def Rd (P : Program) (W : World) (t : TypeId) (cs : List Value) : Prop :=
  ∃ (H : Type) (enc : TypeId × Value → H) (fuel : Nat) (x : DataW H × List MemPlace), DataW.trod enc P W 0 (fun _ => true) true fuel t cs = some x
abbrev heapM (W : World) : Mem := fun b => W.heap[b]?
section
variable {P : Program} {W : World} {t : TypeId} {v : Value} {cs : List Value}
theorem Arg.rd (h : Arg P W t v) : Rd P W t v.cells.toList := by
  obtain ⟨base, H, enc, d, p, _, n, hn⟩ := h; exact ⟨H, enc, n, _, hn⟩
theorem Rd.bool (ht : P.underlying t = some .bool) (h : Rd P W t cs) : ∃ b, cs = [.bool b] := by
  obtain ⟨H, enc, n, x, h⟩ := h
  obtain ⟨b, h1, _⟩ := DataW.trod_bool ht h; exact ⟨b, h1⟩
theorem Rd.int {k : IntKind} (ht : P.underlying t = some (.int k)) (h : Rd P W t cs) : ∃ n, cs = [.int k n] ∧ (Lit.int k n).wf = true := by
  obtain ⟨H, enc, n, x, h⟩ := h
  obtain ⟨b, h1, _, h2⟩ := DataW.trod_int ht h; exact ⟨b, h1, h2⟩
theorem Rd.str (ht : P.underlying t = some .string) (h : Rd P W t cs) : ∃ s : ByteArray, cs = [.string s] ∧ s.size ≤ maxLen := by
  obtain ⟨H, enc, n, x, h⟩ := h
  obtain ⟨b, h1, _, h2⟩ := DataW.trod_string ht h; exact ⟨b, h1, h2⟩
theorem Rd.struct {fs : Array Field} (ht : P.underlying t = some (.struct fs)) (h : Rd P W t cs) : cs.length = P.cellsOf t ∧ ∀ f ∈ fs.toList, Rd P W f.type ((cs.drop f.offset).take (P.cellsOf f.type)) := by
  obtain ⟨H, enc, n, x, h⟩ := h
  cases n with
  | zero => simp [DataW.trod] at h
  | succ n =>
    unfold DataW.trod at h
    rw [ht] at h
    simp only at h
    split at h
    · rename_i hl
      refine ⟨hl, fun f hf => ?_⟩
      rw [Option.map_eq_some_iff] at h
      obtain ⟨xs, hx, _⟩ := h
      have : ∀ (l : List Field) (xs : List (DataW H × List MemPlace)), l.mapM (fun f => DataW.trod enc P W 0 (fun _ => true) true n f.type ((cs.drop f.offset).take (P.cellsOf f.type))) = some xs → ∀ f ∈ l, Rd P W f.type ((cs.drop f.offset).take (P.cellsOf f.type)) := by
        intro l
        induction l with
        | nil => intro xs _ f hf; cases hf
        | cons a l ih =>
          intro xs hx f hf
          rw [List.mapM_cons] at hx
          simp only [Option.bind_eq_bind, Option.bind_eq_some_iff] at hx
          obtain ⟨y, hy, ys, hys, _⟩ := hx
          rcases List.mem_cons.1 hf with rfl | hf
          · exact ⟨H, enc, n, y, hy⟩
          · exact ih ys hys f hf
      exact this _ _ hx f hf
    · cases h
theorem Rd.array {n : Nat} {e : TypeId} (ht : P.underlying t = some (.array n e)) (h : Rd P W t cs) : cs.length = P.cellsOf t ∧ ∀ i, i < n → Rd P W e ((cs.drop (i * P.cellsOf e)).take (P.cellsOf e)) := by
  obtain ⟨H, enc, f, x, h⟩ := h
  cases f with
  | zero => simp [DataW.trod] at h
  | succ f =>
    unfold DataW.trod at h
    rw [ht] at h
    simp only at h
    split at h
    · rename_i hl
      refine ⟨hl, fun i hi => ?_⟩
      rw [Option.map_eq_some_iff] at h
      obtain ⟨xs, hx, _⟩ := h
      have : ∀ (l : List Nat) (xs : List (DataW H × List MemPlace)), l.mapM (fun i => DataW.trod enc P W 0 (fun _ => true) true f e ((cs.drop (i * P.cellsOf e)).take (P.cellsOf e))) = some xs → ∀ i ∈ l, Rd P W e ((cs.drop (i * P.cellsOf e)).take (P.cellsOf e)) := by
        intro l
        induction l with
        | nil => intro xs _ f hf; cases hf
        | cons a l ih =>
          intro xs hx i hi
          rw [List.mapM_cons] at hx
          simp only [Option.bind_eq_bind, Option.bind_eq_some_iff] at hx
          obtain ⟨y, hy, ys, hys, _⟩ := hx
          rcases List.mem_cons.1 hi with rfl | hi
          · exact ⟨H, enc, f, y, hy⟩
          · exact ih ys hys i hi
      exact this _ _ hx i (List.mem_range.2 hi)
    · cases h
theorem Rd.len (ht : (match P.underlying t with | some (.struct _) | some (.array _ _) => true | _ => false) = true) (h : Rd P W t cs) : cs.length = P.cellsOf t := by
  split at ht
  · rename_i fs hs; exact (h.struct hs).1
  · rename_i n e hs; exact (h.array hs).1
  · cases ht
theorem Rd.field {t' : TypeId} {off : Nat} (ht : (match P.underlying t with | some (.struct fs) => fs.toList.any (fun f => Nat.beq f.offset off && Nat.beq f.type t') | _ => false) = true) (h : Rd P W t cs) : Rd P W t' ((cs.drop off).take (P.cellsOf t')) := by
  split at ht
  · rename_i fs hs
    simp only [List.any_eq_true, Bool.and_eq_true] at ht
    obtain ⟨f, hm, h1, h2⟩ := ht
    have := (h.struct hs).2 f hm
    rwa [Nat.eq_of_beq_eq_true h1, Nat.eq_of_beq_eq_true h2] at this
  · cases ht
theorem cells?_at {a : Addr} {n : Nat} {l : List Value} (h : W.cells? 0 a n = some l) : l.length = n ∧ ∀ i u, l[i]? = some u → W.cell? (a.add i) = some u := by
  unfold World.cells? at h
  rw [if_pos (Nat.zero_le _)] at h
  have : ∀ (ks : List Nat) (l : List Value), ks.mapM (fun i => W.cell? (a.add i)) = some l → l.length = ks.length ∧ ∀ (i : Nat) (u : Value) (k : Nat), l[i]? = some u → ks[i]? = some k → W.cell? (a.add k) = some u := by
    intro ks
    induction ks with
    | nil =>
      intro l h
      simp at h; subst h
      exact ⟨rfl, fun i u k hu => by simp at hu⟩
    | cons k ks ih =>
      intro l h
      rw [List.mapM_cons] at h
      simp only [Option.bind_eq_bind, Option.bind_eq_some_iff] at h
      obtain ⟨y, hy, ys, hys, h⟩ := h
      cases h
      obtain ⟨h1, h2⟩ := ih ys hys
      refine ⟨by simp [h1], fun i u k' hu hk => ?_⟩
      cases i with
      | zero => simp at hu hk; subst hu; subst hk; exact hy
      | succ i => exact h2 i u k' (by simpa using hu) (by simpa using hk)
  obtain ⟨h1, h2⟩ := this _ _ h
  refine ⟨by simpa using h1, fun i u hu => h2 i u i hu ?_⟩
  have hlt : i < l.length := by
    rcases Nat.lt_or_ge i l.length with h | h
    · exact h
    · rw [List.getElem?_eq_none h] at hu; cases hu
  rw [List.getElem?_range (by simp at h1; omega)]
theorem flat_cells {a : Addr} {sz : Nat} : ∀ (es : List (List Value)) (k : Nat), (∀ i x, es[i]? = some x → x.length = sz ∧ ∀ j u, x[j]? = some u → W.cell? (a.add ((k + i) * sz + j)) = some u) →
    ∀ j u, es.flatten[j]? = some u → W.cell? (a.add (k * sz + j)) = some u
  | [], _, _, j, u, hu => by simp at hu
  | x :: es, k, h, j, u, hu => by
    obtain ⟨hl, h0⟩ := h 0 x rfl
    rw [List.flatten_cons, List.getElem?_append] at hu
    split at hu
    · have := h0 j u hu
      simpa using this
    · have ih := flat_cells es (k + 1) (fun i y hy => by
        have := h (i + 1) y (by simpa using hy)
        rw [show k + (i + 1) = k + 1 + i by omega] at this; exact this) (j - x.length) u hu
      rw [hl, Nat.add_mul, Nat.one_mul, show k * sz + sz + (j - sz) = k * sz + j by omega] at ih
      exact ih
theorem Rd.sl {e : TypeId} (ht : P.underlying t = some (.slice e)) (h : Rd P W t cs) :
    ∃ a l c, cs = [.slice a l c] ∧ l ≤ c ∧ c ≤ maxLen ∧ ∃ es : List (List Value), es.length = c ∧ (∀ x ∈ es, x.length = P.cellsOf e ∧ Rd P W e x) ∧ CellsAt (heapM W) a es.flatten := by
  obtain ⟨H, enc, f, x, h⟩ := h
  rcases DataW.trod_slice ht h with ⟨rfl, _⟩ | ⟨a, len, cap, elems, rest, n, _, rfl, _, _, hl, hm, hlen, hel, hsp, _⟩
  · exact ⟨none, 0, 0, rfl, Nat.le_refl _, Nat.zero_le _, [], rfl, ⟨(fun x h => by cases h), CellsAt.empty _ _⟩⟩
  · obtain ⟨hrl, hrest⟩ := hsp rfl
    have each : ∀ i, i < cap → ∃ l y, W.cells? 0 (a.add (i * P.cellsOf e)) (P.cellsOf e) = some l ∧ DataW.trod enc P W 0 (fun _ => true) true n e l = some y := by
      intro i hi
      have : ∃ y, (W.cells? 0 (a.add (i * P.cellsOf e)) (P.cellsOf e)).bind (DataW.trod enc P W 0 (fun _ => true) true n e) = some y := by
        by_cases h1 : i < len
        · rw [hel i h1]; exact ⟨elems[i]'(by omega), List.getElem?_eq_getElem _⟩
        · have := hrest (i - len) (by omega)
          rw [show len + (i - len) = i by omega] at this
          rw [this]; exact ⟨rest[i - len]'(by omega), List.getElem?_eq_getElem _⟩
      obtain ⟨y, hy⟩ := this
      rw [Option.bind_eq_some_iff] at hy
      obtain ⟨l, h1, h2⟩ := hy
      exact ⟨l, y, h1, h2⟩
    refine ⟨some a, len, cap, rfl, hl, hm, (List.range cap).map (fun i => (W.cells? 0 (a.add (i * P.cellsOf e)) (P.cellsOf e)).getD []), by simp, ?_, ?_⟩
    · intro x hx
      simp only [List.mem_map, List.mem_range] at hx
      obtain ⟨i, hi, rfl⟩ := hx
      obtain ⟨l, y, h1, h2⟩ := each i hi
      rw [h1]
      exact ⟨(cells?_at h1).1, H, enc, n, y, h2⟩
    · refine CellsAt.given ?_
      have := flat_cells (W := W) (a := a) (sz := P.cellsOf e) ((List.range cap).map (fun i => (W.cells? 0 (a.add (i * P.cellsOf e)) (P.cellsOf e)).getD [])) 0 (fun i x hx => by
        rw [List.getElem?_map] at hx
        by_cases hi : i < cap
        · rw [List.getElem?_range hi] at hx
          simp only [Option.map_some, Option.some.injEq] at hx
          obtain ⟨l, y, h1, h2⟩ := each i hi
          rw [h1] at hx
          simp only [Option.getD_some] at hx
          subst hx
          obtain ⟨g1, g2⟩ := cells?_at h1
          refine ⟨g1, fun j u hu => ?_⟩
          have := g2 j u hu
          rw [Addr.add_add] at this
          rw [Nat.zero_add]; exact this
        · rw [List.getElem?_eq_none (by simp; omega)] at hx; cases hx)
      intro j u hu
      have := this j u hu
      simpa using this
theorem Arg.bool (ht : P.underlying t = some .bool) (h : Arg P W t v) : ∃ b, v = .bool b := by
  obtain ⟨base, H, enc, d, p, h1, _⟩ := h; exact okWide_bool ht h1
theorem Arg.int {k : IntKind} (ht : P.underlying t = some (.int k)) (h : Arg P W t v) : ∃ n, v = .int k n ∧ (Lit.int k n).wf = true := by
  have hr := h.rd
  obtain ⟨base, H, enc, d, p, h1, _⟩ := h
  obtain ⟨n, rfl⟩ := okWide_int ht h1
  obtain ⟨n', h2, h3⟩ := hr.int ht
  simp [Value.cells] at h2; subst h2
  exact ⟨n, rfl, h3⟩
theorem Arg.str (ht : P.underlying t = some .string) (h : Arg P W t v) : ∃ s : ByteArray, v = .string s ∧ s.size ≤ maxLen := by
  have hr := h.rd
  obtain ⟨base, H, enc, d, p, h1, _⟩ := h
  obtain ⟨n, rfl⟩ := okWide_string ht h1
  obtain ⟨n', h2, h3⟩ := hr.str ht
  simp [Value.cells] at h2; subst h2
  exact ⟨n, rfl, h3⟩
theorem Arg.sl {e : TypeId} (ht : P.underlying t = some (.slice e)) (h : Arg P W t v) :
    ∃ a l c, v = .slice a l c ∧ l ≤ c ∧ c ≤ maxLen ∧ ∃ es : List (List Value), es.length = c ∧ (∀ x ∈ es, x.length = P.cellsOf e ∧ Rd P W e x) ∧ CellsAt (heapM W) a es.flatten := by
  have hr := h.rd
  obtain ⟨base, H, enc, d, p, h1, _⟩ := h
  obtain ⟨a, l, c, rfl⟩ := okWide_slice ht h1
  obtain ⟨a', l', c', h2, h3⟩ := hr.sl ht
  simp [Value.cells] at h2
  obtain ⟨rfl, rfl, rfl⟩ := h2
  exact ⟨a, l, c, rfl, h3⟩
theorem Arg.agg (ht : (match P.underlying t with | some (.struct _) | some (.array _ _) => true | _ => false) = true) (h : Arg P W t v) : ∃ cs : List Value, v = .agg cs.toArray ∧ Rd P W t cs := by
  have hr := h.rd
  obtain ⟨base, H, enc, d, p, h1, _⟩ := h
  unfold Value.okWide at h1
  split at h1 <;> simp_all
  all_goals
    obtain ⟨cs, rfl, _⟩ := h1
    exact ⟨cs.toList, by simp, by simpa [Value.cells] using hr⟩
/-- Rows of elements of one kind. -/
theorem es_u8 {e : TypeId} (he : P.underlying e = some (.int .u8)) {es : List (List Value)} (h : ∀ x ∈ es, Rd P W e x) : ∃ bs : List UInt8, bs.length = es.length ∧ es.flatten = u8s bs := by
  induction es with
  | nil => exact ⟨[], rfl, rfl⟩
  | cons x es ih =>
    obtain ⟨bs, h1, h2⟩ := ih (fun y hy => h y (by simp [hy]))
    obtain ⟨n, hn, hw⟩ := (h x (by simp)).int he
    have hn8 := wf_u8 hw
    refine ⟨UInt8.ofNat n.toNat :: bs, by simp [h1], ?_⟩
    rw [List.flatten_cons, h2, hn]
    have : (UInt8.ofNat n.toNat).toNat = n.toNat := by rw [UInt8.toNat_ofNat']; omega
    simp only [u8s, List.map_cons, this, List.singleton_append]
    congr 2; omega
/-- A slice of bytes that came in: its bytes, its spare room's too. -/
theorem Arg.u8s {e : TypeId} (ht : P.underlying t = some (.slice e)) (he : P.underlying e = some (.int .u8)) (h : Arg P W t v) :
    ∃ a l c bs2, v = .slice a l c ∧ l ≤ c ∧ bs2.length = c ∧ CellsAt (heapM W) a (u8s bs2) ∧ CellsAt (heapM W) a (u8s (bs2.take l)) := by
  obtain ⟨a, l, c, rfl, h1, _, es, h2, h3, h4⟩ := h.sl ht
  obtain ⟨bs, h5, h6⟩ := es_u8 he (fun x hx => (h3 x hx).2)
  rw [h6] at h4
  refine ⟨a, l, c, bs, rfl, h1, by omega, h4, ?_⟩
  have : Go.H.u8s bs = Go.H.u8s (bs.take l) ++ Go.H.u8s (bs.drop l) := by simp [Go.H.u8s]
  rw [this] at h4
  exact h4.left
theorem Rd.u8s {e : TypeId} (ht : P.underlying t = some (.slice e)) (he : P.underlying e = some (.int .u8)) (h : Rd P W t cs) :
    ∃ a l c bs, cs = [.slice a l c] ∧ l ≤ c ∧ bs.length = l ∧ CellsAt (heapM W) a (u8s bs) := by
  obtain ⟨a, l, c, rfl, h1, _, es, h2, h3, h4⟩ := h.sl ht
  obtain ⟨bs, h5, h6⟩ := es_u8 he (fun x hx => (h3 x hx).2)
  rw [h6] at h4
  refine ⟨a, l, c, bs.take l, rfl, h1, by simp; omega, ?_⟩
  have : Go.H.u8s bs = Go.H.u8s (bs.take l) ++ Go.H.u8s (bs.drop l) := by simp [Go.H.u8s]
  rw [this] at h4
  exact h4.left
end
end Go.H
set_option linter.unusedVariables false
namespace Go.E
open Go.H
theorem eU8 : ElemOK P T_sl_uint8 T_uint8 (.int .u8 0) 1 1 := .of (by kernel_rfl) (by kernel_rfl) rfl
theorem eInt : ElemOK P T_sl_int T_int (.int .i64 0) 1 8 := .of (by kernel_rfl) (by kernel_rfl) rfl
end Go.E
set_option linter.unusedVariables false
set_option linter.unusedSimpArgs false
namespace Go.E
open Go.H
def bits (f : Nat → Bool) : Nat → Nat
  | 0 => 0
  | n + 1 => 2 ^ n * (f n).toNat + bits f n
theorem bits_lt (f : Nat → Bool) : ∀ n, bits f n < 2 ^ n
  | 0 => by simp [bits]
  | n + 1 => by
    have := bits_lt f n
    unfold bits
    cases f n <;> simp [Nat.pow_succ] <;> omega
theorem bits_test (f : Nat → Bool) : ∀ n j, (bits f n).testBit j = (decide (j < n) && f j)
  | 0, j => by simp [bits]
  | n + 1, j => by
    have hlt := bits_lt f n
    have ih := bits_test f n j
    unfold bits
    cases hf : f n with
    | false =>
      simp only [Bool.toNat_false, Nat.mul_zero, Nat.zero_add]
      rw [ih]
      by_cases h : j < n
      · simp [h, Nat.lt_succ_of_lt h]
      · by_cases e : j = n
        · subst e; simp [hf]
        · have : ¬ j < n + 1 := by omega
          simp [h, this]
    | true =>
      simp only [Bool.toNat_true, Nat.mul_one]
      rcases Nat.lt_trichotomy j n with h | h | h
      · rw [Nat.testBit_two_pow_add_gt h, ih]
        simp [h, Nat.lt_succ_of_lt h]
      · subst h
        rw [Nat.testBit_two_pow_add_eq, ih]
        simp [hf]
      · have : ¬ j < n + 1 := by omega
        rw [Nat.testBit_lt_two_pow]
        · simp [this]
        · calc 2 ^ n + bits f n < 2 ^ n + 2 ^ n := by omega
            _ = 2 ^ (n + 1) := by rw [Nat.pow_succ]; omega
            _ ≤ 2 ^ j := Nat.pow_le_pow_right (by omega) (by omega)
theorem bits_congr {f g : Nat → Bool} {n : Nat} (h : ∀ j, j < n → f j = g j) : bits f n = bits g n := by
  refine Nat.eq_of_testBit_eq fun j => ?_
  rw [bits_test, bits_test]
  by_cases hj : j < n
  · simp [hj, h j hj]
  · simp [hj]
theorem two64 : (18446744073709551616 : Nat) = 2 ^ 64 := by decide
theorem or_lt {x y : Nat} (hx : x < 18446744073709551616) (hy : y < 18446744073709551616) : x ||| y < 18446744073709551616 := by
  rw [two64] at *; exact Nat.or_lt_two_pow hx hy
theorem pow_lt {j : Nat} (h : j < 64) : 2 ^ j < 18446744073709551616 := by
  rw [two64]; exact Nat.pow_lt_pow_right (by omega) h
theorem lt_pow {x j : Nat} (hx : x < 18446744073709551616) (h : 64 ≤ j) : x < 2 ^ j := by
  rw [two64] at hx; exact Nat.lt_of_lt_of_le hx (Nat.pow_le_pow_right (by omega) h)
/-- the k-th number of a set -/
def limb (f : Nat → Bool) (k : Nat) : Nat := bits (fun j => f (64 * k + j)) 64
abbrev L (f : Nat → Bool) (k : Nat) : Int := ((limb f k : Nat) : Int)
theorem limb_lt (f : Nat → Bool) (k : Nat) : limb f k < 18446744073709551616 := by rw [two64]; exact bits_lt _ 64
theorem limb_test (f : Nat → Bool) (k : Nat) {j : Nat} (h : j < 64) : (limb f k).testBit j = f (64 * k + j) := by simp [limb, bits_test, h]
theorem limb_congr {f g : Nat → Bool} {k : Nat} (h : ∀ j, j < 64 → f (64 * k + j) = g (64 * k + j)) : limb f k = limb g k := bits_congr h
theorem limb_inj {f g : Nat → Bool} {k : Nat} (h : limb f k = limb g k) {j : Nat} (hj : j < 64) : f (64 * k + j) = g (64 * k + j) := by
  rw [← limb_test f k hj, ← limb_test g k hj, h]
theorem limb_ext {n : Nat} (hn : n < 18446744073709551616) {f : Nat → Bool} {k : Nat} (h : ∀ j, j < 64 → n.testBit j = f (64 * k + j)) : n = limb f k := by
  refine Nat.eq_of_testBit_eq fun j => ?_
  by_cases hj : j < 64
  · rw [h j hj, limb_test f k hj]
  · rw [Nat.testBit_lt_two_pow, Nat.testBit_lt_two_pow]
    · exact lt_pow (limb_lt f k) (by omega)
    · exact lt_pow hn (by omega)
theorem wrap_u64 {n : Nat} (h : n < 18446744073709551616) : IntKind.u64.wrap (n : Int) = (n : Int) := by
  rw [IntKind.wrap_u64]; omega
theorem bv {n : Nat} (h : n < 18446744073709551616) : (BitVec.ofInt IntKind.u64.bits (n : Int)).toNat = n := by
  show (BitVec.ofInt 64 (n : Int)).toNat = n
  rw [BitVec.ofInt_natCast, BitVec.toNat_ofNat]
  exact Nat.mod_eq_of_lt h
theorem or_nat {x y : Nat} (hx : x < 18446744073709551616) (hy : y < 18446744073709551616) : bitsV .or .u64 (x : Int) (y : Int) = ((x ||| y : Nat) : Int) := by
  unfold bitsV
  dsimp only
  rw [BitVec.toNat_or, bv hx, bv hy]
  exact wrap_u64 (or_lt hx hy)
theorem and_nat {x y : Nat} (hx : x < 18446744073709551616) (hy : y < 18446744073709551616) : bitsV .and .u64 (x : Int) (y : Int) = ((x &&& y : Nat) : Int) := by
  unfold bitsV
  dsimp only
  rw [BitVec.toNat_and, bv hx, bv hy]
  exact wrap_u64 (Nat.lt_of_le_of_lt Nat.and_le_left hx)
theorem L_congr {f g : Nat → Bool} {k : Nat} (h : ∀ j, j < 64 → f (64 * k + j) = g (64 * k + j)) : L f k = L g k := by
  unfold L; rw [limb_congr h]
theorem L_zero (k : Nat) : L (fun _ => false) k = 0 := by
  have : (0 : Nat) = limb (fun _ => false) k := limb_ext (by omega) fun j hj => by simp
  unfold L; rw [← this]; rfl
theorem shr_nat {x j : Nat} (hj : j < 64) : shrV .u64 (x : Int) (j : Int) = ((x >>> j : Nat) : Int) := by
  unfold shrV
  have hm : min (j : Int).toNat IntKind.u64.bits = j := by
    show min (j : Int).toNat 64 = j
    omega
  rw [hm, Nat.shiftRight_eq_div_pow]
  have h2 : ((2 : Int) ^ j) = ((2 ^ j : Nat) : Int) := by simp
  rw [h2, Int.fdiv_eq_ediv_of_nonneg _ (Int.natCast_nonneg _)]
  rfl
theorem L_has (f : Nat → Bool) (k : Nat) {j : Nat} (hj : j < 64) : (bitsV .and .u64 (shrV .u64 (L f k) (j : Int)) 1 == 1) = f (64 * k + j) := by
  rw [shr_nat hj]
  have hlt : limb f k >>> j < 18446744073709551616 := Nat.lt_of_le_of_lt (Nat.shiftRight_le _ _) (limb_lt f k)
  have h := and_nat (x := limb f k >>> j) (y := 1) hlt (by omega)
  rw [show ((1 : Nat) : Int) = 1 from rfl] at h
  rw [h, ← limb_test f k hj, Nat.testBit]
  rw [Nat.and_one_is_mod, Nat.one_and_eq_mod_two]
  have := Nat.mod_two_eq_zero_or_one (limb f k >>> j)
  rcases this with e | e <;> rw [e] <;> rfl
theorem shl_one {j : Nat} (hj : j < 64) : shlV .u64 1 (j : Int) = ((2 ^ j : Nat) : Int) := by
  unfold shlV
  have hm : min (j : Int).toNat IntKind.u64.bits = j := by
    show min (j : Int).toNat 64 = j
    omega
  rw [hm, Int.one_mul]
  have h2 : ((2 : Int) ^ j) = ((2 ^ j : Nat) : Int) := by simp
  rw [h2]
  exact wrap_u64 (pow_lt hj)
theorem L_add (f : Nat → Bool) (k : Nat) {j : Nat} (hj : j < 64) : bitsV .or .u64 (L f k) (shlV .u64 1 (j : Int)) = L (fun b => f b || b == 64 * k + j) k := by
  rw [shl_one hj, or_nat (limb_lt f k) (pow_lt hj)]
  refine congrArg (Nat.cast (R := Int)) ?_
  refine limb_ext (or_lt (limb_lt f k) (pow_lt hj)) fun i hi => ?_
  rw [Nat.testBit_or, limb_test f k hi, Nat.testBit_two_pow]
  congr 1
  by_cases e : j = i
  · subst e; simp
  · have : ¬ i = j := fun x => e x.symm
    simp [e, this]
theorem L_add_ne (f : Nat → Bool) {k k' j : Nat} (hj : j < 64) (hk : k' ≠ k) : L (fun b => f b || b == 64 * k + j) k' = L f k' :=
  L_congr fun i hi => by
    have : ¬ (64 * k' + i = 64 * k + j) := by omega
    simp [this]
/-- A set as a value. -/
abbrev setv (f : Nat → Bool) : Value := .agg #[.int .u64 (L f 0), .int .u64 (L f 1), .int .u64 (L f 2), .int .u64 (L f 3)]
theorem setv_eq {f g : Nat → Bool} (h : ∀ b, b < 256 → f b = g b) : setv f = setv g := by
  unfold setv
  rw [L_congr (k := 0) fun j hj => h _ (by omega), L_congr (k := 1) fun j hj => h _ (by omega), L_congr (k := 2) fun j hj => h _ (by omega), L_congr (k := 3) fun j hj => h _ (by omega)]
theorem L_inj {f g : Nat → Bool} (h0 : L f 0 = L g 0) (h1 : L f 1 = L g 1) (h2 : L f 2 = L g 2) (h3 : L f 3 = L g 3) : ∀ b, b < 256 → f b = g b := by
  intro b hb
  have e : b = 64 * (b / 64) + b % 64 := by omega
  have hk : b / 64 = 0 ∨ b / 64 = 1 ∨ b / 64 = 2 ∨ b / 64 = 3 := by omega
  have hj : b % 64 < 64 := by omega
  rw [e]
  rcases hk with x | x | x | x <;> rw [x]
  · exact limb_inj (Int.ofNat.inj h0) hj
  · exact limb_inj (Int.ofNat.inj h1) hj
  · exact limb_inj (Int.ofNat.inj h2) hj
  · exact limb_inj (Int.ofNat.inj h3) hj
end Go.E
set_option linter.unusedVariables false
set_option linter.unusedSimpArgs false
namespace Go.E
open Go.H
def dbTab : List Nat := [0, 1, 56, 2, 57, 49, 28, 3, 61, 58, 42, 50, 38, 29, 17, 4, 62, 47, 59, 36, 45, 43, 51, 22, 53, 39, 33, 30, 24, 18, 12, 5, 63, 55, 48, 27, 60, 41, 37, 16, 46, 35, 44, 21, 52, 32, 23, 11, 54, 26, 40, 15, 34, 20, 31, 10, 25, 14, 19, 9, 13, 8, 7, 6]
end Go.E
set_option linter.unusedVariables false
set_option linter.unusedSimpArgs false
namespace Go.E
open Go.H
attribute [local irreducible] BiN MkS ConvN LookN MapUpN CallV HC
theorem St1.four {m : Mem} {b : Nat} {x0 x1 x2 x3 u0 u1 u2 u3 : Value} {e : TypeId} {K : Mem → Prop} (h : m b = some (.cells #[x0, x1, x2, x3] e (0, 0))) (h0 : notOne u0 = false) (h1 : notOne u1 = false) (h2 : notOne u2 = false) (h3 : notOne u3 = false)
    (k : K (m.set b (.cells #[u0, u1, u2, u3] e (0, 0)))) : St1 m b 0 u0 fun m1 => St1 m1 b 1 u1 fun m2 => St1 m2 b 2 u2 fun m3 => St1 m3 b 3 u3 K := by
  refine St1.to #[u0, x1, x2, x3] h (by simp) h0 rfl ?_
  refine St1.to #[u0, u1, x2, x3] (set_same _ _ _) (by simp) h1 rfl ?_
  rw [set_set]
  refine St1.to #[u0, u1, u2, x3] (set_same _ _ _) (by simp) h2 rfl ?_
  rw [set_set]
  refine St1.to #[u0, u1, u2, u3] (set_same _ _ _) (by simp) h3 rfl ?_
  rw [set_set]
  exact k
theorem get4 {m : Mem} {b : Nat} {u0 u1 u2 u3 : Int} {e : TypeId} {fr : Nat × Nat} {K : Int → Int → Int → Int → Prop} (h : m b = some (.cells #[.int .u64 u0, .int .u64 u1, .int .u64 u2, .int .u64 u3] e fr)) (k : K u0 u1 u2 u3) :
    LdV m b 0 fun v => UnI v .u64 fun x0 => LdV m b 1 fun v => UnI v .u64 fun x1 => LdV m b 2 fun v => UnI v .u64 fun x2 => LdV m b 3 fun v => UnI v .u64 fun x3 => K x0 x1 x2 x3 :=
  LdV.s0 h (LdV.s1 h (LdV.s2 h (LdV.s3 h k)))
theorem put4 {m : Mem} {b : Nat} {x0 x1 x2 x3 : Value} {u0 u1 u2 u3 : Int} {e : TypeId} {K : Mem → Prop} (h : m b = some (.cells #[x0, x1, x2, x3] e (0, 0)))
    (k : K (m.set b (.cells #[.int .u64 u0, .int .u64 u1, .int .u64 u2, .int .u64 u3] e (0, 0)))) : St1 m b 0 (.int .u64 u0) fun m1 => St1 m1 b 1 (.int .u64 u1) fun m2 => St1 m2 b 2 (.int .u64 u2) fun m3 => St1 m3 b 3 (.int .u64 u3) K :=
  St1.four h rfl rfl rfl rfl k
/-- A result is stored into its own place and read back. -/
theorem out4 {m : Mem} {b : Nat} {x0 x1 x2 x3 : Value} {u0 u1 u2 u3 : Int} {e : TypeId} {K : Int → Int → Int → Int → Mem → Prop} (h : m b = some (.cells #[x0, x1, x2, x3] e (0, 0)))
    (k : K u0 u1 u2 u3 (m.set b (.cells #[.int .u64 u0, .int .u64 u1, .int .u64 u2, .int .u64 u3] e (0, 0)))) :
    St1 m b 0 (.int .u64 u0) fun m1 => St1 m1 b 1 (.int .u64 u1) fun m2 => St1 m2 b 2 (.int .u64 u2) fun m3 => St1 m3 b 3 (.int .u64 u3) fun m4 =>
    LdV m4 b 0 fun v => UnI v .u64 fun x0 => LdV m4 b 1 fun v => UnI v .u64 fun x1 => LdV m4 b 2 fun v => UnI v .u64 fun x2 => LdV m4 b 3 fun v => UnI v .u64 fun x3 => K x0 x1 x2 x3 m4 :=
  put4 h (get4 (set_same _ _ _) k)
theorem UnSet.mk {u0 u1 u2 u3 : Int} {K : Int → Int → Int → Int → Prop} (k : K u0 u1 u2 u3) :
    UnAgg (.agg #[.int .u64 u0, .int .u64 u1, .int .u64 u2, .int .u64 u3]) fun l => UnCons l fun v l => UnI v .u64 fun x0 => UnCons l fun v l => UnI v .u64 fun x1 => UnCons l fun v l => UnI v .u64 fun x2 => UnCons l fun v l => UnI v .u64 fun x3 => UnNil l (K x0 x1 x2 x3) := k
theorem ContSet.mk {u0 u1 u2 u3 : Int} {K : Int → Int → Int → Int → Mem → Prop} {Pn : List PanicEntry → Mem → Prop} {m : Mem} (k : K u0 u1 u2 u3 m) :
    Cont (fun v m => UnAgg v fun l => UnCons l fun v l => UnI v .u64 fun x0 => UnCons l fun v l => UnI v .u64 fun x1 => UnCons l fun v l => UnI v .u64 fun x2 => UnCons l fun v l => UnI v .u64 fun x3 => UnNil l (K x0 x1 x2 x3 m)) Pn
      (.returned (.agg #[.int .u64 u0, .int .u64 u1, .int .u64 u2, .int .u64 u3])) m := k
theorem byte_div {b : Nat} (hb : b < 256) : IntKind.u8.wrap (Int.tdiv (b : Int) 64) = ((b / 64 : Nat) : Int) := by
  rw [Int.tdiv_eq_ediv_of_nonneg (by omega), IntKind.wrap_u8]; omega
theorem byte_mod {b : Nat} : Int.tmod (b : Int) 64 = ((b % 64 : Nat) : Int) := by
  rw [Int.tmod_eq_emod_of_nonneg (by omega)]; omega
theorem limb_get {f : Nat → Bool} {k : Nat} (hk : k < 4) : (#[Value.int .u64 (L f 0), .int .u64 (L f 1), .int .u64 (L f 2), .int .u64 (L f 3)] : Array Value)[k]? = some (.int .u64 (L f k)) := by
  have : k = 0 ∨ k = 1 ∨ k = 2 ∨ k = 3 := by omega
  rcases this with rfl | rfl | rfl | rfl <;> rfl
theorem RHas_spec {f : Nat → Bool} {b : Nat} (hb : b < 256) {m : Mem} {R : Ending → Mem → Prop} (h : ∀ m', Le m m' → R (.returned (.bool (f b))) m') : HC P eyotref8_Has.id #[setv f, .int .u8 (b : Int)] m R := by
  refine eyotref8_Has.ok _ _ _ _ _ _ _ ?_
  intro ba hba
  rw [byte_div hb, byte_mod]
  refine ⟨by omega, by omega, ?_⟩
  refine LdV.of (set_same _ _ _) (v := .int .u64 (L f (b / 64))) (by rw [show 0 + ((b / 64 : Nat) : Int).toNat * 1 = b / 64 by omega]; exact limb_get (by omega)) ?_
  refine UnI.mk (NnI.mk (by omega) ?_)
  rw [L_has _ _ (by omega), show 64 * (b / 64) + b % 64 = b by omega]
  exact h _ (Le.set hba _)
end Go.E
set_option linter.unusedVariables false
set_option linter.unusedSimpArgs false
namespace Go.E
open Go.H
attribute [local irreducible] BiN MkS ConvN LookN MapUpN CallV HC
abbrev cells4 (f : Nat → Bool) : Array Value := #[.int .u64 (L f 0), .int .u64 (L f 1), .int .u64 (L f 2), .int .u64 (L f 3)]
theorem limb_set (F : Nat → Bool) {c : Nat} (hc : c < 256) :
    (cells4 F).setIfInBounds (c / 64) (.int .u64 (bitsV .or .u64 (L F (c / 64)) (shlV .u64 1 ((c % 64 : Nat) : Int)))) = cells4 fun b => F b || b == c := by
  have hm : c % 64 < 64 := by omega
  rw [L_add F (c / 64) hm]
  have e : 64 * (c / 64) + c % 64 = c := by omega
  have ne : ∀ k', k' ≠ c / 64 → L (fun b => F b || b == c) k' = L F k' := by
    intro k' hk
    have := L_add_ne F (k := c / 64) (k' := k') hm hk
    rw [e] at this
    exact this
  rw [e]
  have : c / 64 = 0 ∨ c / 64 = 1 ∨ c / 64 = 2 ∨ c / 64 = 3 := by omega
  rcases this with h | h | h | h <;> rw [h] at ne ⊢
  · show #[Value.int .u64 _, Value.int .u64 (L F 1), Value.int .u64 (L F 2), Value.int .u64 (L F 3)] = cells4 _
    unfold cells4
    rw [ne 1 (by omega), ne 2 (by omega), ne 3 (by omega)]
  · unfold cells4
    rw [ne 0 (by omega), ne 2 (by omega), ne 3 (by omega)]
    rfl
  · unfold cells4
    rw [ne 0 (by omega), ne 1 (by omega), ne 3 (by omega)]
    rfl
  · unfold cells4
    rw [ne 0 (by omega), ne 1 (by omega), ne 2 (by omega)]
    rfl
/-- The bytes of a list, as a set. -/
def inB (bs : List UInt8) (b : Nat) : Bool := bs.any fun c => b == c.toNat
theorem inB_take {bs : List UInt8} {k : Nat} (h : k < bs.length) : (fun b => inB (bs.take k) b || b == bs[k].toNat) = inB (bs.take (k + 1)) := by
  funext b
  unfold inB
  rw [List.take_add_one, List.any_append, List.getElem?_eq_getElem h]
  simp
theorem zero4 : cells4 (inB []) = #[.int .u64 0, .int .u64 0, .int .u64 0, .int .u64 0] := by
  have : inB [] = fun _ => false := rfl
  unfold cells4
  rw [this, L_zero, L_zero, L_zero, L_zero]
theorem ROf_spec {m : Mem} {a : Option Addr} {l c : Nat} {bs : List UInt8} (hb : CellsAt m a (u8s bs)) (hl : bs.length = l) (hmax : bs.length < 2 ^ 62) {R : Ending → Mem → Prop}
    (h : ∀ m', Le m m' → R (.returned (setv (inB bs))) m') : HC P eyotref8_Of.id #[.slice a l c] m R := by
  refine eyotref8_Of.ok _ _ _ _ _ ?_
  intro b2 hb2 b3 hb3
  have hne : b3 ≠ b2 := fun e => by subst e; rw [set_same] at hb3; cases hb3
  have hm3 : m b3 = none := by rw [set_other _ _ hne] at hb3; exact hb3
  refine ⟨fun N xa xl xc x2b x2o s3b s3o x8 mm => x2b = b2 ∧ x2o = 0 ∧ s3b = b3 ∧ s3o = 0 ∧ xa = a ∧ xl = l ∧ xc = c ∧ ∃ k : Nat, x8 = k ∧ N = l - k ∧ k ≤ l ∧
    mm b3 = some (.cells (cells4 (inB (bs.take k))) T_api_Set (0, 0)) ∧ mm b2 = some (.cells #[.int .u64 0, .int .u64 0, .int .u64 0, .int .u64 0] T_api_Set (0, 0)) ∧ Le m mm, l,
    ⟨rfl, rfl, rfl, rfl, rfl, rfl, rfl, 0, rfl, rfl, by omega, ?_, ?_, ?_⟩, ?_⟩
  · rw [set_same]; rw [List.take_zero, zero4]
  · rw [set_other _ _ hne.symm, set_same]
  · exact (Le.set hb2 _).trans (Le.set hb3 _)
  rintro N xa xl xc x2b x2o s3b s3o x8 mm ⟨rfl, rfl, rfl, rfl, rfl, rfl, rfl, k, rfl, rfl, hk, hs, h2, hle⟩
  refine BrD (fun hlt => ?_) (fun hge => ?_)
  · have hk' : k < bs.length := by omega
    have hcl : bs[k].toNat < 256 := by have := UInt8.toNat_lt bs[k]; omega
    refine ⟨mm, Le.refl _, ?_⟩
    refine IxS.u8s (hb.le hle) hl (by omega) (by omega) ?_
    intro x hx
    rw [Int.toNat_natCast, List.getElem?_eq_getElem hk'] at hx
    cases hx
    refine UnI.mk ?_
    rw [byte_div hcl]
    refine ⟨by omega, by omega, ?_⟩
    refine LdV.of hs (v := .int .u64 (L (inB (bs.take k)) (bs[k].toNat / 64))) (by rw [show 0 + ((bs[k].toNat / 64 : Nat) : Int).toNat * 1 = bs[k].toNat / 64 by omega]; exact limb_get (by omega)) ?_
    refine UnI.mk ?_
    refine IxS.u8s (hb.le hle) hl (by omega) (by omega) ?_
    intro x hx
    rw [Int.toNat_natCast, List.getElem?_eq_getElem hk'] at hx
    cases hx
    refine UnI.mk ?_
    rw [byte_mod]
    refine NnI.mk (by omega) ⟨by omega, by omega, ?_⟩
    refine St1.to (cells4 (inB (bs.take (k + 1)))) hs (by show _ < 4; omega) rfl ?_ ?_
    · rw [show 0 + ((bs[k].toNat / 64 : Nat) : Int).toNat * 1 = bs[k].toNat / 64 by omega, limb_set _ hcl, inB_take hk']
    refine ⟨_, ?_, rfl, rfl, rfl, rfl, rfl, rfl, rfl, k + 1, ?_, rfl, by omega, set_same _ _ _, ?_, ?_⟩
    · omega
    · rw [wi (by omega) (by omega)]; omega
    · rw [set_other _ _ hne.symm]; exact h2
    · exact Chg.to_le (Chg.set mm _ _) hle (fun b e => by rw [show b = s3b from e]; exact hm3)
  · have : k = bs.length := by omega
    subst this
    rw [List.take_length] at hs
    refine get4 hs ?_
    refine out4 h2 ?_
    exact h _ (Chg.to_le (Chg.set mm _ _) hle (fun b e => by rw [show b = x2b from e]; exact hb2))
/-- A row of bytes under way, new over ms. -/
structure RwB (ms mm : Mem) (a : Option Addr) (l c : Nat) (bs : List UInt8) : Prop where
  le : Le ms mm
  own : Own mm T_uint8 1 a l c (u8s bs)
  fr : Fresh ms a
theorem RwB.nil {ms mm : Mem} (h : Le ms mm) : RwB ms mm none 0 0 [] := ⟨h, Own.nil _ _ _, Fresh.none _⟩
theorem RwB.len {ms mm : Mem} {a : Option Addr} {l c : Nat} {bs : List UInt8} (h : RwB ms mm a l c bs) : bs.length = l := by have := h.own.1; simpa [u8s] using this
theorem RwB.mono {ms mm mm' : Mem} {a : Option Addr} {l c : Nat} {bs : List UInt8} (h : RwB ms mm a l c bs) (k : Le mm mm') : RwB ms mm' a l c bs := ⟨h.le.trans k, Own.le k h.own, h.fr⟩
theorem RwB.push {ms mm : Mem} {a : Option Addr} {l c : Nat} {bs : List UInt8} (h : RwB ms mm a l c bs) (x : UInt8) (hlen : l ≤ 1000000000)
    {ty : TypeId} {cs : Array Bool} {K : Value → Mem → Prop} {Pn : List PanicEntry → Mem → Prop}
    (k : ∀ a' c' m', RwB ms m' a' (l + 1) c' (bs ++ [x]) → K (.slice a' (l + 1) c') m') :
    ∀ b, mm b = none → BiN P .append #[T_sl_uint8, T_sl_uint8] ty cs #[.slice a l c, .slice (some ⟨b, 0, none⟩) 1 1] (mm.set b (.cells #[.int .u8 x.toNat] T_uint8 (0, 0))) K Pn := by
  refine push_one eU8 h.own rfl hlen (by omega) ?_
  intro a' c' m' hch ho hb
  refine k a' c' m' ⟨hch.to_le h.le (fun b e => h.fr b e), by simpa [u8s] using ho, ?_⟩
  rcases hb with hb | hb
  · intro b e; exact h.fr b (hb ▸ e)
  · exact Fresh.le h.le hb
/-- The bytes from one to another one. -/
abbrev fromTo (a b : Nat) : Nat → Bool := fun c => decide (a ≤ c) && decide (c ≤ b)
end Go.E
set_option linter.unusedVariables false
set_option linter.unusedSimpArgs false
namespace Go.E
open Go.H
attribute [local irreducible] BiN MkS ConvN LookN MapUpN CallV HC limb dbTab
/-- The package variable 'math/bits.deBruijn64tab' is laid. -/
def Glob (m : Mem) : Prop := CellsAt m (some ⟨0, 0, none⟩) (dbTab.map fun (x : Nat) => Value.int .u8 (x : Int))
theorem Glob.le {m m' : Mem} (h : Glob m) (k : Le m m') : Glob m' := CellsAt.le k h
end Go.E
set_option linter.unusedVariables false
set_option linter.unusedSimpArgs false
namespace Go.E
open Go.H
/-- The byte that stands there; 0: none. -/
def nx (l : List UInt8) (i : Nat) : Nat := (l.getD i 0).toNat
def special : List Nat := [92, 124, 42, 43, 63, 40, 41, 91, 93, 46, 94, 45]
def isSp (c : Nat) : Bool := special.contains c
/-- a digit of sixteen; 16: none -/
def dig (c : Nat) : Nat := if 48 ≤ c ∧ c ≤ 57 then c - 48 else if 97 ≤ c ∧ c ≤ 102 then c - 87 else 16
/-- A sign: its byte, and where it ends. -/
def sgn (l : List UInt8) (i : Nat) : Option (Nat × Nat) :=
  if l.length ≤ i then none
  else if nx l i ≠ 92 then
    if nx l i < 33 ∨ 126 < nx l i ∨ isSp (nx l i) = true then none else some (nx l i, i + 1)
  else if l.length ≤ i + 1 then none
  else if nx l (i + 1) = 120 then
    if l.length ≤ i + 2 ∨ dig (nx l (i + 2)) = 16 ∨ l.length ≤ i + 3 ∨ dig (nx l (i + 3)) = 16 then none
    else some (dig (nx l (i + 2)) * 16 + dig (nx l (i + 3)), i + 4)
  else if isSp (nx l (i + 1)) = true then some (nx l (i + 1), i + 2) else none
/-- A part: its first and last byte, and where it ends. -/
def prt (l : List UInt8) (i : Nat) : Option ((Nat × Nat) × Nat) :=
  match sgn l i with
  | none => none
  | some (a, n) =>
    if nx l n ≠ 45 then some ((a, a), n)
    else match sgn l (n + 1) with
      | none => none
      | some (b, n') => if b < a then none else some ((a, b), n')
def prts (l : List UInt8) : Nat → Nat → (Nat → Bool) → Option ((Nat → Bool) × Nat)
  | 0, _, _ => none
  | k + 1, i, S =>
    if nx l i = 93 then some (S, i + 1)
    else match prt l i with
      | none => none
      | some ((a, b), n) => prts l k n fun c => S c || fromTo a b c
/-- A class as it is read, an empty one too. -/
def cls0 (l : List UInt8) : Option ((Nat → Bool) × Nat) :=
  if nx l 0 = 46 then some ((fun b => !false), 1)
  else if nx l 0 = 91 then
    match prt l (if nx l 1 = 94 then 2 else 1) with
    | none => none
    | some ((a, b), n) =>
      match prts l (l.length + 1) n (fromTo a b) with
      | none => none
      | some (S, e) => some (if nx l 1 = 94 then (fun c => !S c) else S, e)
  else match sgn l 0 with
    | none => none
    | some (c, n) => some (fromTo c c, n)
def emptyS (S : Nat → Bool) : Bool := (List.range 256).all fun b => !S b
def cls (l : List UInt8) : Option ((Nat → Bool) × Nat) :=
  match cls0 l with
  | none => none
  | some (S, e) => if emptyS S = true then none else some (S, e)
end Go.E
set_option linter.unusedVariables false
set_option linter.unusedSimpArgs false
namespace Go.E
open Go.H
attribute [local irreducible] BiN MkS ConvN LookN MapUpN CallV HC limb dbTab
abbrev z4 : Array Value := #[.int .u64 0, .int .u64 0, .int .u64 0, .int .u64 0]
/-- A result's own place, while the reader goes on. -/
structure Cel (m mm : Mem) (r b : Nat) (c : Array Value) : Prop where
  at_ : mm b = some (.cells c T_api_Set (0, 0))
  ne : b ≠ r
  new : m b = none
  ch : Chg (fun x => x = r) m mm
theorem Cel.mk0 {m : Mem} {r b : Nat} {c : Array Value} (hr : m r ≠ none) (hb : m b = none) : Cel m (m.set b (.cells c T_api_Set (0, 0))) r b c :=
  ⟨set_same _ _ _, fun e => hr (e ▸ hb), hb, (Le.set hb _).chg _⟩
theorem Cel.step {m mm m' : Mem} {r b : Nat} {c : Array Value} (h : Cel m mm r b c) (k : Chg (fun x => x = r) mm m') : Cel m m' r b c :=
  ⟨k.eq _ _ h.at_ h.ne, h.ne, h.new, h.ch.trans k (fun _ _ e => e)⟩
theorem Cel.le {m mm m' : Mem} {r b : Nat} {c : Array Value} (h : Cel m mm r b c) (k : Le mm m') : Cel m m' r b c := h.step (k.chg _)
theorem Cel.put {m mm : Mem} {r b : Nat} {c : Array Value} (h : Cel m mm r b c) (c' : Array Value) : Cel m (mm.set b (.cells c' T_api_Set (0, 0))) r b c' := by
  refine ⟨set_same _ _ _, h.ne, h.new, ?_⟩
  refine ⟨fun x o hx hn => ?_, fun x hx => ?_⟩
  · have : x ≠ b := fun e => by subst e; rw [h.new] at hx; cases hx
    rw [set_other _ _ this]
    exact h.ch.eq x o hx hn
  · by_cases e : x = b
    · subst e; rw [set_same]; simp
    · rw [set_other _ _ e]; exact h.ch.live x hx
end Go.E
set_option linter.unusedVariables false
set_option linter.unusedSimpArgs false
namespace Go.E
open Go.H
attribute [local irreducible] BiN MkS ConvN LookN MapUpN CallV HC limb dbTab
/-- Three results under way. -/
structure PS (m mm : Mem) (b2 b3 b4 : Nat) (c2 : Array Value) (n e : Int) : Prop where
  le : Le m mm
  a2 : mm b2 = some (.cells c2 T_api_Set (0, 0))
  a3 : mm b3 = some (.cells #[.int .i64 n] T_int (0, 0))
  a4 : mm b4 = some (.cells #[.int .i64 e] T_api_Errno (0, 0))
  n23 : b2 ≠ b3
  n24 : b2 ≠ b4
  n34 : b3 ≠ b4
  w2 : m b2 = none
  w3 : m b3 = none
  w4 : m b4 = none
section
variable {m mm m' : Mem} {b2 b3 b4 : Nat} {c2 : Array Value} {n e : Int}
theorem PS.step (h : PS m mm b2 b3 b4 c2 n e) {r : Nat} (hr : m r = none) (h2 : b2 ≠ r) (h3 : b3 ≠ r) (h4 : b4 ≠ r) (k : Chg (fun b => b = r) mm m') : PS m m' b2 b3 b4 c2 n e :=
  ⟨k.to_le h.le (fun b x => by rw [show b = r from x]; exact hr), k.eq _ _ h.a2 h2, k.eq _ _ h.a3 h3, k.eq _ _ h.a4 h4, h.n23, h.n24, h.n34, h.w2, h.w3, h.w4⟩
theorem PS.mono (h : PS m mm b2 b3 b4 c2 n e) (k : Le mm m') : PS m m' b2 b3 b4 c2 n e :=
  ⟨h.le.trans k, k _ _ h.a2, k _ _ h.a3, k _ _ h.a4, h.n23, h.n24, h.n34, h.w2, h.w3, h.w4⟩
theorem PS.p2 (h : PS m mm b2 b3 b4 c2 n e) (c : Array Value) : PS m (mm.set b2 (.cells c T_api_Set (0, 0))) b2 b3 b4 c n e :=
  ⟨Chg.to_le (Chg.set mm _ _) h.le (fun b x => by rw [show b = b2 from x]; exact h.w2), set_same _ _ _, by rw [set_other _ _ h.n23.symm]; exact h.a3, by rw [set_other _ _ h.n24.symm]; exact h.a4, h.n23, h.n24, h.n34, h.w2, h.w3, h.w4⟩
theorem PS.p4 (h : PS m mm b2 b3 b4 c2 n e) (c : Int) : PS m (mm.set b4 (.cells #[.int .i64 c] T_api_Errno (0, 0))) b2 b3 b4 c2 n c :=
  ⟨Chg.to_le (Chg.set mm _ _) h.le (fun b x => by rw [show b = b4 from x]; exact h.w4), by rw [set_other _ _ h.n24]; exact h.a2, by rw [set_other _ _ h.n34]; exact h.a3, set_same _ _ _, h.n23, h.n24, h.n34, h.w2, h.w3, h.w4⟩
end
theorem empty_all {S : Nat → Bool} (h : emptyS S = true) : ∀ b, b < 256 → S b = false := by
  intro b hb
  unfold emptyS at h
  rw [List.all_eq_true] at h
  have := h b (by simpa using hb)
  simpa using this
theorem empty_ex {S : Nat → Bool} (h : ¬ emptyS S = true) : ∃ t, t < 256 ∧ S t = true ∧ ∀ j, j < t → S j = false := by
  have hex : ∃ t, t < 256 ∧ S t = true := by
    apply Decidable.byContradiction
    intro hn
    refine h ?_
    unfold emptyS
    rw [List.all_eq_true]
    intro b hb
    have hb : b < 256 := by simpa using hb
    cases hS : S b with
    | false => rfl
    | true => exact absurd ⟨b, hb, hS⟩ hn
  obtain ⟨t, ht⟩ := hex
  obtain ⟨k, hk, hm⟩ := least (p := fun t => t < 256 ∧ S t = true) ht
  refine ⟨k, hk.1, hk.2, fun j hj => ?_⟩
  have := hm j hj
  cases hS : S j with
  | false => rfl
  | true => exact absurd ⟨by omega, hS⟩ this
theorem ContTB.mk {a : Int} {b : Bool} {K : Int → Bool → Mem → Prop} {Pn : List PanicEntry → Mem → Prop} {m : Mem} (k : K a b m) :
    Cont (fun v m => UnTup v fun us0 => UnCons us0 fun w us1 => UnI w .u8 fun x0 => UnCons us1 fun w us2 => UnB w fun x1 => UnNil us2 (K x0 x1 m)) Pn (.returned (.tuple #[.int .u8 a, .bool b])) m := k
end Go.E
set_option linter.unusedVariables false
set_option linter.unusedSimpArgs false
set_option maxRecDepth 20000
namespace Go.E
open Go.H
attribute [local irreducible] BiN MkS ConvN LookN MapUpN CallV HC limb dbTab
/-- The bytes below k of a set. -/
def flt (f : Nat → Bool) (k : Nat) : List UInt8 := ((List.range k).filter f).map UInt8.ofNat
theorem flt_succ (f : Nat → Bool) (k : Nat) : flt f (k + 1) = if f k = true then flt f k ++ [UInt8.ofNat k] else flt f k := by
  unfold flt
  rw [List.range_succ, List.filter_append]
  cases h : f k <;> simp [h]
theorem flt_len (f : Nat → Bool) (k : Nat) : (flt f k).length ≤ k := by
  unfold flt
  rw [List.length_map]
  exact Nat.le_trans (List.length_filter_le _ _) (by simp)
theorem inB_flt {f : Nat → Bool} {k : Nat} (h : k ≤ 256) (c : Nat) : inB (flt f k) c = (decide (c < k) && f c) := by
  induction k with
  | zero => simp [flt, inB]
  | succ k ih =>
    have ih := ih (by omega)
    have hk : (UInt8.ofNat k).toNat = k := by rw [UInt8.toNat_ofNat']; omega
    rw [flt_succ]
    cases hf : f k with
    | false =>
      simp only [Bool.false_eq_true, if_false]
      rw [ih, Bool.eq_iff_iff]
      simp only [Bool.and_eq_true, decide_eq_true_eq]
      constructor
      · rintro ⟨h1, h2⟩; exact ⟨by omega, h2⟩
      · rintro ⟨h1, h2⟩
        refine ⟨?_, h2⟩
        have : c ≠ k := fun e => by subst e; rw [hf] at h2; cases h2
        omega
    | true =>
      simp only [if_true]
      have e : inB (flt f k ++ [UInt8.ofNat k]) c = (inB (flt f k) c || c == k) := by
        unfold inB
        rw [List.any_append, List.any_cons, List.any_nil, hk, Bool.or_false]
      rw [e, ih, Bool.eq_iff_iff]
      simp only [Bool.or_eq_true, Bool.and_eq_true, decide_eq_true_eq, beq_iff_eq]
      constructor
      · rintro (⟨h1, h2⟩ | rfl)
        · exact ⟨by omega, h2⟩
        · exact ⟨by omega, hf⟩
      · rintro ⟨h1, h2⟩
        by_cases e : c = k
        · exact .inr e
        · exact .inl ⟨by omega, h2⟩
theorem setv_flt (f : Nat → Bool) : setv (inB (flt f 256)) = setv f := setv_eq fun c hc => by rw [inB_flt (Nat.le_refl _)]; simp [hc]
theorem u8w {k : Nat} (h : k < 256) : IntKind.u8.wrap (k : Int) = (k : Int) := by rw [IntKind.wrap_u8]; omega
theorem u8n {k : Nat} (h : k < 256) : (k : Int) = (((UInt8.ofNat k).toNat : Nat) : Int) := by rw [UInt8.toNat_ofNat']; omega
theorem RNot_spec {f : Nat → Bool} {m : Mem} {R : Ending → Mem → Prop} (h : ∀ m', Le m m' → R (.returned (setv fun b => !f b)) m') : HC P eyotref8_Not.id #[setv f] m R := by
  refine eyotref8_Not.ok _ _ _ _ _ _ ?_
  intro ba hba b2 hb2
  have hne : b2 ≠ ba := fun e => by subst e; rw [set_same] at hb2; cases hb2
  have hm2 : m b2 = none := by rw [set_other _ _ hne] at hb2; exact hb2
  have hle0 := (Le.set hba (.cells (cells4 f) T_api_Set (0, 0))).trans (Le.set hb2 (.cells z4 T_api_Set (0, 0)))
  have ea : ((m.set ba (.cells (cells4 f) T_api_Set (0, 0))).set b2 (.cells z4 T_api_Set (0, 0))) ba = some (.cells (cells4 f) T_api_Set (0, 0)) := by rw [set_other _ _ hne.symm, set_same]
  have e2 : ((m.set ba (.cells (cells4 f) T_api_Set (0, 0))).set b2 (.cells z4 T_api_Set (0, 0))) b2 = some (.cells z4 T_api_Set (0, 0)) := set_same _ _ _
  generalize ((m.set ba (.cells (cells4 f) T_api_Set (0, 0))).set b2 (.cells z4 T_api_Set (0, 0))) = ms at hle0 ea e2
  refine ⟨fun N a1b a1o x2b x2o la ll lc i mm => a1b = ba ∧ a1o = 0 ∧ x2b = b2 ∧ x2o = 0 ∧ ∃ k : Nat, i = k ∧ N = 256 - k ∧ k ≤ 256 ∧ RwB ms mm la ll lc (flt (fun b => !f b) k), 256, ⟨rfl, rfl, rfl, rfl, 0, rfl, rfl, by omega, RwB.nil (Le.refl _)⟩, ?_⟩
  rintro N a1b a1o x2b x2o la ll lc i mm ⟨rfl, rfl, rfl, rfl, k, rfl, rfl, hk, hr⟩
  have hl := hr.len
  have hl2 := flt_len (fun b => !f b) k
  refine BrD (fun hlt => ?_) (fun hge => ?_)
  · refine get4 (hr.le _ _ ea) ?_
    rw [u8w (by omega)]
    refine RHas_spec (by omega) ?_
    intro m1 hle1
    have hr1 := hr.mono hle1
    dsimp only [Cont]
    refine UnB.mk ?_
    have w : IntKind.i64.wrap ((k : Int) + 1) = ((k + 1 : Nat) : Int) := by rw [wi (by omega) (by omega)]; omega
    refine Br.mk (fun hb => ?_) (fun hb => ?_)
    · rw [u8n (k := k) (by omega)]
      refine hr1.push _ (by omega) ?_
      intro a' c' m' hr'
      refine UnS.mk ?_
      refine ⟨_, ?_, rfl, rfl, rfl, rfl, k + 1, ?_, rfl, by omega, by rw [flt_succ, if_pos hb]; exact hr'⟩
      · omega
      · rw [← u8n (by omega), w]
    · refine ⟨_, ?_, rfl, rfl, rfl, rfl, k + 1, w, rfl, by omega, by rw [flt_succ, if_neg (by rw [hb]; simp)]; exact hr1⟩
      omega
  · have : k = 256 := by omega
    subst this
    refine ROf_spec hr.own.cells hl (by omega) ?_
    intro m' hle
    refine ContSet.mk ?_
    refine out4 (hle _ _ (hr.le _ _ e2)) ?_
    show R (.returned (setv (inB (flt (fun b => !f b) 256)))) _
    rw [setv_flt]
    exact h _ (Chg.to_le (Chg.set m' x2b _) ((hle0.trans hr.le).trans hle) (fun b e => by rw [show b = x2b from e]; exact hm2))
theorem eq4 (f g : Nat → Bool) : (eqL [.int .u64 (L f 0), .int .u64 (L f 1), .int .u64 (L f 2), .int .u64 (L f 3)] [.int .u64 (L g 0), .int .u64 (L g 1), .int .u64 (L g 2), .int .u64 (L g 3)] = true) ↔ ∀ b, b < 256 → f b = g b := by
  have e : eqL [.int .u64 (L f 0), .int .u64 (L f 1), .int .u64 (L f 2), .int .u64 (L f 3)] [.int .u64 (L g 0), .int .u64 (L g 1), .int .u64 (L g 2), .int .u64 (L g 3)] =
      (L f 0 == L g 0 && (L f 1 == L g 1 && (L f 2 == L g 2 && (L f 3 == L g 3 && true)))) := rfl
  rw [e]
  simp only [Bool.and_eq_true, beq_iff_eq, and_true]
  constructor
  · rintro ⟨h0, h1, h2, h3⟩; exact L_inj h0 h1 h2 h3
  · intro h
    exact ⟨L_congr fun j hj => h _ (by omega), L_congr fun j hj => h _ (by omega), L_congr fun j hj => h _ (by omega), L_congr fun j hj => h _ (by omega)⟩
theorem eq4_zero (f : Nat → Bool) : eqL [.int .u64 (L f 0), .int .u64 (L f 1), .int .u64 (L f 2), .int .u64 (L f 3)] [.int .u64 0, .int .u64 0, .int .u64 0, .int .u64 0] = emptyS f := by
  have h := eq4 f fun _ => false
  rw [L_zero, L_zero, L_zero, L_zero] at h
  rw [Bool.eq_iff_iff, h]
  unfold emptyS
  simp
end Go.E
set_option linter.unusedVariables false
set_option linter.unusedSimpArgs false
set_option maxRecDepth 20000
namespace Go.E
open Go.H
attribute [local irreducible] BiN MkS ConvN LookN MapUpN CallV HC limb dbTab
theorem ContTI.mk {a b : Int} {K : Int → Int → Mem → Prop} {Pn : List PanicEntry → Mem → Prop} {m : Mem} (k : K a b m) :
    Cont (fun v m => UnTup v fun us0 => UnCons us0 fun w us1 => UnI w .u8 fun x0 => UnCons us1 fun w us2 => UnI w .i64 fun x1 => UnNil us2 (K x0 x1 m)) Pn (.returned (.tuple #[.int .u8 a, .int .i64 b])) m := k
end Go.E
set_option linter.unusedVariables false
set_option linter.unusedSimpArgs false
set_option maxRecDepth 20000
namespace Go.E
open Go.H
attribute [local irreducible] BiN MkS ConvN LookN MapUpN CallV HC limb dbTab
/-- a digit of sixteen -/
def hexd (k : Nat) : UInt8 := if k < 10 then UInt8.ofNat (48 + k) else UInt8.ofNat (87 + k)
/-- A byte's sign. -/
def sgT (c : Nat) : List UInt8 :=
  if c < 33 ∨ 126 < c then [92, 120, hexd (c / 16), hexd (c % 16)]
  else if isSp c = true then [92, UInt8.ofNat c] else [UInt8.ofNat c]
/-- How a run is shown. -/
def shT (a b : Nat) : List UInt8 := if b = a then sgT a else if b = a + 1 then sgT a ++ sgT b else sgT a ++ ([45] ++ sgT b)
end Go.E
set_option linter.unusedVariables false
set_option linter.unusedSimpArgs false
set_option maxRecDepth 20000
namespace Go.E
open Go.H
attribute [local irreducible] BiN MkS ConvN LookN MapUpN CallV HC limb dbTab
/-- One more byte. -/
def runS (l : List (Nat × Nat)) (k : Nat) : List (Nat × Nat) :=
  match l.getLast? with
  | some (a, b) => if b + 1 = k then l.dropLast ++ [(a, k)] else l ++ [(k, k)]
  | none => [(k, k)]
def runL (f : Nat → Bool) : Nat → List (Nat × Nat)
  | 0 => []
  | k + 1 => if f k = true then runS (runL f k) k else runL f k
theorem runS_nil (k : Nat) : runS [] k = [(k, k)] := rfl
theorem runS_snoc (l : List (Nat × Nat)) (a b k : Nat) : runS (l ++ [(a, b)]) k = if b + 1 = k then l ++ [(a, k)] else (l ++ [(a, b)]) ++ [(k, k)] := by
  unfold runS
  rw [List.getLast?_append]
  simp
theorem run_ok (f : Nat → Bool) : ∀ k, ∀ p ∈ runL f k, p.1 ≤ p.2 ∧ p.2 < k
  | 0 => by simp [runL]
  | k + 1 => by
    have ih := run_ok f k
    intro p hp
    unfold runL at hp
    split at hp
    · rcases List.eq_nil_or_concat (runL f k) with h | ⟨l0, ⟨a, b⟩, h⟩
      · rw [h, runS_nil] at hp
        simp at hp; subst hp; simp
      · rw [List.concat_eq_append] at h
        rw [h] at hp ih
        rw [runS_snoc] at hp
        have hab := ih (a, b) (by simp)
        split at hp
        · rcases List.mem_append.mp hp with h1 | h1
          · have := ih p (by simp [h1]); omega
          · simp at h1; subst h1; simp; simp at hab; omega
        · rcases List.mem_append.mp hp with h1 | h1
          · have := ih p h1; omega
          · simp at h1; subst h1; simp
    · have := ih p hp; omega
end Go.E
set_option linter.unusedVariables false
set_option linter.unusedSimpArgs false
set_option maxRecDepth 20000
namespace Go.E
open Go.H
attribute [local irreducible] BiN MkS ConvN LookN MapUpN CallV HC limb dbTab
def joinR (rs : List (Nat × Nat)) : List UInt8 := rs.flatMap fun p => shT p.1 p.2
def fullS (f : Nat → Bool) : Bool := emptyS fun b => !f b
def brk (rs : List (Nat × Nat)) : List UInt8 := ([91] ++ joinR rs) ++ [93]
/-- How a set is shown. -/
def shW (f : Nat → Bool) : List UInt8 :=
  if (runL f 256).length = 0 then []
  else if fullS f = true then [46]
  else match runL f 256 with
    | [(a, b)] => if a = b then sgT a else brk [(a, b)]
    | rs => brk rs
end Go.E
set_option linter.unusedVariables false
set_option linter.unusedSimpArgs false
set_option maxRecDepth 20000
namespace Go.E.Rg
open Go.H Go.E
inductive Rx where
  | mk (k : Int) (S : Nat → Bool) (ps : List Rx)
def Rx.k : Rx → Int | .mk k _ _ => k
def Rx.S : Rx → Nat → Bool | .mk _ S _ => S
def Rx.ps : Rx → List Rx | .mk _ _ ps => ps
theorem Rx.ind {C : Rx → Prop} (h : ∀ k S ps, (∀ a ∈ ps, C a) → C (.mk k S ps)) (r : Rx) : C r :=
  Rx.rec (motive_1 := C) (motive_2 := fun ps => ∀ a ∈ ps, C a) (fun k S ps ih => h k S ps ih) (fun a h => by cases h)
    (fun r rs h1 h2 a ha => by rcases List.mem_cons.mp ha with e | e; exact e ▸ h1; exact h2 a e) r
def noS : Nat → Bool := fun _ => false
def rx0 : Rx := .mk 0 noS []
def sgK (k : Int) : Bool := decide (4 ≤ k) && decide (k ≤ 6)
mutual
def form : Rx → Bool
  | .mk k S ps =>
    if k = 1 then ps.isEmpty && !emptyS S
    else if emptyS S = false then false
    else if k = 2 ∨ k = 3 then decide (2 ≤ ps.length) && formL k ps
    else if sgK k = true then decide (ps.length = 1) && !(ps.any fun a => sgK a.k) && formL k ps
    else false
def formL (k : Int) : List Rx → Bool
  | [] => true
  | r :: rs => (decide (r.k ≠ k) && form r) && formL k rs
end
mutual
def nodes : Rx → Nat
  | .mk _ _ ps => nodesL ps + 1
def nodesL : List Rx → Nat
  | [] => 0
  | r :: rs => nodes r + nodesL rs
end
mutual
def depth : Rx → Nat
  | .mk _ _ ps => depthL ps + 1
def depthL : List Rx → Nat
  | [] => 0
  | r :: rs => max (depth r) (depthL rs)
end
def may (r : Rx) : Int := if form r = true then (if 40 < nodes r ∨ 12 < depth r then 6 else 0) else 2
def rank (k : Int) : Int := if k = 3 then 0 else if k = 2 then 1 else if k = 1 then 3 else 2
def joinBar : List (List UInt8) → List UInt8
  | [] => []
  | [x] => x
  | x :: y :: r => x ++ 124 :: joinBar (y :: r)
def sgB (k : Int) : UInt8 := if k = 4 then 42 else if k = 5 then 43 else 63
mutual
def shw : Rx → List UInt8
  | .mk k S ps =>
    if k = 1 then shW S
    else if k = 3 then joinBar (shwL (rank k + 1) ps)
    else if sgK k = true then (shwL (rank k + 1) ps).flatten ++ [sgB k]
    else (shwL (rank k + 1) ps).flatten
def shwL (least : Int) : List Rx → List (List UInt8)
  | [] => []
  | r :: rs => (if rank r.k < least then 40 :: shw r ++ [41] else shw r) :: shwL least rs
end
mutual
def null : Rx → Bool
  | .mk k _ ps =>
    if k = 4 ∨ k = 6 then true
    else if k = 2 ∨ k = 5 then nullA ps
    else if k = 3 then nullE ps
    else false
def nullA : List Rx → Bool
  | [] => true
  | r :: rs => null r && nullA rs
def nullE : List Rx → Bool
  | [] => false
  | r :: rs => null r || nullE rs
end
def orL (a b : List Bool) : List Bool := List.zipWith (fun x y => x || y) a b
def newL (out l : List Bool) : Bool := (List.zipWith (fun x y => y && !x) out l).any id
def setE (S : Nat → Bool) (w : List UInt8) (at_ : List Bool) : List Bool := false :: List.zipWith (fun a (c : UInt8) => a && S c.toNat) at_ w
def manyE (f : List Bool → List Bool) : Nat → List Bool → List Bool → List Bool
  | 0, out, _ => out
  | n + 1, out, more => if newL out more = true then manyE f n (orL out more) (f more) else orL out more
mutual
def ends (w : List UInt8) : Rx → List Bool → List Bool
  | .mk k S ps, at_ =>
    if k = 1 then setE S w at_
    else if k = 2 then endsC w ps at_
    else if k = 3 then endsA w ps at_ (List.replicate (w.length + 1) false)
    else if k = 6 then orL (orL (List.replicate (w.length + 1) false) at_) (ends1 w ps at_)
    else manyE (ends1 w ps) (w.length + 1) (if k = 4 then orL (List.replicate (w.length + 1) false) at_ else List.replicate (w.length + 1) false) (ends1 w ps at_)
def endsC (w : List UInt8) : List Rx → List Bool → List Bool
  | [], at_ => at_
  | r :: rs, at_ => endsC w rs (ends w r at_)
def endsA (w : List UInt8) : List Rx → List Bool → List Bool → List Bool
  | [], _, out => out
  | r :: rs, at_, out => endsA w rs at_ (orL out (ends w r at_))
def ends1 (w : List UInt8) : List Rx → List Bool → List Bool
  | [], at_ => at_
  | r :: _, at_ => ends w r at_
end
abbrev Res := Except Int (Rx × List UInt8)
def one (k : Int) (l : List Rx) : Rx := match l with | [x] => x | _ => .mk k noS l
def sgI (c : UInt8) : Option Int := if c = 42 then some 4 else if c = 43 then some 5 else if c = 63 then some 6 else none
def atomF (alt : Nat → List UInt8 → Res) (d : Nat) (s : List UInt8) : Res :=
  match s with
  | 40 :: s' => if 13 ≤ d then .error 6 else match alt (d + 1) s' with
    | .ok (x, 41 :: s'') => .ok (x, s'')
    | .ok _ => .error 2
    | .error e => .error e
  | s => match cls s with
    | some (S, n) => .ok (.mk 1 S [], s.drop n)
    | none => .error 2
def repF (alt : Nat → List UInt8 → Res) (d : Nat) (s : List UInt8) : Res :=
  match atomF alt d s with
  | .ok (x, c :: s') => match sgI c with
    | some k => .ok (.mk k noS [x], s')
    | none => .ok (x, c :: s')
  | r => r
def catL (alt : Nat → List UInt8 → Res) (d : Nat) : Nat → List Rx → List UInt8 → Except Int (List Rx × List UInt8)
  | 0, l, s => .error 0
  | n + 1, l, s => match s with
    | [] => .ok (l, s)
    | c :: _ => if c = 124 ∨ c = 41 then .ok (l, s) else match repF alt d s with
      | .ok (x, s') => catL alt d n (l ++ [x]) s'
      | .error e => .error e
def catF (alt : Nat → List UInt8 → Res) (d : Nat) (s : List UInt8) : Res :=
  match repF alt d s with
  | .ok (x, s') => match catL alt d (s'.length + 1) [x] s' with
    | .ok (l, s'') => .ok (one 2 l, s'')
    | .error e => .error e
  | .error e => .error e
def altL (alt : Nat → List UInt8 → Res) (d : Nat) : Nat → List Rx → List UInt8 → Except Int (List Rx × List UInt8)
  | 0, l, s => .error 0
  | n + 1, l, s => match s with
    | 124 :: s' => match catF alt d s' with
      | .ok (x, s'') => altL alt d n (l ++ [x]) s''
      | .error e => .error e
    | s => .ok (l, s)
def altF (alt : Nat → List UInt8 → Res) (d : Nat) (s : List UInt8) : Res :=
  match catF alt d s with
  | .ok (x, s') => match altL alt d (s'.length + 1) [x] s' with
    | .ok (l, s'') => .ok (one 3 l, s'')
    | .error e => .error e
  | .error e => .error e
def pAlt : Nat → Nat → List UInt8 → Res
  | 0 => fun _ _ => .error 6
  | n + 1 => altF (pAlt n)
def parse (s : List UInt8) : Except Int Rx :=
  match pAlt 14 0 s with
  | .ok (x, []) => if may x = 0 then .ok x else .error (may x)
  | .ok _ => .error 2
  | .error e => .error e
end Go.E.Rg
set_option linter.unusedVariables false
set_option linter.unusedSimpArgs false
set_option maxRecDepth 20000
namespace Go.E
open Go.H
attribute [local irreducible] BiN MkS ConvN LookN MapUpN CallV HC limb dbTab
/-- A law's end: true, and nothing turned. -/
def Fine (m : Mem) : Ending → Mem → Prop := fun e m' => e = .returned (.bool true) ∧ Le m m'
theorem ContP.mk {u0 u1 u2 u3 n e : Int} {K : Int → Int → Int → Int → Int → Int → Mem → Prop} {Pn : List PanicEntry → Mem → Prop} {m : Mem} (k : K u0 u1 u2 u3 n e m) :
    Cont (fun v m => UnTup v fun us0 => UnCons us0 fun w us1 => UnAgg w fun l => UnCons l fun v l => UnI v .u64 fun x0 => UnCons l fun v l => UnI v .u64 fun x1 => UnCons l fun v l => UnI v .u64 fun x2 => UnCons l fun v l => UnI v .u64 fun x3 => UnNil l (
      UnCons us1 fun w us2 => UnI w .i64 fun n => UnCons us2 fun w us3 => UnI w .i64 fun e => UnNil us3 (K x0 x1 x2 x3 n e m))) Pn
      (.returned (.tuple #[.agg #[.int .u64 u0, .int .u64 u1, .int .u64 u2, .int .u64 u3], .int .i64 n, .int .i64 e])) m := k
end Go.E
set_option linter.unusedVariables false
set_option linter.unusedSimpArgs false
set_option maxRecDepth 20000
namespace Go.E
open Go.H
attribute [local irreducible] BiN MkS ConvN LookN MapUpN CallV HC limb dbTab
theorem nx_drop (l : List UInt8) (i k : Nat) : nx (l.drop i) k = nx l (i + k) := by
  unfold nx
  rw [List.getD_eq_getElem?_getD, List.getD_eq_getElem?_getD, List.getElem?_drop]
theorem sgn_drop (l : List UInt8) (i : Nat) : sgn l i = (sgn (l.drop i) 0).map fun p => (p.1, i + p.2) := by
  by_cases hi : l.length ≤ i
  · unfold sgn
    rw [if_pos hi, if_pos (by rw [List.length_drop]; omega)]; rfl
  · unfold sgn
    simp only [nx_drop, List.length_drop, Nat.zero_add, Nat.add_zero]
    have e0 : (l.length - i ≤ 0) ↔ (l.length ≤ i) := by omega
    have e1 : (l.length - i ≤ 1) ↔ (l.length ≤ i + 1) := by omega
    have e2 : (l.length - i ≤ 2) ↔ (l.length ≤ i + 2) := by omega
    have e3 : (l.length - i ≤ 3) ↔ (l.length ≤ i + 3) := by omega
    simp only [e0, e1, e2, e3, if_neg hi]
    split
    · split <;> simp
    · split
      · rfl
      · split
        · split <;> simp
        · split <;> simp
theorem sgn_at {l t rest : List UInt8} {i c n : Nat} (h : l.drop i = t ++ rest) (k : sgn (t ++ rest) 0 = some (c, n)) : sgn l i = some (c, i + n) := by
  rw [sgn_drop, h, k]; rfl
/-- A sign in sixteens. -/
def hx (c : Nat) : List UInt8 := [92, 120, hexd (c / 16), hexd (c % 16)]
theorem dig_hexd : ∀ k, k < 16 → dig (hexd k).toNat = k := by decide +kernel
theorem sgn_hx {c : Nat} (hc : c < 256) (rest : List UInt8) : sgn (hx c ++ rest) 0 = some (c, 4) := by
  unfold sgn hx
  have d1 := dig_hexd (c / 16) (by omega)
  have d2 := dig_hexd (c % 16) (by omega)
  have n0 : nx (([92, 120, hexd (c / 16), hexd (c % 16)] : List UInt8) ++ rest) 0 = 92 := rfl
  have n1 : nx (([92, 120, hexd (c / 16), hexd (c % 16)] : List UInt8) ++ rest) (0 + 1) = 120 := rfl
  have n2 : nx (([92, 120, hexd (c / 16), hexd (c % 16)] : List UInt8) ++ rest) (0 + 2) = (hexd (c / 16)).toNat := rfl
  have n3 : nx (([92, 120, hexd (c / 16), hexd (c % 16)] : List UInt8) ++ rest) (0 + 3) = (hexd (c % 16)).toNat := rfl
  rw [n0, n1, n2, n3, d1, d2]
  have hl : (([92, 120, hexd (c / 16), hexd (c % 16)] : List UInt8) ++ rest).length = rest.length + 4 := by simp
  rw [hl, if_neg (by omega), if_neg (by simp), if_neg (by omega), if_pos rfl, if_neg (by omega)]
  have : c / 16 * 16 + c % 16 = c := by omega
  rw [this]
theorem toNat_of {c : Nat} (hc : c < 256) : (UInt8.ofNat c).toNat = c := by simp [UInt8.toNat_ofNat']; omega
theorem isSp120 : isSp 120 = false := by decide
theorem isSp92 : isSp 92 = true := by decide
theorem sgn_sgT {c : Nat} (hc : c < 256) (rest : List UInt8) : sgn (sgT c ++ rest) 0 = some (c, (sgT c).length) := by
  unfold sgT
  by_cases h1 : c < 33 ∨ 126 < c
  · rw [if_pos h1]; exact sgn_hx hc rest
  rw [if_neg h1]
  by_cases h2 : isSp c = true
  · rw [if_pos h2]
    unfold sgn
    have n0 : nx (([92, UInt8.ofNat c] : List UInt8) ++ rest) 0 = 92 := rfl
    have n1 : nx (([92, UInt8.ofNat c] : List UInt8) ++ rest) (0 + 1) = c := toNat_of hc
    have hl : (([92, UInt8.ofNat c] : List UInt8) ++ rest).length = rest.length + 2 := by simp
    have hx : c ≠ 120 := by rintro rfl; rw [isSp120] at h2; cases h2
    rw [n0, n1, hl, if_neg (by omega), if_neg (by simp), if_neg (by omega), if_neg hx, if_pos h2]
    rfl
  · rw [if_neg h2]
    unfold sgn
    have n0 : nx (([UInt8.ofNat c] : List UInt8) ++ rest) 0 = c := toNat_of hc
    have hl : (([UInt8.ofNat c] : List UInt8) ++ rest).length = rest.length + 1 := by simp
    have hx : c ≠ 92 := by rintro rfl; rw [isSp92] at h2; exact h2 rfl
    have hn : ¬(c < 33 ∨ 126 < c ∨ isSp c = true) := by
      rintro (h | h | h)
      · exact h1 (.inl h)
      · exact h1 (.inr h)
      · exact h2 h
    rw [n0, hl, if_neg (by omega), if_pos hx, if_neg hn]
    rfl
theorem sgT_first {c : Nat} (hc : c < 256) (rest : List UInt8) : nx (sgT c ++ rest) 0 ≠ 45 ∧ nx (sgT c ++ rest) 0 ≠ 93 ∧ nx (sgT c ++ rest) 0 ≠ 94 ∧ nx (sgT c ++ rest) 0 ≠ 46 ∧ nx (sgT c ++ rest) 0 ≠ 91 := by
  unfold sgT
  split
  · rw [show nx (([92, 120, hexd (c / 16), hexd (c % 16)] : List UInt8) ++ rest) 0 = 92 from rfl]; omega
  split
  · rw [show nx (([92, UInt8.ofNat c] : List UInt8) ++ rest) 0 = 92 from rfl]; omega
  · rename_i h
    rw [show nx (([UInt8.ofNat c] : List UInt8) ++ rest) 0 = c from toNat_of hc]
    refine ⟨?_, ?_, ?_, ?_, ?_⟩ <;> (rintro rfl; exact h (by decide))
/-- A text that reads as a part, behind anything and ahead of all that is no stroke. -/
structure PT (t : List UInt8) (a b : Nat) : Prop where
  len : 1 ≤ t.length
  first : ∀ rest, nx (t ++ rest) 0 ≠ 45 ∧ nx (t ++ rest) 0 ≠ 93 ∧ nx (t ++ rest) 0 ≠ 94
  read : ∀ l i rest, l.drop i = t ++ rest → nx rest 0 ≠ 45 → prt l i = some ((a, b), i + t.length)
theorem drop_more {l t rest : List UInt8} {i : Nat} (h : l.drop i = t ++ rest) : l.drop (i + t.length) = rest := by
  rw [← List.drop_drop, h, List.drop_left]
theorem nx_rest {l t rest : List UInt8} {i : Nat} (h : l.drop i = t ++ rest) : nx l (i + t.length) = nx rest 0 := by
  rw [← drop_more h, nx_drop]; rfl
theorem PT.one {t : List UInt8} {c : Nat} (hl : 1 ≤ t.length) (hf : ∀ rest, nx (t ++ rest) 0 ≠ 45 ∧ nx (t ++ rest) 0 ≠ 93 ∧ nx (t ++ rest) 0 ≠ 94)
    (hr : ∀ rest, sgn (t ++ rest) 0 = some (c, t.length)) : PT t c c where
  len := hl
  first := hf
  read l i rest h hn := by
    unfold prt
    rw [sgn_at h (hr rest)]
    dsimp only
    rw [nx_rest h, if_pos hn]
theorem PT.two {t u : List UInt8} {a b : Nat} (hab : a ≤ b) (hl : 1 ≤ t.length) (hf : ∀ rest, nx (t ++ rest) 0 ≠ 45 ∧ nx (t ++ rest) 0 ≠ 93 ∧ nx (t ++ rest) 0 ≠ 94)
    (ht : ∀ rest, sgn (t ++ rest) 0 = some (a, t.length)) (hu : ∀ rest, sgn (u ++ rest) 0 = some (b, u.length)) : PT (t ++ ([45] ++ u)) a b where
  len := by simp; omega
  first rest := by rw [List.append_assoc]; exact hf _
  read l i rest h hn := by
    rw [List.append_assoc] at h
    unfold prt
    rw [sgn_at h (ht _)]
    dsimp only
    have h2 := drop_more h
    have n1 : nx l (i + t.length) = 45 := by rw [nx_rest h]; rfl
    rw [n1, if_neg (by simp)]
    have h3 : l.drop (i + t.length + 1) = u ++ rest := by rw [← List.drop_drop, h2]; rfl
    rw [sgn_at h3 (hu _)]
    dsimp only
    rw [if_neg (by omega)]
    simp only [List.length_append, List.length_cons, List.length_nil]
    congr 2
    omega
theorem hx_first (c : Nat) (rest : List UInt8) : nx (hx c ++ rest) 0 ≠ 45 ∧ nx (hx c ++ rest) 0 ≠ 93 ∧ nx (hx c ++ rest) 0 ≠ 94 := by
  rw [show nx (hx c ++ rest) 0 = 92 from rfl]; omega
theorem sgT_len1 (c : Nat) : 1 ≤ (sgT c).length := by unfold sgT; split <;> (try split) <;> simp
theorem PT.hx {c : Nat} (hc : c < 256) : PT (hx c) c c := .one (by unfold Go.E.hx; simp) (hx_first c) (sgn_hx hc)
theorem PT.hx2 {a b : Nat} (hab : a ≤ b) (hb : b < 256) : PT (Go.E.hx a ++ ([45] ++ Go.E.hx b)) a b := .two hab (by unfold Go.E.hx; simp) (hx_first a) (sgn_hx (by omega)) (sgn_hx hb)
theorem PT.sg {c : Nat} (hc : c < 256) : PT (sgT c) c c := .one (sgT_len1 c) (fun r => ⟨(sgT_first hc r).1, (sgT_first hc r).2.1, (sgT_first hc r).2.2.1⟩) (sgn_sgT hc)
theorem PT.sg2 {a b : Nat} (hab : a ≤ b) (hb : b < 256) : PT (sgT a ++ ([45] ++ sgT b)) a b :=
  have hc : a < 256 := by omega
  .two hab (sgT_len1 a) (fun r => ⟨(sgT_first hc r).1, (sgT_first hc r).2.1, (sgT_first hc r).2.2.1⟩) (sgn_sgT (by omega)) (sgn_sgT hb)
abbrev Tok := List UInt8 × Nat × Nat
def tokT (ts : List Tok) : List UInt8 := ts.flatMap (·.1)
def tokS (ts : List Tok) (c : Nat) : Bool := ts.any fun x => fromTo x.2.1 x.2.2 c
theorem tokT_first {ts : List Tok} (h : ∀ x ∈ ts, PT x.1 x.2.1 x.2.2) (more : List UInt8) : nx (tokT ts ++ 93 :: more) 0 ≠ 45 ∧ nx (tokT ts ++ 93 :: more) 0 ≠ 94 := by
  cases ts with
  | nil => rw [show nx (tokT [] ++ 93 :: more) 0 = 93 from rfl]; omega
  | cons x ts =>
    have := (h x (by simp)).first (tokT ts ++ 93 :: more)
    unfold tokT at this ⊢
    rw [List.flatMap_cons, List.append_assoc]
    exact ⟨this.1, this.2.2⟩
theorem tokT_len {ts : List Tok} (h : ∀ x ∈ ts, PT x.1 x.2.1 x.2.2) : ts.length ≤ (tokT ts).length := by
  induction ts with
  | nil => simp
  | cons x ts ih =>
    have := (h x (by simp)).len
    have := ih fun y hy => h y (by simp [hy])
    unfold tokT at this ⊢
    rw [List.flatMap_cons, List.length_append, List.length_cons]
    omega
theorem prts_toks {l more : List UInt8} : ∀ {ts : List Tok} {i N : Nat} {S : Nat → Bool}, (∀ x ∈ ts, PT x.1 x.2.1 x.2.2) → l.drop i = tokT ts ++ 93 :: more → ts.length < N →
    prts l N i S = some (fun c => S c || tokS ts c, i + (tokT ts).length + 1) := by
  intro ts
  induction ts with
  | nil =>
    intro i N S _ hd hN
    cases N with
    | zero => simp at hN
    | succ N =>
      unfold prts
      have : nx l i = 93 := by have := nx_rest (t := []) (i := i) hd; exact this
      rw [if_pos this]
      simp [tokS, tokT]
  | cons x ts ih =>
    intro i N S h hd hN
    cases N with
    | zero => simp at hN
    | succ N =>
      have hx := h x (by simp)
      have ht : ∀ y ∈ ts, PT y.1 y.2.1 y.2.2 := fun y hy => h y (by simp [hy])
      have hd' : l.drop i = x.1 ++ (tokT ts ++ 93 :: more) := by rw [hd]; unfold tokT; rw [List.flatMap_cons, List.append_assoc]
      have n0 : nx l i ≠ 93 := by
        have := (hx.first (tokT ts ++ 93 :: more)).2.1
        rw [← hd', nx_drop] at this; exact this
      unfold prts
      rw [if_neg n0, hx.read l i _ hd' (tokT_first ht more).1]
      dsimp only
      rw [ih ht (drop_more hd') (by simp at hN; omega)]
      congr 2
      · funext c
        unfold tokS
        rw [List.any_cons, Bool.or_assoc]
      · unfold tokT
        rw [List.flatMap_cons, List.length_append]; omega
theorem cls_toks {ts : List Tok} {more : List UInt8} (h : ∀ x ∈ ts, PT x.1 x.2.1 x.2.2) (hne : ts ≠ []) (other : Bool) :
    cls0 ((if other = true then [91, 94] else [91]) ++ (tokT ts ++ 93 :: more)) = some (fun c => if other = true then !(tokS ts c) else tokS ts c, (if other = true then 2 else 1) + (tokT ts).length + 1) := by
  obtain ⟨l, el⟩ : ∃ l, l = (if other = true then [91, 94] else [91]) ++ (tokT ts ++ 93 :: more) := ⟨_, rfl⟩
  rw [← el]
  have n0 : nx l 0 = 91 := by rw [el]; cases other <;> rfl
  have n1 : (nx l 1 = 94) = (other = true) := by
    rw [el]
    cases other
    · rw [if_neg (by simp), show nx (([91] : List UInt8) ++ (tokT ts ++ 93 :: more)) 1 = nx (tokT ts ++ 93 :: more) 0 from rfl]
      simp [(tokT_first h more).2]
    · simp; rfl
  have hlen : ts.length < l.length + 1 := by
    have := tokT_len h
    rw [el]; simp; omega
  cases ts with
  | nil => exact absurd rfl hne
  | cons x ts =>
    have hx := h x (by simp)
    have ht : ∀ y ∈ ts, PT y.1 y.2.1 y.2.2 := fun y hy => h y (by simp [hy])
    have hd' : l.drop (if other = true then 2 else 1) = x.1 ++ (tokT ts ++ 93 :: more) := by
      rw [el]
      have : tokT (x :: ts) ++ 93 :: more = x.1 ++ (tokT ts ++ 93 :: more) := by unfold tokT; rw [List.flatMap_cons, List.append_assoc]
      rw [this]
      cases other <;> rfl
    unfold cls0
    rw [if_neg (by omega), if_pos n0]
    simp only [n1]
    rw [hx.read l _ _ hd' (tokT_first ht more).1]
    dsimp only
    rw [prts_toks ht (drop_more hd') (by simp at hlen; omega)]
    dsimp only
    congr 2
    · funext c
      unfold tokS
      rw [List.any_cons]
      cases other <;> rfl
    · unfold tokT
      rw [List.flatMap_cons, List.length_append]; omega
end Go.E
set_option linter.unusedVariables false
set_option linter.unusedSimpArgs false
set_option maxRecDepth 20000
namespace Go.E
open Go.H
attribute [local irreducible] BiN MkS ConvN LookN MapUpN CallV HC limb dbTab
def tok (p : Nat × Nat) : List Tok := if p.2 = p.1 then [(sgT p.1, p.1, p.1)] else if p.2 = p.1 + 1 then [(sgT p.1, p.1, p.1), (sgT p.2, p.2, p.2)] else [(sgT p.1 ++ ([45] ++ sgT p.2), p.1, p.2)]
def runT (rs : List (Nat × Nat)) : List Tok := rs.flatMap tok
theorem tok_PT {p : Nat × Nat} (h : p.1 ≤ p.2) (hb : p.2 < 256) : ∀ x ∈ tok p, PT x.1 x.2.1 x.2.2 := by
  intro x hx
  unfold tok at hx
  split at hx
  · simp at hx; subst hx; exact PT.sg (by omega)
  split at hx
  · simp at hx
    rcases hx with rfl | rfl
    · exact PT.sg (by omega)
    · exact PT.sg hb
  · rw [List.mem_singleton] at hx; subst hx; exact PT.sg2 h hb
theorem runT_PT {rs : List (Nat × Nat)} (h : ∀ p ∈ rs, p.1 ≤ p.2 ∧ p.2 < 256) : ∀ x ∈ runT rs, PT x.1 x.2.1 x.2.2 := by
  intro x hx
  unfold runT at hx
  rw [List.mem_flatMap] at hx
  obtain ⟨p, hp, hx⟩ := hx
  exact tok_PT (h p hp).1 (h p hp).2 x hx
theorem tokT_append (a b : List Tok) : tokT (a ++ b) = tokT a ++ tokT b := by simp [tokT]
theorem tokS_append (a b : List Tok) (c : Nat) : tokS (a ++ b) c = (tokS a c || tokS b c) := by simp [tokS]
theorem tokT_tok (p : Nat × Nat) : tokT (tok p) = shT p.1 p.2 := by
  unfold tok shT
  split
  · simp [tokT]
  split
  · simp [tokT]
  · simp [tokT]
theorem tokS_tok (p : Nat × Nat) (c : Nat) (h : p.1 ≤ p.2) : tokS (tok p) c = fromTo p.1 p.2 c := by
  unfold tok
  split
  · rename_i e; rw [e]; simp [tokS]
  split
  · rename_i _ e
    simp [tokS, fromTo]
    rw [e]
    rw [Bool.eq_iff_iff]; simp; omega
  · simp [tokS]
theorem tokT_runT (rs : List (Nat × Nat)) : tokT (runT rs) = joinR rs := by
  induction rs with
  | nil => rfl
  | cons p rs ih =>
    have : runT (p :: rs) = tok p ++ runT rs := rfl
    rw [this, tokT_append, ih, tokT_tok]; rfl
theorem tokS_runT {rs : List (Nat × Nat)} (h : ∀ p ∈ rs, p.1 ≤ p.2) (c : Nat) : tokS (runT rs) c = rs.any fun p => fromTo p.1 p.2 c := by
  induction rs with
  | nil => rfl
  | cons p rs ih =>
    have : runT (p :: rs) = tok p ++ runT rs := rfl
    rw [this, tokS_append, ih fun q hq => h q (by simp [hq]), tokS_tok p c (h p (by simp)), List.any_cons]
theorem run_any (f : Nat → Bool) (c : Nat) : ∀ k, ((runL f k).any fun p => fromTo p.1 p.2 c) = (f c && decide (c < k))
  | 0 => by simp [runL]
  | k + 1 => by
    have ih := run_any f c k
    have hok := run_ok f k
    unfold runL
    split
    · rename_i hf
      have hk : (f c && decide (c < k + 1)) = ((f c && decide (c < k)) || decide (c = k)) := by
        by_cases hc : c = k
        · subst hc; simp [hf]
        · rw [Bool.eq_iff_iff]; simp [hc]; intro _; omega
      rw [hk, ← ih]
      rcases List.eq_nil_or_concat (runL f k) with h | ⟨l0, ⟨a, b⟩, h⟩
      · rw [h, runS_nil]
        simp [fromTo]
        rw [Bool.eq_iff_iff]; simp; omega
      · rw [List.concat_eq_append] at h
        rw [h] at hok ⊢
        have hab := hok (a, b) (by simp)
        rw [runS_snoc]
        split
        · rename_i e
          simp only [List.any_append, List.any_cons, List.any_nil, Bool.or_false, Bool.or_assoc]
          congr 1
          unfold fromTo
          rw [Bool.eq_iff_iff]; simp at hab ⊢; omega
        · simp only [List.any_append, List.any_cons, List.any_nil, Bool.or_false, Bool.or_assoc]
          congr 2
          unfold fromTo
          rw [Bool.eq_iff_iff]; simp; omega
    · rename_i hf
      rw [ih]
      by_cases hc : c = k
      · subst hc; simp [hf]
      · rw [Bool.eq_iff_iff]; simp; intro _; omega
theorem empty_not {S : Nat → Bool} {c : Nat} (hc : c < 256) (h : S c = true) : ¬ emptyS S = true := by
  intro he
  have := empty_all he c hc
  rw [this] at h; cases h
/-- What is shown of a set that is not empty is read as it was, whatever stands behind. -/
theorem cls_shW {f : Nat → Bool} (hf : ¬ emptyS f = true) (more : List UInt8) : ∃ f', cls (shW f ++ more) = some (f', (shW f).length) ∧ ∀ c, c < 256 → f' c = f c := by
  obtain ⟨t, ht, hft, _⟩ := empty_ex hf
  have key : ∀ f', cls0 (shW f ++ more) = some (f', (shW f).length) → (∀ c, c < 256 → f' c = f c) → ∃ f', cls (shW f ++ more) = some (f', (shW f).length) ∧ ∀ c, c < 256 → f' c = f c := by
    intro f' h1 h2
    refine ⟨f', ?_, h2⟩
    unfold cls
    rw [h1]
    dsimp only
    rw [if_neg (empty_not ht (by rw [h2 t ht]; exact hft))]
  have hany := fun c => run_any f c 256
  have hok := run_ok f 256
  have hbrk : ∀ rs, runL f 256 = rs → shW f = brk rs → ∃ f', cls (shW f ++ more) = some (f', (shW f).length) ∧ ∀ c, c < 256 → f' c = f c := by
    intro rs hrs hs
    have hnn : runT rs ≠ [] := by
      intro hn
      have h1 := hany t
      rw [hrs, ← tokS_runT (fun p hp => (hok p (hrs ▸ hp)).1), hn] at h1
      simp [tokS, hft] at h1
      omega
    have h0 := cls_toks (more := more) (runT_PT fun p hp => hok p (hrs ▸ hp)) hnn false
    simp only [Bool.false_eq_true, if_false] at h0
    refine key (fun c => tokS (runT rs) c) ?_ ?_
    · rw [hs]
      rw [tokT_runT] at h0
      unfold brk
      rw [show ([91] ++ joinR rs ++ [93]) ++ more = [91] ++ (joinR rs ++ 93 :: more) by simp, h0]
      congr 2
      simp; omega
    · intro c hc
      show tokS (runT rs) c = f c
      rw [tokS_runT (fun p hp => (hok p (hrs ▸ hp)).1), ← hrs, hany c]
      simp [hc]
  by_cases h0 : (runL f 256).length = 0
  · exfalso
    have h1 := hany t
    rw [List.length_eq_zero_iff.mp h0] at h1
    simp [hft] at h1
    omega
  by_cases hfull : fullS f = true
  · have hs : shW f = [46] := by unfold shW; rw [if_neg h0, if_pos hfull]
    refine key (fun _ => !false) ?_ ?_
    · rw [hs]
      unfold cls0
      rw [show nx (([46] : List UInt8) ++ more) 0 = 46 from rfl, if_pos rfl]
      rfl
    · intro c hc
      have := empty_all hfull c hc
      simp at this
      rw [this]; rfl
  · cases hr : runL f 256 with
    | nil => rw [hr] at h0; simp at h0
    | cons p rs =>
      cases rs with
      | cons q rs => exact hbrk _ hr (by unfold shW; rw [if_neg h0, if_neg hfull, hr])
      | nil =>
        obtain ⟨a, b⟩ := p
        have hs : shW f = if a = b then sgT a else brk [(a, b)] := by unfold shW; rw [if_neg h0, if_neg hfull, hr]
        have hab := hok (a, b) (by rw [hr]; simp)
        dsimp only at hab
        by_cases e : a = b
        · rw [if_pos e] at hs
          subst e
          refine key (fromTo a a) ?_ ?_
          · rw [hs]
            have hf := sgT_first (c := a) hab.2 more
            unfold cls0
            rw [if_neg hf.2.2.2.1, if_neg hf.2.2.2.2, sgn_sgT hab.2]
          · intro c hc
            have h1 := hany c
            rw [hr] at h1
            simp only [List.any_cons, List.any_nil, Bool.or_false] at h1
            rw [h1]; simp [hc]
        · rw [if_neg e] at hs
          exact hbrk _ hr hs
end Go.E
set_option linter.unusedVariables false
set_option linter.unusedSimpArgs false
set_option maxRecDepth 20000
namespace Go.E.Rg
open Go.H Go.E
mutual
def same : Rx → Rx → Prop
  | .mk k S ps, .mk k' S' qs => k = k' ∧ (∀ c, c < 256 → S c = S' c) ∧ sameL ps qs
def sameL : List Rx → List Rx → Prop
  | [], [] => True
  | r :: rs, q :: qs => same r q ∧ sameL rs qs
  | _, _ => False
end
theorem sameL_len : ∀ {ps qs : List Rx}, sameL ps qs → ps.length = qs.length
  | [], [], _ => rfl
  | r :: rs, q :: qs, h => by unfold sameL at h; rw [List.length_cons, List.length_cons, sameL_len h.2]
  | [], _ :: _, h => by unfold sameL at h; exact h.elim
  | _ :: _, [], h => by unfold sameL at h; exact h.elim
theorem sameL_one {r q : Rx} (h : same r q) : sameL [r] [q] := by unfold sameL; exact ⟨h, by unfold sameL; trivial⟩
theorem same_no {k : Int} {S : Nat → Bool} {ps qs : List Rx} (hS : emptyS S = true) (h : sameL ps qs) : same (.mk k noS ps) (.mk k S qs) := by
  unfold same
  exact ⟨rfl, fun c hc => (empty_all hS c hc).symm, h⟩
theorem formL_iff {k : Int} : ∀ {ps : List Rx}, formL k ps = true ↔ ∀ a ∈ ps, a.k ≠ k ∧ form a = true
  | [] => by unfold formL; simp
  | r :: rs => by
    unfold formL
    rw [Bool.and_eq_true, Bool.and_eq_true, formL_iff (ps := rs), decide_eq_true_eq]
    simp [List.forall_mem_cons]
theorem sgK_iff {k : Int} : sgK k = true ↔ 4 ≤ k ∧ k ≤ 6 := by unfold sgK; simp
theorem form_cases {k : Int} {S : Nat → Bool} {ps : List Rx} (h : form (.mk k S ps) = true) :
    (k = 1 ∧ ps = [] ∧ emptyS S = false) ∨ (emptyS S = true ∧ (∀ a ∈ ps, a.k ≠ k ∧ form a = true) ∧ (((k = 2 ∨ k = 3) ∧ 2 ≤ ps.length) ∨ (4 ≤ k ∧ k ≤ 6 ∧ ∃ x, ps = [x] ∧ sgK x.k = false))) := by
  unfold form at h
  split at h
  · rename_i hk
    rw [Bool.and_eq_true] at h
    exact .inl ⟨hk, by cases ps <;> simp_all, by simpa using h.2⟩
  · split at h
    · cases h
    · rename_i hS
      have hS : emptyS S = true := by simpa using hS
      refine .inr ⟨hS, ?_⟩
      split at h
      · rename_i hk
        rw [Bool.and_eq_true, decide_eq_true_eq, formL_iff] at h
        exact ⟨h.2, .inl ⟨hk, h.1⟩⟩
      · split at h
        · rename_i hk
          rw [Bool.and_eq_true, Bool.and_eq_true, decide_eq_true_eq, formL_iff] at h
          refine ⟨h.2, .inr ⟨(sgK_iff.mp hk).1, (sgK_iff.mp hk).2, ?_⟩⟩
          obtain ⟨x, rfl⟩ := List.length_eq_one_iff.mp h.1.1
          exact ⟨x, rfl, by simpa using h.1.2⟩
        · cases h
/-- Bytes that begin no part. -/
def badH (c : UInt8) : Prop := c = 42 ∨ c = 43 ∨ c = 63 ∨ c = 124 ∨ c = 41
def good (s : List UInt8) : Prop := ∃ c t, s = c :: t ∧ ¬ badH c
theorem sgT_good {c : Nat} (hc : c < 256) : ∃ x t, sgT c = x :: t ∧ ¬ badH x ∧ x ≠ 40 := by
  unfold sgT
  split
  · exact ⟨_, _, rfl, by unfold badH; decide, by decide⟩
  · split
    · exact ⟨_, _, rfl, by unfold badH; decide, by decide⟩
    · rename_i h
      refine ⟨_, _, rfl, ?_, ?_⟩
      · have key : ∀ k : Nat, k < 256 → isSp k = true → UInt8.ofNat c ≠ UInt8.ofNat k := by
          intro k hk hs e
          have := congrArg UInt8.toNat e
          rw [toNat_of hc, toNat_of hk] at this
          subst this; exact h hs
        rintro (e | e | e | e | e)
        · exact key 42 (by decide) (by decide) e
        · exact key 43 (by decide) (by decide) e
        · exact key 63 (by decide) (by decide) e
        · exact key 124 (by decide) (by decide) e
        · exact key 41 (by decide) (by decide) e
      · intro e
        have := congrArg UInt8.toNat e
        rw [toNat_of hc] at this
        have e2 : c = 40 := this
        subst e2; exact h (by decide)
theorem shW_good {f : Nat → Bool} (hf : emptyS f = false) : ∃ x t, shW f = x :: t ∧ ¬ badH x ∧ x ≠ 40 := by
  have hb : ∀ rs, ∃ x t, brk rs = x :: t ∧ ¬ badH x ∧ x ≠ 40 := fun rs => ⟨91, _, rfl, by unfold badH; decide, by decide⟩
  have hok := run_ok f 256
  have hany := fun c => run_any f c 256
  unfold shW
  split
  · rename_i h0
    exfalso
    obtain ⟨t, ht, hft, _⟩ := empty_ex (S := f) (by rw [hf]; decide)
    have h1 := hany t
    rw [List.length_eq_zero_iff.mp h0] at h1
    simp [hft] at h1
    omega
  · split
    · exact ⟨46, [], rfl, by unfold badH; decide, by decide⟩
    · split
      · rename_i a b hr
        have hab := hok (a, b) (by rw [hr]; simp)
        split
        · exact sgT_good (by have := hab.1; have := hab.2; simp only at *; omega)
        · exact hb _
      · exact hb _
theorem atom_set {alt : Nat → List UInt8 → Res} {d : Nat} {f : Nat → Bool} (hf : emptyS f = false) (more : List UInt8) : ∃ f', (∀ c, c < 256 → f' c = f c) ∧ atomF alt d (shW f ++ more) = .ok (.mk 1 f' [], more) := by
  obtain ⟨f', h1, h2⟩ := cls_shW (f := f) (by rw [hf]; decide) more
  obtain ⟨x, t, h3, _, h4⟩ := shW_good hf
  refine ⟨f', h2, ?_⟩
  have e : ∀ s, s = shW f ++ more → atomF alt d s = .ok (.mk 1 f' [], more) := by
    intro s hs
    unfold atomF
    split
    · rename_i s' _
      rw [h3] at hs
      cases hs
      exact absurd rfl h4
    · rw [hs, h1]
      simp
  exact e _ rfl
theorem atom_brk {alt : Nat → List UInt8 → Res} {d : Nat} (hd : d < 13) {s more : List UInt8} {x : Rx} (h : alt (d + 1) (s ++ 41 :: more) = .ok (x, 41 :: more)) : atomF alt d (40 :: s ++ [41] ++ more) = .ok (x, more) := by
  have e : (40 :: s ++ [41] ++ more : List UInt8) = 40 :: (s ++ 41 :: more) := by simp
  rw [e]
  unfold atomF
  simp only
  rw [if_neg (by omega), h]
  rfl
def notSg (s : List UInt8) : Prop := ∀ c t, s = c :: t → sgI c = none
theorem rep_plain {alt : Nat → List UInt8 → Res} {d : Nat} {s more : List UInt8} {x : Rx} (h : atomF alt d s = .ok (x, more)) (hn : notSg more) : repF alt d s = .ok (x, more) := by
  unfold repF
  rw [h]
  cases more with
  | nil => rfl
  | cons c t => simp only; rw [hn c t rfl]
theorem rep_sign {alt : Nat → List UInt8 → Res} {d : Nat} {s more : List UInt8} {x : Rx} {c : UInt8} {k : Int} (h : atomF alt d s = .ok (x, c :: more)) (hn : sgI c = some k) : repF alt d s = .ok (.mk k noS [x], more) := by
  unfold repF
  rw [h]
  simp only
  rw [hn]
/-- Where a part ends. -/
def stopC (s : List UInt8) : Prop := ∀ c t, s = c :: t → c = 124 ∨ c = 41
def stopA (s : List UInt8) : Prop := ∀ c t, s = c :: t → c = 41
theorem stopA.c {s : List UInt8} (h : stopA s) : stopC s := fun c t e => .inr (h c t e)
theorem stopC.n {s : List UInt8} (h : stopC s) : notSg s := fun c t e => by rcases h c t e with rfl | rfl <;> rfl
theorem good.n {s : List UInt8} (h : good s) : notSg s := by
  rintro c t rfl
  obtain ⟨c', t', e, hb⟩ := h
  cases e
  unfold sgI
  unfold badH at hb
  rw [if_neg (fun e => hb (.inl e)), if_neg (fun e => hb (.inr (.inl e))), if_neg (fun e => hb (.inr (.inr (.inl e))))]
theorem good.app {s more : List UInt8} (h : good s) : good (s ++ more) := by
  obtain ⟨c, t, rfl, hb⟩ := h
  exact ⟨c, t ++ more, rfl, hb⟩
/-- Parts side by side, each of which is read as it was. -/
theorem catL_items {alt : Nat → List UInt8 → Res} {d : Nat} {more : List UInt8} (hm : stopC more) : ∀ (its : List (List UInt8 × Rx)) (l : List Rx) (n : Nat), its.length < n → (∀ x ∈ its, good x.1 ∧ ∀ m, notSg m → ∃ r', same r' x.2 ∧ repF alt d (x.1 ++ m) = .ok (r', m)) →
    ∃ l', sameL l' (its.map (·.2)) ∧ catL alt d n l ((its.map (·.1)).flatten ++ more) = .ok (l ++ l', more)
  | [], l, n + 1, _, _ => by
    refine ⟨[], by unfold sameL; trivial, ?_⟩
    simp only [List.map_nil, List.flatten_nil, List.nil_append, List.append_nil]
    unfold catL
    cases more with
    | nil => rfl
    | cons c t => simp only; rw [if_pos (hm c t rfl)]
  | x :: its, l, n + 1, hn, h => by
    obtain ⟨hg, hx⟩ := h x (by simp)
    have hrest : notSg ((its.map (·.1)).flatten ++ more) := by
      cases its with
      | nil => simpa using hm.n
      | cons y its =>
        have := (h y (by simp)).1
        rw [List.map_cons, List.flatten_cons, List.append_assoc]
        exact this.app.n
    obtain ⟨r', h1, h2⟩ := hx _ hrest
    obtain ⟨l', h3, h4⟩ := catL_items hm its (l ++ [r']) n (by simp at hn; omega) (fun y hy => h y (by simp [hy]))
    refine ⟨r' :: l', by rw [List.map_cons]; unfold sameL; exact ⟨h1, h3⟩, ?_⟩
    rw [List.map_cons, List.flatten_cons, List.append_assoc]
    obtain ⟨c, t, e, hb⟩ := hg
    rw [e] at h2 ⊢
    unfold catL
    simp only [List.cons_append] at h2 ⊢
    unfold badH at hb
    rw [if_neg (fun e => hb (by rcases e with e | e; exact .inr (.inr (.inr (.inl e))); exact .inr (.inr (.inr (.inr e)))))]
    rw [h2]
    simp only
    rw [h4]
    simp
theorem altL_items {alt : Nat → List UInt8 → Res} {d : Nat} {more : List UInt8} (hm : stopA more) : ∀ (its : List (List UInt8 × Rx)) (l : List Rx) (n : Nat), its.length < n → (∀ x ∈ its, ∀ m, stopC m → ∃ r', same r' x.2 ∧ catF alt d (x.1 ++ m) = .ok (r', m)) →
    ∃ l', sameL l' (its.map (·.2)) ∧ altL alt d n l ((its.map fun x => 124 :: x.1).flatten ++ more) = .ok (l ++ l', more)
  | [], l, n + 1, _, _ => by
    refine ⟨[], by unfold sameL; trivial, ?_⟩
    simp only [List.map_nil, List.flatten_nil, List.nil_append, List.append_nil]
    unfold altL
    cases more with
    | nil => rfl
    | cons c t =>
      have := hm c t rfl
      subst this
      rfl
  | x :: its, l, n + 1, hn, h => by
    have hx := h x (by simp)
    have hrest : stopC ((its.map fun x => 124 :: x.1).flatten ++ more) := by
      cases its with
      | nil => simpa using hm.c
      | cons y its =>
        rw [List.map_cons, List.flatten_cons]
        intro c t e
        simp at e
        exact .inl e.1.symm
    obtain ⟨r', h1, h2⟩ := hx _ hrest
    obtain ⟨l', h3, h4⟩ := altL_items hm its (l ++ [r']) n (by simp at hn; omega) (fun y hy => h y (by simp [hy]))
    refine ⟨r' :: l', by rw [List.map_cons]; unfold sameL; exact ⟨h1, h3⟩, ?_⟩
    rw [List.map_cons, List.flatten_cons, List.append_assoc, List.cons_append]
    unfold altL
    simp only
    rw [h2]
    simp only
    rw [h4]
    simp
/-- How a part is shown within what binds so much. -/
def wt (least : Int) (a : Rx) : List UInt8 := if rank a.k < least then 40 :: shw a ++ [41] else shw a
theorem shwL_map (least : Int) : ∀ ps : List Rx, shwL least ps = ps.map (wt least)
  | [] => by unfold shwL; rfl
  | r :: rs => by unfold shwL; rw [shwL_map least rs]; rfl
theorem joinBar_flat : ∀ (x : List UInt8) (l : List (List UInt8)), joinBar (x :: l) = x ++ (l.map fun y => 124 :: y).flatten
  | x, [] => by simp [joinBar]
  | x, y :: r => by
    unfold joinBar
    rw [joinBar_flat y r, List.map_cons, List.flatten_cons]; simp
theorem wt_good {least : Int} {a : Rx} (h : good (shw a)) : good (wt least a) := by
  unfold wt
  split
  · exact ⟨40, _, rfl, by unfold badH; decide⟩
  · exact h
theorem shw_good (r : Rx) : form r = true → good (shw r) := by
  refine Rx.ind (C := fun r => form r = true → good (shw r)) ?_ r
  intro k S ps ih hf
  have hc := form_cases hf
  have first : ∀ least, ps ≠ [] → (∀ a ∈ ps, form a = true) → ∃ a qs, ps = a :: qs ∧ good (wt least a) := by
    intro least hne hall
    cases ps with
    | nil => exact absurd rfl hne
    | cons a qs => exact ⟨a, qs, rfl, wt_good (ih a (by simp) (hall a (by simp)))⟩
  unfold shw
  rcases hc with ⟨hk, rfl, hS⟩ | ⟨hS, hall, hsh⟩
  · rw [if_pos hk]
    obtain ⟨x, t, e, h1, _⟩ := shW_good hS
    exact ⟨x, t, e, h1⟩
  · have hne : ps ≠ [] := by
      rcases hsh with ⟨_, h2⟩ | ⟨_, _, x, rfl, _⟩
      · intro e; rw [e] at h2; simp at h2
      · simp
    have hk1 : k ≠ 1 := by rcases hsh with ⟨h1 | h1, _⟩ | ⟨h1, _⟩ <;> omega
    rw [if_neg hk1]
    obtain ⟨a, qs, rfl, hg⟩ := first (rank k + 1) hne (fun a ha => (hall a ha).2)
    rw [shwL_map, List.map_cons]
    split
    · rw [joinBar_flat]; exact hg.app
    · split
      · rw [List.flatten_cons, List.append_assoc]; exact hg.app
      · rw [List.flatten_cons]; exact hg.app
end Go.E.Rg
set_option linter.unusedVariables false
set_option linter.unusedSimpArgs false
set_option maxRecDepth 20000
namespace Go.E.Rg
open Go.H Go.E
theorem depthL_le : ∀ {ps : List Rx} {a : Rx}, a ∈ ps → depth a ≤ depthL ps
  | r :: rs, a, h => by
    unfold depthL
    rcases List.mem_cons.mp h with rfl | h
    · omega
    · have := depthL_le h; omega
theorem depth_mk (k : Int) (S : Nat → Bool) (ps : List Rx) : depth (.mk k S ps) = depthL ps + 1 := by conv => lhs; unfold depth
theorem depth_sub {r a : Rx} (h : a ∈ r.ps) : depth a + 1 ≤ depth r := by
  obtain ⟨k, S, ps⟩ := r
  rw [depth_mk]
  have := depthL_le (show a ∈ ps from h); omega
theorem depth_pos (r : Rx) : 1 ≤ depth r := by cases r; unfold depth; omega
def BK (r : Rx) : Prop := ∀ n d more, d + depth r ≤ 13 → 14 ≤ n + d → stopA more → ∃ r', same r' r ∧ pAlt n d (shw r ++ more) = .ok (r', more)
theorem brk_of {x : Rx} (hx : BK x) {n d : Nat} (h1 : d + 1 + depth x ≤ 13) (h2 : 14 ≤ n + 1 + d) (m : List UInt8) : ∃ x', same x' x ∧ atomF (pAlt n) d (40 :: shw x ++ [41] ++ m) = .ok (x', m) := by
  obtain ⟨x', h3, h4⟩ := hx n (d + 1) (41 :: m) (by omega) (by omega) (fun c t e => by cases e; rfl)
  have := depth_pos x
  exact ⟨x', h3, atom_brk (by omega) h4⟩
theorem sgI_sgB {k : Int} (h1 : 4 ≤ k) (h2 : k ≤ 6) : sgI (sgB k) = some k := by
  rcases (by omega : k = 4 ∨ k = 5 ∨ k = 6) with rfl | rfl | rfl <;> rfl
theorem shw_sign {k : Int} {S : Nat → Bool} {x : Rx} (h1 : 4 ≤ k) (h2 : k ≤ 6) : shw (.mk k S [x]) = wt 3 x ++ [sgB k] := by
  unfold shw
  rw [if_neg (by omega), if_neg (by omega), if_pos (sgK_iff.mpr ⟨h1, h2⟩)]
  have : rank k = 2 := by unfold rank; rw [if_neg (by omega), if_neg (by omega), if_neg (by omega)]
  rw [this, shwL_map]; simp
theorem rep_of {x : Rx} (hf : form x = true) (hk2 : x.k ≠ 2) (hk3 : x.k ≠ 3) (hb : ∀ y ∈ x.ps, BK y) {n d : Nat} (h1 : d + depth x ≤ 13) (h2 : 14 ≤ n + 1 + d) {m : List UInt8} (hm : notSg m) : ∃ x', same x' x ∧ repF (pAlt n) d (shw x ++ m) = .ok (x', m) := by
  obtain ⟨k, S, ps⟩ := x
  unfold Rx.k at hk2 hk3
  unfold Rx.ps at hb
  simp only at hk2 hk3 hb
  rcases form_cases hf with ⟨hk, rfl, hS⟩ | ⟨hS, hall, hsh⟩
  · obtain ⟨f', h3, h4⟩ := atom_set (alt := pAlt n) (d := d) hS m
    refine ⟨.mk 1 f' [], by unfold same; exact ⟨hk.symm, h3, by unfold sameL; trivial⟩, ?_⟩
    unfold shw
    rw [if_pos hk]
    exact rep_plain h4 hm
  · rcases hsh with ⟨h3 | h3, _⟩ | ⟨h3, h4, y, rfl, hy⟩
    · exact absurd h3 hk2
    · exact absurd h3 hk3
    · have hyf := (hall y (by simp)).2
      have hd : depth y + 1 ≤ depth (Rx.mk k S [y]) := depth_sub (show y ∈ (Rx.mk k S [y]).ps from List.mem_singleton.mpr rfl)
      rw [shw_sign h3 h4, List.append_assoc]
      have key : ∃ y', same y' y ∧ atomF (pAlt n) d (wt 3 y ++ ([sgB k] ++ m)) = .ok (y', sgB k :: m) := by
        unfold wt
        split
        · exact brk_of (hb y (by simp)) (by omega) h2 (sgB k :: m)
        · rename_i hr
          obtain ⟨k', S', ps'⟩ := y
          have hk1 : k' = 1 := by
            unfold rank Rx.k at hr
            simp only at hr
            split at hr
            · omega
            · split at hr
              · omega
              · split at hr
                · assumption
                · omega
          rcases form_cases hyf with ⟨_, rfl, hS'⟩ | ⟨_, _, ⟨h5 | h5, _⟩ | ⟨h5, _⟩⟩
          · obtain ⟨f', h6, h7⟩ := atom_set (alt := pAlt n) (d := d) hS' (sgB k :: m)
            refine ⟨.mk 1 f' [], by unfold same; exact ⟨hk1.symm, h6, by unfold sameL; trivial⟩, ?_⟩
            unfold shw
            rw [if_pos hk1]
            exact h7
          · omega
          · omega
          · omega
      obtain ⟨y', h5, h6⟩ := key
      exact ⟨.mk k noS [y'], same_no hS (sameL_one h5), rep_sign h6 (sgI_sgB h3 h4)⟩
theorem rank_lt2 {k : Int} (h : rank k < 2) : k = 2 ∨ k = 3 := by
  unfold rank at h
  split at h
  · exact .inr ‹_›
  · split at h
    · exact .inl ‹_›
    · split at h <;> omega
theorem fuel_ge : ∀ {its : List (List UInt8 × Rx)}, (∀ x ∈ its, good x.1) → its.length ≤ ((its.map (·.1)).flatten).length
  | [], _ => by simp
  | x :: its, h => by
    have ih := fuel_ge (its := its) (fun y hy => h y (by simp [hy]))
    obtain ⟨c, t, e, _⟩ := h x (by simp)
    rw [List.map_cons, List.flatten_cons, List.length_append, e]
    simp; simp at ih; omega
theorem cat_of {x : Rx} (hf : form x = true) (hk3 : x.k ≠ 3) (hb : ∀ y ∈ x.ps, BK y ∧ ∀ z ∈ y.ps, BK z) {n d : Nat} (h1 : d + depth x ≤ 13) (h2 : 14 ≤ n + 1 + d) {m : List UInt8} (hm : stopC m) : ∃ x', same x' x ∧ catF (pAlt n) d (shw x ++ m) = .ok (x', m) := by
  by_cases hk2 : x.k = 2
  · obtain ⟨k, S, ps⟩ := x
    have hk2 : k = 2 := hk2
    subst hk2
    unfold Rx.ps at hb
    simp only at hb
    rcases form_cases hf with ⟨hk, _⟩ | ⟨hS, hall, ⟨_, hl⟩ | ⟨h3, _⟩⟩
    · omega
    · have hd : ∀ y ∈ ps, d + 1 + depth y ≤ 13 := by
        intro y hy
        have := depthL_le hy
        unfold depth at h1
        omega
      have item : ∀ y ∈ ps, ∀ m', notSg m' → ∃ y', same y' y ∧ repF (pAlt n) d (wt 2 y ++ m') = .ok (y', m') := by
        intro y hy m' hm'
        unfold wt
        have hyy := hall y hy
        split
        · obtain ⟨y', h3, h4⟩ := brk_of (hb y hy).1 (hd y hy) h2 m'
          exact ⟨y', h3, rep_plain h4 hm'⟩
        · rename_i hr
          refine rep_of hyy.2 hyy.1 ?_ (hb y hy).2 (by have := hd y hy; omega) h2 hm'
          intro e
          rw [e] at hr
          exact hr (by decide)
      have gd : ∀ y ∈ ps, good (wt 2 y) := fun y hy => wt_good (shw_good y (hall y hy).2)
      have hshow : shw (.mk 2 S ps) = (ps.map (wt 2)).flatten := by
        unfold shw
        rw [if_neg (by decide), if_neg (by decide), if_neg (by decide), show rank 2 + 1 = 2 from rfl, shwL_map]
      rw [hshow]
      match ps, hl, hall, hd, item, gd with
      | p :: qs, hl, hall, hd, item, gd =>
        rw [List.map_cons, List.flatten_cons, List.append_assoc]
        have hrest : notSg ((qs.map (wt 2)).flatten ++ m) := by
          cases qs with
          | nil => simp at hl
          | cons q qs =>
            rw [List.map_cons, List.flatten_cons, List.append_assoc]
            exact (gd q (by simp)).app.n
        obtain ⟨p', h3, h4⟩ := item p (by simp) _ hrest
        have hmap1 : (qs.map fun q => (wt 2 q, q)).map (·.1) = qs.map (wt 2) := by rw [List.map_map]; rfl
        have hmap2 : (qs.map fun q => (wt 2 q, q)).map (·.2) = qs := by rw [List.map_map]; exact List.map_id _
        have hits : ∀ x ∈ qs.map fun q => (wt 2 q, q), good x.1 ∧ ∀ m, notSg m → ∃ r', same r' x.2 ∧ repF (pAlt n) d (x.1 ++ m) = .ok (r', m) := by
          intro x hx
          rw [List.mem_map] at hx
          obtain ⟨q, hq, rfl⟩ := hx
          exact ⟨gd q (by simp [hq]), fun m' hm' => item q (by simp [hq]) m' hm'⟩
        have hfu := fuel_ge (fun x hx => (hits x hx).1)
        obtain ⟨l', h5, h6⟩ := catL_items (alt := pAlt n) (d := d) hm (qs.map fun q => (wt 2 q, q)) [p'] (((qs.map (wt 2)).flatten ++ m).length + 1) (by rw [hmap1] at hfu; rw [List.length_append]; omega) hits
        rw [hmap1] at h6
        rw [hmap2] at h5
        refine ⟨.mk 2 noS (p' :: l'), same_no hS (by unfold sameL; exact ⟨h3, h5⟩), ?_⟩
        unfold catF
        rw [h4]
        simp only
        rw [h6]
        have hl' : l'.length = qs.length := sameL_len h5
        cases l' with
        | nil => simp at hl hl'; omega
        | cons y ys => rfl
    · omega
  · obtain ⟨x', h3, h4⟩ := rep_of hf hk2 hk3 (fun y hy => (hb y hy).1) h1 h2 hm.n
    refine ⟨x', h3, ?_⟩
    unfold catF
    rw [h4]
    simp only
    obtain ⟨l', h5, h6⟩ := catL_items (alt := pAlt n) (d := d) hm [] [x'] (m.length + 1) (by simp) (fun x hx => by cases hx)
    simp only [List.map_nil, List.flatten_nil, List.nil_append] at h6 h5
    have : l' = [] := by cases l' with
      | nil => rfl
      | cons y ys => unfold sameL at h5; exact h5.elim
    subst this
    rw [h6]; rfl
theorem bars_len : ∀ (l : List Rx), l.length ≤ ((l.map ((fun y => 124 :: y) ∘ wt 1)).flatten).length
  | [] => by simp
  | q :: qs => by
    have ih := bars_len qs
    rw [List.map_cons, List.flatten_cons, List.length_append]
    have : 1 ≤ (((fun y => 124 :: y) ∘ wt 1) q).length := by simp
    rw [List.length_cons]; omega
theorem back : ∀ (N : Nat) (r : Rx), depth r ≤ N → form r = true → BK r
  | 0, r, h, _ => by have := depth_pos r; omega
  | N + 1, r, hN, hf => by
    intro n d more h1 h2 hm
    have hp := depth_pos r
    obtain ⟨n', rfl⟩ : ∃ n', n = n' + 1 := ⟨n - 1, by omega⟩
    have sub : ∀ y ∈ r.ps, form y = true ∧ depth y + 1 ≤ depth r := by
      obtain ⟨k, S, ps⟩ := r
      intro y hy
      have hy : y ∈ ps := hy
      refine ⟨?_, depth_sub (show y ∈ (Rx.mk k S ps).ps from hy)⟩
      rcases form_cases hf with ⟨_, rfl, _⟩ | ⟨_, hall, _⟩
      · cases hy
      · exact (hall y hy).2
    have hb : ∀ y ∈ r.ps, BK y := fun y hy => back N y (by have := (sub y hy).2; omega) (sub y hy).1
    have hb2 : ∀ y ∈ r.ps, ∀ z ∈ y.ps, BK z := by
      intro y hy z hz
      obtain ⟨k, S, ps⟩ := y
      have hz : z ∈ ps := hz
      have h3 := depth_sub (show z ∈ (Rx.mk k S ps).ps from hz)
      have h4 := (sub _ hy).2
      have hff : form z = true := by
        rcases form_cases (sub _ hy).1 with ⟨_, rfl, _⟩ | ⟨_, hall, _⟩
        · cases hz
        · exact (hall z hz).2
      refine back N z ?_ hff
      omega
    show ∃ r', same r' r ∧ altF (pAlt n') d (shw r ++ more) = .ok (r', more)
    by_cases hk3 : r.k = 3
    · obtain ⟨k, S, ps⟩ := r
      have hk3 : k = 3 := hk3
      subst hk3
      have hb : ∀ y ∈ ps, BK y := hb
      have hb2 : ∀ y ∈ ps, ∀ z ∈ y.ps, BK z := hb2
      have sub : ∀ y ∈ ps, form y = true ∧ depth y + 1 ≤ depth (.mk 3 S ps) := sub
      rcases form_cases hf with ⟨hk, _⟩ | ⟨hS, hall, ⟨_, hl⟩ | ⟨h3, _⟩⟩
      · omega
      · have item : ∀ y ∈ ps, ∀ m', stopC m' → ∃ y', same y' y ∧ catF (pAlt n') d (wt 1 y ++ m') = .ok (y', m') := by
          intro y hy m' hm'
          have hyy := hall y hy
          have hw : wt 1 y = shw y := by
            unfold wt
            rw [if_neg]
            intro hr
            rcases rank_lt2 (k := y.k) (by omega) with e | e
            · rw [e] at hr; exact absurd hr (by decide)
            · exact hyy.1 e
          rw [hw]
          exact cat_of hyy.2 hyy.1 (fun z hz => ⟨hb2 y hy z hz, by
            intro u hu
            obtain ⟨k2, S2, ps2⟩ := z
            have hu : u ∈ ps2 := hu
            have h5 := depthL_le hu
            obtain ⟨k1, S1, ps1⟩ := y
            have hz : Rx.mk k2 S2 ps2 ∈ ps1 := hz
            have h6 := depthL_le hz
            have h7 := (sub _ hy).2
            have hfz : form (.mk k2 S2 ps2) = true := by
              rcases form_cases hyy.2 with ⟨_, rfl, _⟩ | ⟨_, hall', _⟩
              · cases hz
              · exact (hall' _ hz).2
            have hfu : form u = true := by
              rcases form_cases hfz with ⟨_, rfl, _⟩ | ⟨_, hall', _⟩
              · cases hu
              · exact (hall' _ hu).2
            refine back N u ?_ hfu
            have h8 : depth (Rx.mk k2 S2 ps2) = depthL ps2 + 1 := by conv => lhs; unfold depth
            have h9 : depth (Rx.mk k1 S1 ps1) = depthL ps1 + 1 := by conv => lhs; unfold depth
            omega⟩) (by have := (sub y hy).2; omega) (by omega) hm'
        have hshow : shw (.mk 3 S ps) = joinBar (ps.map (wt 1)) := by
          unfold shw
          rw [if_neg (by decide), if_pos rfl, show rank 3 + 1 = 1 from rfl, shwL_map]
        rw [hshow]
        match ps, hl, item with
        | p :: qs, hl, item =>
          rw [List.map_cons, joinBar_flat, List.append_assoc, List.map_map]
          have hrest : stopC ((qs.map ((fun y => 124 :: y) ∘ wt 1)).flatten ++ more) := by
            cases qs with
            | nil => simp at hl
            | cons q qs =>
              rw [List.map_cons, List.flatten_cons]
              intro c t e
              simp at e
              exact .inl e.1.symm
          obtain ⟨p', h3, h4⟩ := item p (by simp) _ hrest
          have hmap2 : (qs.map fun q => (wt 1 q, q)).map (·.2) = qs := by rw [List.map_map]; exact List.map_id _
          have hmap1 : ((qs.map fun q => (wt 1 q, q)).map fun x => 124 :: x.1) = qs.map ((fun y => 124 :: y) ∘ wt 1) := by rw [List.map_map]; rfl
          have hlen : qs.length ≤ ((qs.map ((fun y => 124 :: y) ∘ wt 1)).flatten).length := by
            exact bars_len qs
          obtain ⟨l', h5, h6⟩ := altL_items (alt := pAlt n') (d := d) hm (qs.map fun q => (wt 1 q, q)) [p'] (((qs.map ((fun y => 124 :: y) ∘ wt 1)).flatten ++ more).length + 1) (by rw [List.length_append, List.length_map]; exact Nat.lt_succ_of_le (Nat.le_trans hlen (Nat.le_add_right _ _))) (by
            intro x hx
            rw [List.mem_map] at hx
            obtain ⟨q, hq, rfl⟩ := hx
            exact fun m' hm' => item q (by simp [hq]) m' hm')
          rw [hmap1] at h6
          rw [hmap2] at h5
          refine ⟨.mk 3 noS (p' :: l'), same_no hS (by unfold sameL; exact ⟨h3, h5⟩), ?_⟩
          unfold altF
          rw [h4]
          simp only
          rw [h6]
          have hl' : l'.length = qs.length := sameL_len h5
          cases l' with
          | nil => simp at hl hl'; omega
          | cons y ys => rfl
      · omega
    · obtain ⟨x', h3, h4⟩ := cat_of hf hk3 (fun y hy => ⟨hb y hy, hb2 y hy⟩) h1 (by omega) hm.c
      refine ⟨x', h3, ?_⟩
      unfold altF
      rw [h4]
      simp only
      obtain ⟨l', h5, h6⟩ := altL_items (alt := pAlt n') (d := d) hm [] [x'] (more.length + 1) (by simp) (fun x hx => by cases hx)
      simp only [List.map_nil, List.flatten_nil, List.nil_append] at h6 h5
      have : l' = [] := by cases l' with
        | nil => rfl
        | cons y ys => unfold sameL at h5; exact h5.elim
      subst this
      rw [h6]; rfl
end Go.E.Rg
set_option linter.unusedVariables false
set_option linter.unusedSimpArgs false
set_option maxRecDepth 20000
namespace Go.E.Rg
open Go.H Go.E
inductive Star (R : Nat → Nat → Prop) : Nat → Nat → Prop where
  | refl (i : Nat) : Star R i i
  | step {i x j : Nat} : R i x → Star R x j → Star R i j
theorem Star.one {R : Nat → Nat → Prop} {i j : Nat} (h : R i j) : Star R i j := .step h (.refl j)
theorem Star.trans {R : Nat → Nat → Prop} {i x j : Nat} (h : Star R i x) (k : Star R x j) : Star R i j := by
  induction h with
  | refl => exact k
  | step a _ ih => exact .step a (ih k)
theorem Star.tail {R : Nat → Nat → Prop} {i x j : Nat} (h : Star R i x) (k : R x j) : Star R i j := h.trans (.one k)
mutual
def M (w : List UInt8) : Rx → Nat → Nat → Prop
  | .mk k S ps, i, j =>
    if k = 1 then j = i + 1 ∧ ∃ c : UInt8, w[i]? = some c ∧ S c.toNat = true
    else if k = 2 then MC w ps i j
    else if k = 3 then MA w ps i j
    else if k = 6 then i = j ∨ M1 w ps i j
    else if k = 4 then Star (M1 w ps) i j
    else ∃ x, M1 w ps i x ∧ Star (M1 w ps) x j
def MC (w : List UInt8) : List Rx → Nat → Nat → Prop
  | [], i, j => i = j
  | r :: rs, i, j => ∃ x, M w r i x ∧ MC w rs x j
def MA (w : List UInt8) : List Rx → Nat → Nat → Prop
  | [], i, j => False
  | r :: rs, i, j => M w r i j ∨ MA w rs i j
def M1 (w : List UInt8) : List Rx → Nat → Nat → Prop
  | [], i, j => i = j
  | r :: _, i, j => M w r i j
end
/-- Matches go to the right, and stay within. -/
theorem Star.le {R : Nat → Nat → Prop} {n : Nat} (h : ∀ i j, R i j → i ≤ j ∧ (i ≤ n → j ≤ n)) {i j : Nat} (k : Star R i j) : i ≤ j ∧ (i ≤ n → j ≤ n) := by
  induction k with
  | refl => exact ⟨Nat.le_refl _, id⟩
  | step a _ ih => have := h _ _ a; exact ⟨by omega, fun hi => ih.2 (this.2 hi)⟩
def has (l : List Bool) (j : Nat) : Prop := l.getD j false = true
/-- How many places are still free. -/
def free (l : List Bool) : Nat := l.countP fun b => !b
end Go.E.Rg
set_option linter.unusedVariables false
set_option linter.unusedSimpArgs false
set_option maxRecDepth 20000
namespace Go.E.Rg
open Go.H Go.E
theorem may_form {r : Rx} (h : may r = 0) : form r = true ∧ nodes r ≤ 40 ∧ depth r ≤ 12 := by
  unfold may at h
  split at h
  · rename_i hf
    split at h
    · cases h
    · exact ⟨hf, by omega, by omega⟩
  · cases h
/-- One byte of a set. -/
def st (S : Nat → Bool) : Rx := .mk 1 S []
theorem may_st {S : Nat → Bool} (h : emptyS S = false) : may (st S) = 0 := by
  unfold may st form nodes depth nodesL depthL
  simp [h]
end Go.E.Rg
set_option linter.unusedVariables false
set_option linter.unusedSimpArgs false
set_option maxRecDepth 20000
namespace Go.E
open Go.H
attribute [local irreducible] BiN MkS ConvN LookN MapUpN CallV HC limb dbTab
/-- What Parse answers: a set, how long, a fault. -/
def res (o : Option ((Nat → Bool) × Nat)) : (Nat → Bool) × Nat × Nat := match o with | some (S, e) => (S, e, 0) | none => (fun _ => false, 0, 2)
end Go.E
set_option linter.unusedVariables false
set_option linter.unusedSimpArgs false
set_option maxRecDepth 20000
namespace Go.E.Rg
open Go.H Go.E
def wrap (s : List UInt8) : Nat → List UInt8
  | 0 => s
  | k + 1 => 40 :: wrap s k ++ [41]
/-- The parts that a bar joins. -/
def parts (x : Rx) : List Rx := if x.k = 3 then x.ps else [x]
end Go.E.Rg
set_option linter.unusedVariables false
set_option linter.unusedSimpArgs false
set_option maxRecDepth 20000
namespace Go.E.Pl
open Go.H Go.E Go.E.Rg
def ins (x : Nat) : List Nat → List Nat
  | [] => [x]
  | y :: ys => if x < y then x :: y :: ys else if x = y then y :: ys else y :: ins x ys
def rise (l : List Nat) : List Nat := l.foldr ins []
def Rz (l : List Nat) : Prop := l.Pairwise (· < ·)
theorem ins_mem {x z : Nat} : ∀ {l : List Nat}, z ∈ ins x l ↔ z = x ∨ z ∈ l := by
  intro l
  induction l with
  | nil => simp [ins]
  | cons y ys ih =>
    unfold ins
    split
    · simp
    · split
      · rename_i h; subst h; simp
      · rw [List.mem_cons, ih, List.mem_cons]
        constructor
        · rintro (h | h | h) <;> simp [h]
        · rintro (h | h | h) <;> simp [h]
theorem ins_rz {x : Nat} : ∀ {l : List Nat}, Rz l → Rz (ins x l) := by
  intro l
  induction l with
  | nil => intro _; simp [ins, Rz]
  | cons y ys ih =>
    intro h
    have hc := List.pairwise_cons.mp h
    unfold ins
    split
    · rename_i hx
      refine List.pairwise_cons.mpr ⟨fun z hz => ?_, h⟩
      rcases List.mem_cons.mp hz with rfl | hz
      · exact hx
      · have := hc.1 z hz; omega
    · split
      · exact h
      · refine List.pairwise_cons.mpr ⟨fun z hz => ?_, ih hc.2⟩
        rcases ins_mem.mp hz with rfl | hz
        · omega
        · exact hc.1 z hz
theorem rise_mem {l : List Nat} {z : Nat} : z ∈ rise l ↔ z ∈ l := by
  unfold rise
  induction l with
  | nil => simp
  | cons x l ih => rw [List.foldr_cons, ins_mem, ih, List.mem_cons]
theorem rise_rz (l : List Nat) : Rz (rise l) := by
  unfold rise
  induction l with
  | nil => exact List.Pairwise.nil
  | cons x l ih => rw [List.foldr_cons]; exact ins_rz ih
theorem rz_eq : ∀ {l m : List Nat}, Rz l → Rz m → (∀ x, x ∈ l ↔ x ∈ m) → l = m := by
  intro l
  induction l with
  | nil =>
    intro m _ _ h
    cases m with
    | nil => rfl
    | cons y ys => exact absurd ((h y).mpr (by simp)) (by simp)
  | cons x l ih =>
    intro m hl hm h
    cases m with
    | nil => exact absurd ((h x).mp (by simp)) (by simp)
    | cons y m =>
      have h1 := List.pairwise_cons.mp hl
      have h2 := List.pairwise_cons.mp hm
      have hxy : x = y := by
        have hx := (h x).mp (by simp)
        have hy := (h y).mpr (by simp)
        rcases List.mem_cons.mp hx with e | hx
        · exact e
        · rcases List.mem_cons.mp hy with e | hy
          · exact e.symm
          · have a := h1.1 y hy; have b := h2.1 x hx; omega
      subst hxy
      congr 1
      refine ih h1.2 h2.2 (fun z => ?_)
      have hz := h z
      rw [List.mem_cons, List.mem_cons] at hz
      constructor
      · intro hzl
        have := h1.1 z hzl
        rcases hz.mp (.inr hzl) with e | e
        · omega
        · exact e
      · intro hzm
        have := h2.1 z hzm
        rcases hz.mpr (.inr hzm) with e | e
        · omega
        · exact e
def also (a b : List Nat) : List Nat := rise (a ++ b)
theorem also_mem {a b : List Nat} {z : Nat} : z ∈ also a b ↔ z ∈ a ∨ z ∈ b := by unfold also; rw [rise_mem, List.mem_append]
theorem also_rz (a b : List Nat) : Rz (also a b) := rise_rz _
theorem rz_len {n : Nat} : ∀ {l : List Nat} {k : Nat}, Rz l → (∀ x ∈ l, k ≤ x ∧ x < n) → l.length ≤ n - k := by
  intro l
  induction l with
  | nil => intro k _ _; simp
  | cons x l ih =>
    intro k h hb
    have h1 := List.pairwise_cons.mp h
    have hx := hb x (by simp)
    have := ih (k := x + 1) h1.2 (fun y hy => ⟨h1.1 y hy, (hb y (by simp [hy])).2⟩)
    rw [List.length_cons]; omega
structure Part where
  fi : List Nat
  la : List Nat
  nu : Bool
structure Sta where
  sets : List (Nat → Bool)
  fol : List (List Nat)
def lk (J : List Nat → List Nat → List Nat) (fol : List (List Nat)) (last first : List Nat) : List (List Nat) := last.foldl (fun f i => f.set i (J (f.getD i []) first)) fol
variable (J : List Nat → List Nat → List Nat)
def stepC (out q : Part) : Part := ⟨if out.nu = true then J out.fi q.fi else out.fi, if q.nu = true then J out.la q.la else q.la, out.nu && q.nu⟩
mutual
def wk : Rx → Sta → Part × Sta
  | .mk k S ps, st =>
    if k = 1 then (⟨[st.sets.length], [st.sets.length], false⟩, ⟨st.sets ++ [S], st.fol ++ [[]]⟩)
    else if k = 2 then wkC ps ⟨[], [], true⟩ st
    else if k = 3 then wkA ps ⟨[], [], false⟩ st
    else wk1 k ps st
def wkC : List Rx → Part → Sta → Part × Sta
  | [], out, st => (out, st)
  | r :: rs, out, st => wkC rs (stepC J out (wk r st).1) ⟨(wk r st).2.sets, lk J (wk r st).2.fol out.la (wk r st).1.fi⟩
def wkA : List Rx → Part → Sta → Part × Sta
  | [], out, st => (out, st)
  | r :: rs, out, st => wkA rs ⟨J out.fi (wk r st).1.fi, J out.la (wk r st).1.la, out.nu || (wk r st).1.nu⟩ (wk r st).2
def wk1 (k : Int) : List Rx → Sta → Part × Sta
  | [], st => (⟨[], [], false⟩, st)
  | r :: _, st => (⟨(wk r st).1.fi, (wk r st).1.la, (wk r st).1.nu || decide (k ≠ 5)⟩, ⟨(wk r st).2.sets, if k ≠ 6 then lk J (wk r st).2.fol (wk r st).1.la (wk r st).1.fi else (wk r st).2.fol⟩)
end
mutual
def setsOf : Rx → List (Nat → Bool)
  | .mk k S ps => if k = 1 then [S] else if k = 2 ∨ k = 3 then setsL ps else sets1 ps
def setsL : List Rx → List (Nat → Bool)
  | [] => []
  | r :: rs => setsOf r ++ setsL rs
def sets1 : List Rx → List (Nat → Bool)
  | [] => []
  | r :: _ => setsOf r
end
def cnt (r : Rx) : Nat := (setsOf r).length
mutual
def Fi : Nat → Rx → Nat → Prop
  | n, .mk k S ps, x => if k = 1 then x = n else if k = 2 then FiC n ps x else if k = 3 then FiA n ps x else Fi1 n ps x
def FiC : Nat → List Rx → Nat → Prop
  | _, [], _ => False
  | n, r :: rs, x => Fi n r x ∨ (null r = true ∧ FiC (n + cnt r) rs x)
def FiA : Nat → List Rx → Nat → Prop
  | _, [], _ => False
  | n, r :: rs, x => Fi n r x ∨ FiA (n + cnt r) rs x
def Fi1 : Nat → List Rx → Nat → Prop
  | _, [], _ => False
  | n, r :: _, x => Fi n r x
end
mutual
def La : Nat → Rx → Nat → Prop
  | n, .mk k S ps, x => if k = 1 then x = n else if k = 2 then LaC n ps x else if k = 3 then LaA n ps x else La1 n ps x
def LaC : Nat → List Rx → Nat → Prop
  | _, [], _ => False
  | n, r :: rs, x => (nullA rs = true ∧ La n r x) ∨ LaC (n + cnt r) rs x
def LaA : Nat → List Rx → Nat → Prop
  | _, [], _ => False
  | n, r :: rs, x => La n r x ∨ LaA (n + cnt r) rs x
def La1 : Nat → List Rx → Nat → Prop
  | _, [], _ => False
  | n, r :: _, x => La n r x
end
mutual
def Fo : Nat → Rx → Nat → Nat → Prop
  | n, .mk k S ps, i, j => if k = 1 then False else if k = 2 then FoC n ps i j else if k = 3 then FoA n ps i j else Fo1 k n ps i j
def FoC : Nat → List Rx → Nat → Nat → Prop
  | _, [], _, _ => False
  | n, r :: rs, i, j => Fo n r i j ∨ FoC (n + cnt r) rs i j ∨ (La n r i ∧ FiC (n + cnt r) rs j)
def FoA : Nat → List Rx → Nat → Nat → Prop
  | _, [], _, _ => False
  | n, r :: rs, i, j => Fo n r i j ∨ FoA (n + cnt r) rs i j
def Fo1 (k : Int) : Nat → List Rx → Nat → Nat → Prop
  | _, [], _, _ => False
  | n, r :: _, i, j => Fo n r i j ∨ (k ≠ 6 ∧ La n r i ∧ Fi n r j)
end
def cntL (ps : List Rx) : Nat := (setsL ps).length
theorem cntL_cons (r : Rx) (rs : List Rx) : cntL (r :: rs) = cnt r + cntL rs := by unfold cntL cnt; rw [setsL, List.length_append]
def In (n m x : Nat) : Prop := n ≤ x ∧ x < n + m
theorem In.add {n a b x : Nat} (h : In (n + a) b x) : In n (a + b) x := by unfold In at *; omega
theorem In.left {n a b x : Nat} (h : In n a x) : In n (a + b) x := by unfold In at *; omega
/-- All that leads anywhere lies within. -/
theorem bounds (r : Rx) : ∀ n, (∀ x, Fi n r x → In n (cnt r) x) ∧ (∀ x, La n r x → In n (cnt r) x) ∧ (∀ i j, Fo n r i j → In n (cnt r) i ∧ In n (cnt r) j) := by
  refine Rx.rec (motive_1 := fun r => ∀ n, (∀ x, Fi n r x → In n (cnt r) x) ∧ (∀ x, La n r x → In n (cnt r) x) ∧ (∀ i j, Fo n r i j → In n (cnt r) i ∧ In n (cnt r) j))
    (motive_2 := fun ps => (∀ n, (∀ x, FiC n ps x → In n (cntL ps) x) ∧ (∀ x, LaC n ps x → In n (cntL ps) x) ∧ (∀ i j, FoC n ps i j → In n (cntL ps) i ∧ In n (cntL ps) j)) ∧
      (∀ n, (∀ x, FiA n ps x → In n (cntL ps) x) ∧ (∀ x, LaA n ps x → In n (cntL ps) x) ∧ (∀ i j, FoA n ps i j → In n (cntL ps) i ∧ In n (cntL ps) j)) ∧
      ∀ k n, (∀ x, Fi1 n ps x → In n (sets1 ps).length x) ∧ (∀ x, La1 n ps x → In n (sets1 ps).length x) ∧ (∀ i j, Fo1 k n ps i j → In n (sets1 ps).length i ∧ In n (sets1 ps).length j)) ?_ ?_ ?_ r
  · intro k S ps ⟨h1, h2, h3⟩ n
    unfold cnt setsOf
    by_cases k1 : k = 1
    · subst k1
      rw [if_pos rfl]
      refine ⟨fun x h => ?_, fun x h => ?_, fun i j h => ?_⟩
      · rw [Fi, if_pos rfl] at h; subst h; exact ⟨Nat.le_refl _, by simp⟩
      · rw [La, if_pos rfl] at h; subst h; exact ⟨Nat.le_refl _, by simp⟩
      · rw [Fo, if_pos rfl] at h; exact h.elim
    · by_cases k2 : k = 2
      · subst k2
        rw [if_neg k1, if_pos (.inl rfl)]
        refine ⟨fun x h => ?_, fun x h => ?_, fun i j h => ?_⟩
        · rw [Fi, if_neg k1, if_pos rfl] at h; exact (h1 n).1 x h
        · rw [La, if_neg k1, if_pos rfl] at h; exact (h1 n).2.1 x h
        · rw [Fo, if_neg k1, if_pos rfl] at h; exact (h1 n).2.2 i j h
      · by_cases k3 : k = 3
        · subst k3
          rw [if_neg k1, if_pos (.inr rfl)]
          refine ⟨fun x h => ?_, fun x h => ?_, fun i j h => ?_⟩
          · rw [Fi, if_neg k1, if_neg k2, if_pos rfl] at h; exact (h2 n).1 x h
          · rw [La, if_neg k1, if_neg k2, if_pos rfl] at h; exact (h2 n).2.1 x h
          · rw [Fo, if_neg k1, if_neg k2, if_pos rfl] at h; exact (h2 n).2.2 i j h
        · rw [if_neg k1, if_neg (by simp [k2, k3])]
          refine ⟨fun x h => ?_, fun x h => ?_, fun i j h => ?_⟩
          · rw [Fi, if_neg k1, if_neg k2, if_neg k3] at h; exact (h3 k n).1 x h
          · rw [La, if_neg k1, if_neg k2, if_neg k3] at h; exact (h3 k n).2.1 x h
          · rw [Fo, if_neg k1, if_neg k2, if_neg k3] at h; exact (h3 k n).2.2 i j h
  · refine ⟨fun n => ⟨fun x h => ?_, fun x h => ?_, fun i j h => ?_⟩, fun n => ⟨fun x h => ?_, fun x h => ?_, fun i j h => ?_⟩, fun k n => ⟨fun x h => ?_, fun x h => ?_, fun i j h => ?_⟩⟩
    · rw [FiC] at h; exact h.elim
    · rw [LaC] at h; exact h.elim
    · rw [FoC] at h; exact h.elim
    · rw [FiA] at h; exact h.elim
    · rw [LaA] at h; exact h.elim
    · rw [FoA] at h; exact h.elim
    · rw [Fi1] at h; exact h.elim
    · rw [La1] at h; exact h.elim
    · rw [Fo1] at h; exact h.elim
  · intro r rs hr ⟨h1, h2, _⟩
    refine ⟨fun n => ?_, fun n => ?_, fun k n => ?_⟩
    · rw [cntL_cons]
      obtain ⟨a1, a2, a3⟩ := hr n
      obtain ⟨b1, b2, b3⟩ := h1 (n + cnt r)
      refine ⟨fun x h => ?_, fun x h => ?_, fun i j h => ?_⟩
      · rw [FiC] at h
        rcases h with h | ⟨_, h⟩
        · exact (a1 x h).left
        · exact (b1 x h).add
      · rw [LaC] at h
        rcases h with ⟨_, h⟩ | h
        · exact (a2 x h).left
        · exact (b2 x h).add
      · rw [FoC] at h
        rcases h with h | h | ⟨h, h'⟩
        · exact ⟨(a3 i j h).1.left, (a3 i j h).2.left⟩
        · exact ⟨(b3 i j h).1.add, (b3 i j h).2.add⟩
        · exact ⟨(a2 i h).left, (b1 j h').add⟩
    · rw [cntL_cons]
      obtain ⟨a1, a2, a3⟩ := hr n
      obtain ⟨b1, b2, b3⟩ := h2 (n + cnt r)
      refine ⟨fun x h => ?_, fun x h => ?_, fun i j h => ?_⟩
      · rw [FiA] at h
        rcases h with h | h
        · exact (a1 x h).left
        · exact (b1 x h).add
      · rw [LaA] at h
        rcases h with h | h
        · exact (a2 x h).left
        · exact (b2 x h).add
      · rw [FoA] at h
        rcases h with h | h
        · exact ⟨(a3 i j h).1.left, (a3 i j h).2.left⟩
        · exact ⟨(b3 i j h).1.add, (b3 i j h).2.add⟩
    · obtain ⟨a1, a2, a3⟩ := hr n
      rw [sets1]
      refine ⟨fun x h => ?_, fun x h => ?_, fun i j h => ?_⟩
      · rw [Fi1] at h; exact a1 x h
      · rw [La1] at h; exact a2 x h
      · rw [Fo1] at h
        rcases h with h | ⟨_, h, h'⟩
        · exact a3 i j h
        · exact ⟨a2 i h, a1 j h'⟩
end Go.E.Pl
set_option linter.unusedVariables false
set_option linter.unusedSimpArgs false
namespace Go.H
open Go.Sort Go.RowKit
theorem HC_put {P : Program} {f : FuncId} {fn : Func} {args : Array Value} {m : Mem} {R : Ending → Mem → Prop} {e0 : Ending} {blk : Nat} {cur : Array Value} {e : TypeId} {fr : Nat × Nat} {d : Array Int} (hf : P.funcs[f]? = some fn) (hn : (fn.name == "runtime.NumGoroutine") = false) (hb : fn.body.isNone = false) (h0 : e0 ≠ .outgrown)
    (hm : m blk = some (.cells cur e fr))
    (h : ∀ w, Fit m w → Calls P f args w fun e1 w' => e1 = e0 ∧ ∃ n os, w' = grow (putRow (Value.int .i64) (Sort.ahead w n) blk 0 d) os)
    (k : R e0 (m.set blk (.cells (Go.Sort.putCells (Value.int .i64) 0 d cur) e fr))) : HC P f args m R := by
  refine .inl ⟨fun w => callFunc_enters hf hn hb args w, fun w hF => ?_⟩
  refine (h w hF).mono ?_
  rintro e1 w' ⟨rfl, n, os, rfl⟩
  have hlt : blk < w.heap.size := hF.lt hm
  have hheap : (grow (putRow (Value.int .i64) (Sort.ahead w n) blk 0 d) os).heap = w.heap.modify blk (onCells (Go.Sort.putCells (Value.int .i64) 0 d)) ++ os := rfl
  have hat : ∀ b, b < w.heap.size → (grow (putRow (Value.int .i64) (Sort.ahead w n) blk 0 d) os).heap[b]? = if blk = b then (w.heap[b]?).map (onCells (Go.Sort.putCells (Value.int .i64) 0 d)) else w.heap[b]? := by
    intro b hb'
    rw [hheap, Array.getElem?_append_left (by rw [Array.size_modify]; exact hb'), Array.getElem?_modify]
  refine ⟨_, h0, k, fun b o hbo => ?_, rfl, rfl, rfl, ?_, fun b hb' hmb => ?_, fun b hb' hmb => ?_⟩
  · unfold Mem.set at hbo
    split at hbo
    · rename_i e2
      subst e2
      cases hbo
      rw [hat b hlt, if_pos rfl, hF b _ hm]
      rfl
    · rename_i e2
      rw [hat b (hF.lt hbo), if_neg (Ne.symm e2)]
      exact hF b o hbo
  · rw [hheap, Array.size_append, Array.size_modify]; omega
  · rw [hat b hb', if_neg]
    rintro rfl
    rw [hm] at hmb; cases hmb
  · unfold Mem.set
    rw [if_neg]
    · exact hmb
    · rintro rfl
      rw [hm] at hmb; cases hmb
theorem HC_same {P : Program} {f : FuncId} {fn : Func} {args : Array Value} {m : Mem} {R : Ending → Mem → Prop} {e0 : Ending} (hf : P.funcs[f]? = some fn) (hn : (fn.name == "runtime.NumGoroutine") = false) (hb : fn.body.isNone = false) (h0 : e0 ≠ .outgrown)
    (h : ∀ w, Fit m w → Calls P f args w fun e1 w' => e1 = e0 ∧ w' = w) (k : R e0 m) : HC P f args m R := by
  refine .inl ⟨fun w => callFunc_enters hf hn hb args w, fun w hF => ?_⟩
  refine (h w hF).mono ?_
  rintro e1 w' ⟨rfl, rfl⟩
  exact ⟨m, h0, k, hF, Fr.refl _ _⟩
theorem put_toList {cur : Array Value} {d : List Int} (h : d.length ≤ cur.size) : (Go.Sort.putCells (Value.int .i64) 0 d.toArray cur).toList = d.map (Value.int .i64) ++ cur.toList.drop d.length := by
  apply List.ext_getElem?
  intro i
  rw [Array.getElem?_toList]
  unfold Go.Sort.putCells
  rw [Array.getElem?_mapIdx]
  by_cases hi : i < d.length
  · rw [List.getElem?_append_left (by simpa using hi), Array.getElem?_eq_getElem (by omega), List.getElem?_map, List.getElem?_eq_getElem hi]
    simp [hi]
  · rw [List.getElem?_append_right (by simp; omega), List.length_map, List.getElem?_drop, show d.length + (i - d.length) = i by omega, Array.getElem?_toList]
    cases cur[i]? with
    | none => rfl
    | some v => simp [hi]
/-- A row of numbers of one's own is what the contracts hold. -/
theorem own_holds {m : Mem} {w : World} (hF : Fit m w) {b l : Nat} {e : TypeId} {zs : List Int} {cur : Array Value} (hm : m b = some (.cells cur e (0, 0))) (ht : cur.toList.take l = ints zs) (hl : zs.length = l) : Holds (Value.int .i64) w b 0 zs.toArray := by
  intro j hj
  have hj' : j < zs.length := by simpa using hj
  have hw := hF b _ hm
  have hc : cur[j]? = some (.int .i64 zs[j]) := by
    have : (cur.toList.take l)[j]? = some (.int .i64 zs[j]) := by
      rw [ht]; unfold ints
      rw [List.getElem?_map, List.getElem?_eq_getElem hj']; rfl
    rw [List.getElem?_take] at this
    split at this
    · rw [Array.getElem?_toList] at this; exact this
    · cases this
  refine ⟨?_, ?_⟩
  · unfold World.cell?
    rw [Nat.zero_add]
    simp only [hw]
    show cur[j]? = _
    rw [hc]
    simp [hj']
  · unfold World.frozen?
    simp only [hw]
    simp
theorem own_put {m : Mem} {b c : Nat} {e : TypeId} {d : List Int} {cur : Array Value} (hm : m b = some (.cells cur e (0, 0))) (hs : cur.size = c) (hlc : d.length ≤ c) (hcm : c ≤ 9223372036854775807) {d1 : List Int} {l1 : Nat} (h1 : d.take l1 = d1) (hl1 : d1.length = l1) :
    Own (m.set b (.cells (Go.Sort.putCells (Value.int .i64) 0 d.toArray cur) e (0, 0))) e 1 (some ⟨b, 0, none⟩) l1 c (ints d1) := by
  have hdl : l1 ≤ d.length := by
    have := congrArg List.length h1
    rw [List.length_take] at this
    omega
  refine ⟨by unfold ints; rw [List.length_map]; omega, .inr ⟨b, _, rfl, set_same _ _ _, by omega, ?_, ?_, hcm⟩⟩
  · unfold Go.Sort.putCells; rw [Array.size_mapIdx]; omega
  · rw [put_toList (by omega), Nat.mul_one, List.take_append_of_le_length (by rw [List.length_map]; exact hdl), ← List.map_take, h1]; rfl
theorem rzI_eq : ∀ {l m : List Int}, l.Pairwise (· < ·) → m.Pairwise (· < ·) → (∀ x, x ∈ l ↔ x ∈ m) → l = m := by
  intro l
  induction l with
  | nil =>
    intro m _ _ h
    cases m with
    | nil => rfl
    | cons y ys => exact absurd ((h y).mpr (by simp)) (by simp)
  | cons x l ih =>
    intro m hl hm h
    cases m with
    | nil => exact absurd ((h x).mp (by simp)) (by simp)
    | cons y m =>
      have h1 := List.pairwise_cons.mp hl
      have h2 := List.pairwise_cons.mp hm
      have hxy : x = y := by
        have hx := (h x).mp (by simp)
        have hy := (h y).mpr (by simp)
        rcases List.mem_cons.mp hx with e | hx
        · exact e
        · rcases List.mem_cons.mp hy with e | hy
          · exact e.symm
          · have a := h1.1 y hy; have b := h2.1 x hx; omega
      subst hxy
      congr 1
      refine ih h1.2 h2.2 (fun z => ?_)
      have hz := h z
      rw [List.mem_cons, List.mem_cons] at hz
      constructor
      · intro hzl
        have := h1.1 z hzl
        rcases hz.mp (.inr hzl) with e | e
        · omega
        · exact e
      · intro hzm
        have := h2.1 z hzm
        rcases hz.mpr (.inr hzm) with e | e
        · omega
        · exact e
theorem compact_rz (zs : List Int) (h : zs.Pairwise (· ≤ ·)) : (Lib.compact zs).Pairwise (· < ·) ∧ ∀ x, x ∈ Lib.compact zs ↔ x ∈ zs := by
  have hle : ∀ i j, i ≤ j → j < zs.length → zs.toArray[i]! ≤ zs.toArray[j]! := by
    intro i j hij hj
    have e : ∀ k, (hk : k < zs.length) → zs.toArray[k]! = zs[k] := fun k hk => by simp [hk]
    rw [e i (by omega), e j hj]
    rcases Nat.lt_or_ge i j with h1 | h1
    · exact List.pairwise_iff_getElem.mp h i j (by omega) hj h1
    · have : i = j := by omega
      subst this; exact Int.le_refl _
  have key : ∀ m, m ≤ zs.length → (Lib.compactUpTo zs.toArray m).Pairwise (· < ·) ∧ ∀ x, x ∈ Lib.compactUpTo zs.toArray m ↔ ∃ j, j < m ∧ zs.toArray[j]! = x := by
    intro m
    induction m with
    | zero => intro _; refine ⟨by unfold Lib.compactUpTo; exact List.Pairwise.nil, fun x => ?_⟩; unfold Lib.compactUpTo; simp
    | succ m ih =>
      intro hm
      obtain ⟨i1, i2⟩ := ih (by omega)
      rw [Lib.compactUpTo_succ]
      by_cases hk : Lib.keeps zs.toArray m = true
      · rw [if_pos hk]
        refine ⟨List.pairwise_append.mpr ⟨i1, List.pairwise_singleton _ _, fun a ha b hb => ?_⟩, fun x => ?_⟩
        · rw [List.mem_singleton] at hb
          subst hb
          obtain ⟨j, hj, rfl⟩ := (i2 a).mp ha
          unfold Lib.keeps at hk
          rw [decide_eq_true_eq] at hk
          have h1 := hle j (m - 1) (by omega) (by omega)
          have h2 := hle (m - 1) m (by omega) (by omega)
          rcases hk with hk | hk
          · omega
          · omega
        · rw [List.mem_append, i2, List.mem_singleton]
          constructor
          · rintro (⟨j, hj, e⟩ | rfl)
            · exact ⟨j, by omega, e⟩
            · exact ⟨m, by omega, rfl⟩
          · rintro ⟨j, hj, e⟩
            by_cases e2 : j = m
            · subst e2; exact .inr e.symm
            · exact .inl ⟨j, by omega, e⟩
      · rw [if_neg hk, List.append_nil]
        refine ⟨i1, fun x => ?_⟩
        rw [i2]
        unfold Lib.keeps at hk
        rw [decide_eq_true_eq] at hk
        constructor
        · rintro ⟨j, hj, e⟩; exact ⟨j, by omega, e⟩
        · rintro ⟨j, hj, e⟩
          by_cases e2 : j = m
          · subst e2
            have h0 : j ≠ 0 := fun e => hk (.inl e)
            refine ⟨j - 1, by omega, ?_⟩
            rw [← e]
            exact (Decidable.not_not.mp (fun hn => hk (.inr hn))).symm
          · exact ⟨j, by omega, e⟩
  obtain ⟨k1, k2⟩ := key zs.length (Nat.le_refl _)
  refine ⟨k1, fun x => ?_⟩
  unfold Lib.compact
  rw [k2]
  constructor
  · rintro ⟨j, hj, rfl⟩
    have : zs.toArray[j]! = zs[j] := by simp [hj]
    rw [this]; exact List.getElem_mem _
  · intro hx
    obtain ⟨j, hj, rfl⟩ := List.getElem_of_mem hx
    exact ⟨j, hj, by simp [hj]⟩
open Go.E.Pl in
theorem compact_sorted (ns : List Nat) : Lib.compact ((ns.map (fun n : Nat => (n : Int))).mergeSort fun x y => decide (x ≤ y)) = (rise ns).map (fun n : Nat => (n : Int)) := by
  obtain ⟨h1, h2⟩ := compact_rz ((ns.map (fun n : Nat => (n : Int))).mergeSort fun x y => decide (x ≤ y)) (by
    have := List.pairwise_mergeSort (le := fun x y : Int => decide (x ≤ y)) (by intro a b c; simp only [decide_eq_true_eq]; omega) (by intro a b; simp only [Bool.or_eq_true, decide_eq_true_eq]; omega) (ns.map (fun n : Nat => (n : Int)))
    exact this.imp (fun h => by simpa using h))
  refine rzI_eq h1 ?_ (fun x => ?_)
  · rw [List.pairwise_map]
    exact (rise_rz ns).imp (fun h => by omega)
  · rw [h2, List.mem_mergeSort, List.mem_map, List.mem_map]
    constructor
    · rintro ⟨n, hn, e⟩; exact ⟨n, rise_mem.mpr hn, e⟩
    · rintro ⟨n, hn, e⟩; exact ⟨n, rise_mem.mp hn, e⟩
end Go.H
set_option linter.unusedVariables false
set_option linter.unusedSimpArgs false
namespace Go.Proofs
open Go.Shelf
def Try.lays189_ren : Go.Shelf.Ren := ⟨fun | 189 => 42 | 125 => 47 | 257 => 46 | 128 => 57 | 129 => 58 | 294 => 48 | 295 => 49 | 296 => 50 | 297 => 51 | 298 => 52 | 299 => 53 | 216 => 54 | 300 => 55 | 301 => 56 | 328 => 59 | 329 => 60 | 330 => 61 | 331 => 62 | 332 => 63 | 215 => 64 | 343 => 65 | n => n, fun | 28 => 34 | 3 => 3 | 46 => 84 | 0 => 0 | 51 => 95 | 53 => 24 | 4 => 4 | 183 => 87 | 182 => 86 | 131 => 92 | 5 => 5 | 9 => 9 | 218 => 97 | 222 => 101 | 228 => 103 | 229 => 70 | n => n, fun | n => n⟩
theorem Try.lays189 : Go.Proofs.Lays.n189 Try.prog Try.lays189_ren := {
  mixed := by kernel_rfl
  f125 := Try.func47.trans (congrArg some (by kernel_rfl))
  f128 := Try.func57.trans (congrArg some (by kernel_rfl))
  f129 := Try.func58.trans (congrArg some (by kernel_rfl))
  f189 := Try.func42.trans (congrArg some (by kernel_rfl))
  f215 := Try.func64.trans (congrArg some (by kernel_rfl))
  f216 := Try.func54.trans (congrArg some (by kernel_rfl))
  f257 := Try.func46.trans (congrArg some (by kernel_rfl))
  f294 := Try.func48.trans (congrArg some (by kernel_rfl))
  f295 := Try.func49.trans (congrArg some (by kernel_rfl))
  f296 := Try.func50.trans (congrArg some (by kernel_rfl))
  f297 := Try.func51.trans (congrArg some (by kernel_rfl))
  f298 := Try.func52.trans (congrArg some (by kernel_rfl))
  f299 := Try.func53.trans (congrArg some (by kernel_rfl))
  f300 := Try.func55.trans (congrArg some (by kernel_rfl))
  f301 := Try.func56.trans (congrArg some (by kernel_rfl))
  f328 := Try.func59.trans (congrArg some (by kernel_rfl))
  f329 := Try.func60.trans (congrArg some (by kernel_rfl))
  f330 := Try.func61.trans (congrArg some (by kernel_rfl))
  f331 := Try.func62.trans (congrArg some (by kernel_rfl))
  f332 := Try.func63.trans (congrArg some (by kernel_rfl))
  f343 := Try.func65.trans (congrArg some (by kernel_rfl))
  t0 := Try.underlying0
  a0 := Try.isAgg0
  z0 := Try.sizeOf0
  v0 := Try.zeroValue0
  t3 := Try.underlying3
  a3 := Try.isAgg3
  z3 := Try.sizeOf3
  v3 := Try.zeroValue3
  t4 := Try.underlying4
  a4 := Try.isAgg4
  z4 := Try.sizeOf4
  v4 := Try.zeroValue4
  t5 := Try.underlying5
  a5 := Try.isAgg5
  z5 := Try.sizeOf5
  v5 := Try.zeroValue5
  t9 := Try.underlying9
  a9 := Try.isAgg9
  z9 := Try.sizeOf9
  v9 := Try.zeroValue9
  t28 := Try.underlying34
  a28 := Try.isAgg34
  z28 := Try.sizeOf34
  v28 := Try.zeroValue34
  t46 := Try.underlying84
  a46 := Try.isAgg84
  z46 := Try.sizeOf84
  v46 := Try.zeroValue84
  t51 := Try.underlying95
  a51 := Try.isAgg95
  z51 := Try.sizeOf95
  v51 := Try.zeroValue95
  t53 := Try.underlying24
  a53 := Try.isAgg24
  z53 := Try.sizeOf24
  v53 := Try.zeroValue24
  t131 := Try.underlying92
  a131 := Try.isAgg92
  z131 := Try.sizeOf92
  v131 := Try.zeroValue92
  t182 := Try.underlying86
  a182 := Try.isAgg86
  z182 := Try.sizeOf86
  v182 := Try.zeroValue86
  t183 := Try.underlying87
  a183 := Try.isAgg87
  z183 := Try.sizeOf87
  v183 := Try.zeroValue87
  t218 := Try.underlying97
  a218 := Try.isAgg97
  z218 := Try.sizeOf97
  v218 := Try.zeroValue97
  t222 := Try.underlying101
  a222 := Try.isAgg101
  z222 := Try.sizeOf101
  v222 := Try.zeroValue101
  t228 := Try.underlying103
  a228 := Try.isAgg103
  z228 := Try.sizeOf103
  v228 := Try.zeroValue103
  t229 := Try.underlying70
  a229 := Try.isAgg70
  z229 := Try.sizeOf70
  v229 := Try.zeroValue70 }
def Try.lays20_ren : Go.Shelf.Ren := ⟨fun | 20 => 43 | n => n, fun | 22 => 34 | 3 => 3 | 4 => 4 | 0 => 0 | n => n, fun | n => n⟩
theorem Try.lays20 : Go.Proofs.Lays2.n20 Try.prog Try.lays20_ren := {
  mixed := by kernel_rfl
  f20 := Try.func43.trans (congrArg some (by kernel_rfl))
  t0 := Try.underlying0
  a0 := Try.isAgg0
  z0 := Try.sizeOf0
  v0 := Try.zeroValue0
  t3 := Try.underlying3
  a3 := Try.isAgg3
  z3 := Try.sizeOf3
  v3 := Try.zeroValue3
  t4 := Try.underlying4
  a4 := Try.isAgg4
  z4 := Try.sizeOf4
  v4 := Try.zeroValue4
  t22 := Try.underlying34
  a22 := Try.isAgg34
  z22 := Try.sizeOf34
  v22 := Try.zeroValue34
  i3 := by kernel_rfl }
end Go.Proofs
namespace Go.E.Pl
open Go.H Go.E
attribute [local irreducible] BiN MkS ConvN LookN MapUpN CallV HC
def ns (l : List Nat) : List Int := l.map fun n : Nat => (n : Int)
theorem ns_len (l : List Nat) : (ns l).length = l.length := List.length_map _
theorem ns_append (a b : List Nat) : ns (a ++ b) = ns a ++ ns b := List.map_append
def srt (zs : List Int) : List Int := zs.mergeSort fun x y => decide (x ≤ y)
theorem srt_len (zs : List Int) : (srt zs).length = zs.length := by unfold srt; exact List.length_mergeSort _
theorem ints_len (zs : List Int) : (ints zs).length = zs.length := by unfold ints; exact List.length_map _
theorem set_chg {m : Mem} {b : Nat} (o : Obj) : Chg (fun k => blk (some (⟨b, 0, none⟩ : Addr)) = some k) m (m.set b o) := (Chg.set m b o).mono (fun k e => by rw [show k = b from e]; rfl)
theorem Sort_spec {m : Mem} {a : Option Addr} {l c : Nat} {zs : List Int} {R : Ending → Mem → Prop} (ho : Own m T_int 1 a l c (ints zs)) (hlm : l ≤ 1000000000) (h : ∀ m', Chg (fun b => blk a = some b) m m' → Own m' T_int 1 a l c (ints (srt zs)) → R (.returned (.tuple #[])) m') : HC P slices_Sort_s_int_int.id #[.slice a l c] m R := by
  have hzl : zs.length = l := by have := ho.1; rw [ints_len] at this; omega
  rcases ho.2 with ⟨rfl, hl, hc⟩ | ⟨b, cur, rfl, hm, hlc, hs, ht, hcm⟩
  · subst hl hc
    have hz : zs = [] := List.eq_nil_of_length_eq_zero hzl
    subst hz
    have e : srt [] = [] := by unfold srt; simp
    have k := h m (Chg.refl _ _) (by rw [e]; exact ho)
    exact HC_same Go.Proofs.Try.func42 (by kernel_rfl) (by kernel_rfl) (by simp) (fun w hF => Go.Proofs.Any.slices_Sort_int_none Go.Proofs.Try.lays189 _ _ w) k
  · refine HC_put (cur := cur) (e := T_int) (d := (srt zs).toArray) (e0 := .returned (.tuple #[])) Go.Proofs.Try.func42 (by kernel_rfl) (by kernel_rfl) (by simp) hm (fun w hF => ?_) ?_
    · have := Go.Proofs.Any.slices_Sort_int Go.Proofs.Try.lays189 b 0 c zs w (own_holds hF hm (by rw [Nat.mul_one] at ht; exact ht) hzl) (hF.lt hm) (by omega)
      rw [hzl] at this
      exact this
    · refine h _ (set_chg _) ?_
      refine own_put hm (by omega) (by rw [srt_len]; omega) hcm (l1 := l) ?_ (by rw [srt_len]; exact hzl)
      rw [List.take_of_length_le (by rw [srt_len]; omega)]
theorem Compact_spec {m : Mem} {a : Option Addr} {l c : Nat} {zs : List Int} {R : Ending → Mem → Prop} (ho : Own m T_int 1 a l c (ints zs)) (hlm : l ≤ 1000000000) (h : ∀ m', Chg (fun b => blk a = some b) m m' → Own m' T_int 1 a (Lib.compact zs).length c (ints (Lib.compact zs)) → R (.returned (.slice a (Lib.compact zs).length c)) m') : HC P slices_Compact_s_int_int.id #[.slice a l c] m R := by
  have hzl : zs.length = l := by have := ho.1; rw [ints_len] at this; omega
  rcases ho.2 with ⟨rfl, hl, hc⟩ | ⟨b, cur, rfl, hm, hlc, hs, ht, hcm⟩
  · subst hl hc
    have hz : zs = [] := List.eq_nil_of_length_eq_zero hzl
    subst hz
    have k := h m (Chg.refl _ _) ho
    exact HC_same Go.Proofs.Try.func43 (by kernel_rfl) (by kernel_rfl) (by simp) (fun w hF => Go.Proofs.Any.slices_Compact_int_empty Go.Proofs.Try.lays20 none 0 w) k
  · have hcl : (Lib.compact zs).length ≤ l := by
      unfold Lib.compact Lib.compactUpTo
      rw [List.length_map]
      have := List.length_filter_le (Lib.keeps zs.toArray) (List.range zs.length)
      rw [List.length_range] at this
      omega
    refine HC_put (cur := cur) (e := T_int) (d := (Lib.compact zs ++ List.replicate (zs.length - (Lib.compact zs).length) 0).toArray) (e0 := .returned (.slice (some ⟨b, 0, none⟩) (Lib.compact zs).length c)) Go.Proofs.Try.func43 (by kernel_rfl) (by kernel_rfl) (by simp) hm (fun w hF => ?_) ?_
    · have := Go.Proofs.Any.slices_Compact_int Go.Proofs.Try.lays20 b 0 c zs w (own_holds hF hm (by rw [Nat.mul_one] at ht; exact ht) hzl) (by omega) (by omega)
      rw [hzl] at this
      rw [hzl]
      refine this.mono ?_
      rintro e w' ⟨h1, q, h2⟩
      exact ⟨h1, q, #[], by rw [Go.Sort.grow_empty]; exact h2⟩
    · refine h _ (set_chg _) ?_
      refine own_put hm (by omega) (by rw [List.length_append, List.length_replicate]; omega) hcm (l1 := (Lib.compact zs).length) ?_ rfl
      rw [List.take_append_of_le_length (Nat.le_refl _), List.take_of_length_le (Nat.le_refl _)]
end Go.E.Pl
set_option linter.unusedVariables false
set_option linter.unusedSimpArgs false
set_option maxRecDepth 20000
namespace Go.E.Pl
open Go.H Go.E
attribute [local irreducible] BiN MkS ConvN LookN MapUpN CallV HC
theorem Grow_spec {m : Mem} {n : Nat} {R : Ending → Mem → Prop} (hn : n ≤ 1000000) (k : ∀ m' a c, Le m m' → Own m' T_int 1 a 0 c [] → Fresh m a → R (.returned (.slice a 0 c)) m') : HC P slices_Grow_s_int_int.id #[.slice none 0 0, .int .i64 (n : Int)] m R := by
  refine slices_Grow_s_int_int.ok _ _ _ _ _ _ ?_
  have e0 : IntKind.i64.wrap (((0 : Nat) : Int) - ((0 : Nat) : Int)) = 0 := by decide
  have e : IntKind.i64.wrap ((n : Int) - (IntKind.i64.wrap (((0 : Nat) : Int) - ((0 : Nat) : Int)))) = (n : Int) := by
    rw [e0, wi (n := (n : Int) - 0) (by omega) (by omega)]; omega
  unfold slices_Grow_s_int_int.e0
  refine BrDf (by omega) ?_
  rw [e]
  refine BrD (fun hp => ?_) (fun hp => ?_)
  · refine ⟨by decide, by decide, by decide, ?_⟩
    refine append_zeros (a := none) (l := 0) (c := 0) (xs := []) eInt (by kernel_rfl) (CellsAt.empty _ _) rfl (by omega) (by omega) (by omega) (by decide) (by decide) (by omega) ?_
    intro b c' cur hb h1 h2 h3 h4
    refine UnS.mk ?_
    refine ⟨by decide, by decide, by omega, ?_⟩
    have hsh : shf (some ⟨b, 0, none⟩) (0 : Int).toNat 1 c' = some ⟨b, 0, none⟩ := by
      unfold shf; split <;> rfl
    show R (.returned (.slice (shf (some ⟨b, 0, none⟩) (0 : Int).toNat 1 c') 0 (c' - 0))) _
    rw [hsh, Nat.sub_zero]
    refine k _ _ _ (Le.set hb _) ⟨rfl, .inr ⟨b, cur, rfl, set_same _ _ _, by omega, h3, by simp, h2⟩⟩ ?_
    intro b' e'
    have : b = b' := by simpa [blk] using e'
    subst this; exact hb
  · refine k _ _ _ (Le.refl _) (Own.nil _ _ _) (Fresh.none _)
theorem Concat_spec {m : Mem} {b8 : Nat} {a : Option Addr} {la ca : Nat} {b : Option Addr} {lb cb : Nat} {xs ys : List Int} {t : TypeId} (hb8 : m b8 = some (.cells #[.slice a la ca, .slice b lb cb] t (0, 0))) (h1 : CellsAt m a (ints xs)) (hla : xs.length = la) (h2 : CellsAt m b (ints ys)) (hlb : ys.length = lb) (hs : la + lb ≤ 1000000)
    {R : Ending → Mem → Prop} (k : ∀ m' a' c', Le m m' → Own m' T_int 1 a' (la + lb) c' (ints (xs ++ ys)) → Fresh m a' → R (.returned (.slice a' (la + lb) c')) m') : HC P slices_Concat_s_int_int.id #[.slice (some ⟨b8, 0, none⟩) 2 2] m R := by
  refine slices_Concat_s_int_int.ok _ _ _ _ _ ?_
  -- the rows as they stand
  let row : Nat → Value := fun j => if j = 0 then .slice a la ca else .slice b lb cb
  have hcell : ∀ (mm : Mem), Le m mm → ∀ j, j < 2 → mm.cell b8 (0 + j * 1) = some (row j) := by
    intro mm hle j hj
    refine cell_of (hle _ _ hb8) ?_
    rcases (by omega : j = 0 ∨ j = 1) with rfl | rfl <;> rfl
  -- the second half
  have k2 : slices_Concat_s_int_int.k2 (some ⟨b8, 0, none⟩) 2 2 ((la + lb : Nat) : Int) R m := by
    unfold slices_Concat_s_int_int.k2
    refine Grow_spec hs ?_
    intro m1 a1 c1 hle1 ho1 hf1
    dsimp only [Cont]
    refine UnS.mk ?_
    let acc : Nat → List Int := fun j => if j = 0 then [] else if j = 1 then xs else xs ++ ys
    refine ⟨fun N na nl nc xa xl xc n i mm => xa = some ⟨b8, 0, none⟩ ∧ xl = 2 ∧ n = 2 ∧ ∃ j : Nat, i = (j : Int) ∧ j ≤ 2 ∧ N = 2 - j ∧ Le m mm ∧ nl = (acc j).length ∧ Own mm T_int 1 na nl nc (ints (acc j)) ∧ Fresh m na, 2,
      ⟨rfl, rfl, rfl, 0, rfl, by omega, rfl, hle1, rfl, ho1, hf1⟩, ?_⟩
    rintro N na nl nc xa xl xc n i mm ⟨rfl, rfl, rfl, j, rfl, hj, rfl, hlm, rfl, hown, hfr⟩
    unfold slices_Concat_s_int_int.l3B
    refine BrD (fun hlt => ?_) (fun hge => ?_)
    · have hj2 : j < 2 := by omega
      refine ⟨by omega, by omega, ?_⟩
      show LdV mm b8 (0 + (j : Int).toNat * 1) _
      rw [Int.toNat_natCast]
      refine LdV.mk (hcell mm hlm j hj2) ?_
      have step : ∀ {a2 : Option Addr} {l2 c2 : Nat} {zs : List Int}, row j = .slice a2 l2 c2 → CellsAt mm a2 (ints zs) → zs.length = l2 → acc (j + 1) = acc j ++ zs → (acc j).length + l2 ≤ 1000000 → (UnS (row j) fun x30a x30l x30c =>
          BiN P .append #[T_sl_int, T_sl_int] T_sl_int #[false, false] #[.slice na (acc j).length nc, .slice x30a x30l x30c] mm (fun w m1 => UnS w fun x33a x33l x33c => ∃ N1, N1 < 2 - j ∧ ((some ⟨b8, 0, none⟩ : Option Addr) = some ⟨b8, 0, none⟩ ∧ 2 = 2 ∧ (2 : Int) = 2 ∧ ∃ j' : Nat, IntKind.i64.wrap ((j : Int) + 1) = (j' : Int) ∧ j' ≤ 2 ∧ N1 = 2 - j' ∧ Le m m1 ∧ x33l = (acc j').length ∧ Own m1 T_int 1 x33a x33l x33c (ints (acc j')) ∧ Fresh m x33a)) (panicR R)) := by
        intro a2 l2 c2 zs hrow hc hzl hacc hlen
        rw [hrow]
        refine UnS.mk ?_
        refine append_own eInt hown hc (by rw [ints_len]; omega) (by intro v hv; unfold ints at hv; rw [List.mem_map] at hv; obtain ⟨z, _, rfl⟩ := hv; rfl) (by decide) (by omega) (by omega) ?_
        intro a' c' m2 ho2 hg
        obtain ⟨hle2, hf2⟩ := grown_le hlm hfr hg
        refine UnS.mk ?_
        refine ⟨2 - (j + 1), by omega, rfl, rfl, rfl, j + 1, ?_, by omega, rfl, hle2, ?_, ?_, hf2⟩
        · rw [wi (by omega) (by omega)]; omega
        · rw [hacc, List.length_append, hzl]
        · rw [hacc]; unfold ints at ho2 ⊢; rw [List.map_append]; exact ho2
      rcases (by omega : j = 0 ∨ j = 1) with rfl | rfl
      · exact step (zs := xs) rfl (h1.le hlm) hla rfl (by show 0 + la ≤ _; omega)
      · exact step (zs := ys) rfl (h2.le hlm) hlb rfl (by show xs.length + lb ≤ _; omega)
    · have : j = 2 := by omega
      subst this
      have e : (acc 2).length = la + lb := by show (xs ++ ys).length = _; rw [List.length_append, hla, hlb]
      rw [e] at hown ⊢
      exact k mm na nc hlm hown hfr
  let acc : Nat → Nat := fun j => if j = 0 then 0 else if j = 1 then la else la + lb
  refine ⟨fun N sa sl sc size xa xl xc n i mm => sa = some ⟨b8, 0, none⟩ ∧ sl = 2 ∧ sc = 2 ∧ xa = some ⟨b8, 0, none⟩ ∧ xl = 2 ∧ n = 2 ∧ mm = m ∧ ∃ j : Nat, i = (j : Int) ∧ j ≤ 2 ∧ N = 2 - j ∧ size = ((acc j : Nat) : Int), 2,
    ⟨rfl, rfl, rfl, rfl, rfl, rfl, rfl, 0, rfl, by omega, rfl, rfl⟩, ?_⟩
  rintro N sa sl sc size xa xl xc n i mm ⟨rfl, rfl, rfl, rfl, rfl, rfl, rfl, j, rfl, hj, rfl, rfl⟩
  unfold slices_Concat_s_int_int.l1B
  refine BrD (fun hlt => ?_) (fun hge => ?_)
  · have hj2 : j < 2 := by omega
    refine ⟨by omega, by omega, ?_⟩
    show LdV mm b8 (0 + (j : Int).toNat * 1) _
    rw [Int.toNat_natCast]
    refine LdV.mk (hcell mm (Le.refl _) j hj2) ?_
    rcases (by omega : j = 0 ∨ j = 1) with rfl | rfl
    · refine UnS.mk ?_
      have e : IntKind.i64.wrap (((acc 0 : Nat) : Int) + ((la : Nat) : Int)) = ((acc 1 : Nat) : Int) := by
        show IntKind.i64.wrap (((0 : Nat) : Int) + ((la : Nat) : Int)) = ((la : Nat) : Int)
        rw [wi (by omega) (by omega)]; omega
      rw [e]
      refine BrDf (by omega) ?_
      refine ⟨1, by omega, rfl, rfl, rfl, rfl, rfl, rfl, rfl, 1, ?_, by omega, rfl, rfl⟩
      decide
    · refine UnS.mk ?_
      have e : IntKind.i64.wrap (((acc 1 : Nat) : Int) + ((lb : Nat) : Int)) = ((acc 2 : Nat) : Int) := by
        show IntKind.i64.wrap (((la : Nat) : Int) + ((lb : Nat) : Int)) = ((la + lb : Nat) : Int)
        rw [wi (by omega) (by omega)]; omega
      rw [e]
      refine BrDf (by omega) ?_
      refine ⟨0, by omega, rfl, rfl, rfl, rfl, rfl, rfl, rfl, 2, ?_, by omega, rfl, rfl⟩
      decide
  · have : j = 2 := by omega
    subst this
    exact k2
theorem also_spec {m : Mem} {a : Option Addr} {la ca : Nat} {b : Option Addr} {lb cb : Nat} {xs ys : List Nat} (h1 : CellsAt m a (ints (ns xs))) (hla : xs.length = la) (h2 : CellsAt m b (ints (ns ys))) (hlb : ys.length = lb) (hs : la + lb ≤ 1000000)
    {R : Ending → Mem → Prop} (k : ∀ m' a' c', Le m m' → CellsAt m' a' (ints (ns (also xs ys))) → Fresh m a' → R (.returned (.slice a' (also xs ys).length c')) m') : HC P place_also.id #[.slice a la ca, .slice b lb cb] m R := by
  refine place_also.ok _ _ _ _ _ _ _ _ ?_
  intro b8 hb8
  refine Concat_spec (set_same _ _ _) (h1.le (Le.set hb8 _)) (by rw [ns_len]; exact hla) (h2.le (Le.set hb8 _)) (by rw [ns_len]; exact hlb) hs ?_
  intro m2 a' c' hle2 ho2 hf2
  have l2 := (Le.set hb8 _).trans hle2
  have f2 := Fresh.le (Le.set hb8 _) hf2
  dsimp only [Cont]
  refine UnS.mk ?_
  rw [← ns_append] at ho2
  refine Sort_spec ho2 (by omega) ?_
  intro m3 hch3 ho3
  dsimp only [Cont]
  refine UnTup.mk (UnNil.mk ?_)
  refine Compact_spec ho3 (by omega) ?_
  intro m4 hch4 ho4
  dsimp only [Cont]
  refine UnS.mk ?_
  have e : Lib.compact (srt (ns (xs ++ ys))) = ns (also xs ys) := compact_sorted (xs ++ ys)
  rw [e, ns_len] at ho4 ⊢
  have l4 := hch4.to_le (hch3.to_le l2 (fun b e => f2 b e)) (fun b e => f2 b e)
  exact k m4 a' c' l4 ho4.cells f2
end Go.E.Pl
set_option linter.unusedVariables false
set_option linter.unusedSimpArgs false
set_option maxRecDepth 20000
namespace Go.E.Pl
open Go.H Go.E Go.E.Rg
section
variable {J : List Nat → List Nat → List Nat}
theorem lk_len : ∀ (last : List Nat) (fol : List (List Nat)) (first : List Nat), (lk J fol last first).length = fol.length := by
  intro last
  induction last with
  | nil => intro fol first; rfl
  | cons i last ih =>
    intro fol first
    show (lk J (fol.set i (J (fol.getD i []) first)) last first).length = _
    rw [ih, List.length_set]
theorem lk_mem (hJ : ∀ a b x, x ∈ J a b ↔ x ∈ a ∨ x ∈ b) : ∀ (last : List Nat) (fol : List (List Nat)) (first : List Nat), (∀ i ∈ last, i < fol.length) → ∀ i j, j ∈ (lk J fol last first).getD i [] ↔ j ∈ fol.getD i [] ∨ (i ∈ last ∧ j ∈ first) := by
  intro last
  induction last with
  | nil => intro fol first _ i j; simp [lk]
  | cons a last ih =>
    intro fol first hl i j
    show j ∈ (lk J (fol.set a (J (fol.getD a []) first)) last first).getD i [] ↔ _
    rw [ih _ _ (fun i hi => by rw [List.length_set]; exact hl i (by simp [hi]))]
    have ha := hl a (by simp)
    by_cases e : i = a
    · subst e
      have : (fol.set i (J (fol.getD i []) first)).getD i [] = J (fol.getD i []) first := by
        rw [List.getD_eq_getElem?_getD, List.getElem?_set_self ha]; rfl
      rw [this, hJ, List.mem_cons]
      constructor
      · rintro ((h | h) | ⟨h, h'⟩)
        · exact .inl h
        · exact .inr ⟨.inl rfl, h⟩
        · exact .inr ⟨.inl rfl, h'⟩
      · rintro (h | ⟨_, h⟩)
        · exact .inl (.inl h)
        · exact .inl (.inr h)
    · have : (fol.set a (J (fol.getD a []) first)).getD i [] = fol.getD i [] := by
        rw [List.getD_eq_getElem?_getD, List.getElem?_set_ne (Ne.symm e), ← List.getD_eq_getElem?_getD]
      rw [this, List.mem_cons]
      simp [e]
/-- What a walk is, behind a state. -/
structure WOK (r : Rx) (st : Sta) (q : Part) (st' : Sta) : Prop where
  sets : st'.sets = st.sets ++ setsOf r
  len : st'.fol.length = st'.sets.length
  nu : q.nu = null r
  fi : ∀ x, x ∈ q.fi ↔ Fi st.sets.length r x
  la : ∀ x, x ∈ q.la ↔ La st.sets.length r x
  fo : ∀ i j, j ∈ st'.fol.getD i [] ↔ j ∈ st.fol.getD i [] ∨ Fo st.sets.length r i j
def WK (J : List Nat → List Nat → List Nat) (r : Rx) : Prop := ∀ st : Sta, st.fol.length = st.sets.length → WOK r st (wk J r st).1 (wk J r st).2
theorem WOK.fol_lt {r : Rx} {st st' : Sta} {q : Part} (h : WOK r st q st') : st'.fol.length = st.sets.length + cnt r := by
  rw [h.len, h.sets, List.length_append]; rfl
theorem walkC (hJ : ∀ a b x, x ∈ J a b ↔ x ∈ a ∨ x ∈ b) : ∀ (ps : List Rx), (∀ a ∈ ps, WK J a) → ∀ (out : Part) (st : Sta), st.fol.length = st.sets.length → (∀ x ∈ out.la, x < st.sets.length) →
    (wkC J ps out st).2.sets = st.sets ++ setsL ps ∧ (wkC J ps out st).2.fol.length = (wkC J ps out st).2.sets.length ∧ (wkC J ps out st).1.nu = (out.nu && nullA ps) ∧
    (∀ x, x ∈ (wkC J ps out st).1.fi ↔ x ∈ out.fi ∨ (out.nu = true ∧ FiC st.sets.length ps x)) ∧
    (∀ x, x ∈ (wkC J ps out st).1.la ↔ (nullA ps = true ∧ x ∈ out.la) ∨ LaC st.sets.length ps x) ∧
    (∀ i j, j ∈ (wkC J ps out st).2.fol.getD i [] ↔ j ∈ st.fol.getD i [] ∨ (i ∈ out.la ∧ FiC st.sets.length ps j) ∨ FoC st.sets.length ps i j) := by
  intro ps
  induction ps with
  | nil =>
    intro _ out st hl hb
    simp [wkC, setsL, nullA, FiC, LaC, FoC, hl]
  | cons r rs ih =>
    intro hw out st hl hb
    have h := hw r (by simp) st hl
    have hn := h.fol_lt
    have hs : (wk J r st).2.sets.length = st.sets.length + cnt r := by rw [← h.len, hn]
    obtain ⟨B1, B2, B3⟩ := bounds r st.sets.length
    have hb1 : ∀ i ∈ out.la, i < (wk J r st).2.fol.length := fun i hi => by rw [hn]; have := hb i hi; omega
    have key := ih (fun a ha => hw a (by simp [ha])) (stepC J out (wk J r st).1) ⟨(wk J r st).2.sets, lk J (wk J r st).2.fol out.la (wk J r st).1.fi⟩ (by show (lk J _ _ _).length = _; rw [lk_len, h.len]) (by
      intro x hx
      show x < (wk J r st).2.sets.length
      rw [hs]
      have hx : x ∈ (if (wk J r st).1.nu = true then J out.la (wk J r st).1.la else (wk J r st).1.la) := hx
      split at hx
      · rcases (hJ _ _ _).mp hx with h1 | h1
        · have := hb x h1; omega
        · exact (B2 x ((h.la x).mp h1)).2
      · exact (B2 x ((h.la x).mp hx)).2)
    obtain ⟨g1, g2, g3, g4, g5, g6⟩ := key
    show (wkC J rs _ _).2.sets = _ ∧ (wkC J rs _ _).2.fol.length = (wkC J rs _ _).2.sets.length ∧ (wkC J rs _ _).1.nu = _ ∧ (∀ x, x ∈ (wkC J rs _ _).1.fi ↔ _) ∧ (∀ x, x ∈ (wkC J rs _ _).1.la ↔ _) ∧ (∀ i j, j ∈ (wkC J rs _ _).2.fol.getD i [] ↔ _)
    refine ⟨?_, g2, ?_, fun x => ?_, fun x => ?_, fun i j => ?_⟩
    · rw [g1, h.sets, setsL, List.append_assoc]
    · rw [g3]
      show ((out.nu && (wk J r st).1.nu) && nullA rs) = (out.nu && nullA (r :: rs))
      rw [h.nu, nullA, Bool.and_assoc]
    · rw [g4, FiC]
      show (x ∈ (if out.nu = true then J out.fi (wk J r st).1.fi else out.fi) ∨ ((out.nu && (wk J r st).1.nu) = true ∧ FiC (wk J r st).2.sets.length rs x)) ↔ _
      rw [hs, h.nu, ← h.fi x]
      cases hnu : out.nu
      · simp
      · rw [if_pos rfl, hJ, Bool.true_and]
        constructor
        · rintro ((a | a) | a)
          · exact .inl a
          · exact .inr ⟨rfl, .inl a⟩
          · exact .inr ⟨rfl, .inr a⟩
        · rintro (a | ⟨_, a | a⟩)
          · exact .inl (.inl a)
          · exact .inl (.inr a)
          · exact .inr a
    · rw [g5, LaC, nullA]
      show ((nullA rs = true ∧ x ∈ (if (wk J r st).1.nu = true then J out.la (wk J r st).1.la else (wk J r st).1.la)) ∨ LaC (wk J r st).2.sets.length rs x) ↔ _
      rw [hs, h.nu, ← h.la x]
      cases hnu : null r
      · simp
      · rw [if_pos rfl, hJ, Bool.true_and]
        constructor
        · rintro (⟨a, b | b⟩ | a)
          · exact .inl ⟨a, b⟩
          · exact .inr (.inl ⟨a, b⟩)
          · exact .inr (.inr a)
        · rintro (⟨a, b⟩ | ⟨a, b⟩ | a)
          · exact .inl ⟨a, .inl b⟩
          · exact .inl ⟨a, .inr b⟩
          · exact .inr a
    · rw [g6, FoC, FiC]
      show (j ∈ (lk J (wk J r st).2.fol out.la (wk J r st).1.fi).getD i [] ∨ (i ∈ (if (wk J r st).1.nu = true then J out.la (wk J r st).1.la else (wk J r st).1.la) ∧ FiC (wk J r st).2.sets.length rs j) ∨ FoC (wk J r st).2.sets.length rs i j) ↔ _
      rw [hs, lk_mem hJ _ _ _ hb1, h.fo, h.fi, ← h.la, h.nu]
      have e : (i ∈ (if null r = true then J out.la (wk J r st).1.la else (wk J r st).1.la)) ↔ (null r = true ∧ i ∈ out.la) ∨ i ∈ (wk J r st).1.la := by
        split
        · rename_i hh; rw [hJ]; simp [hh]
        · rename_i hh; simp [hh]
      rw [e]
      constructor
      · rintro (((a | a) | ⟨a, b⟩) | ⟨⟨a, b⟩ | a, c⟩ | a)
        · exact .inl a
        · exact .inr (.inr (.inl a))
        · exact .inr (.inl ⟨a, .inl b⟩)
        · exact .inr (.inl ⟨b, .inr ⟨a, c⟩⟩)
        · exact .inr (.inr (.inr (.inr ⟨a, c⟩)))
        · exact .inr (.inr (.inr (.inl a)))
      · rintro (a | ⟨a, b | ⟨b, c⟩⟩ | a | a | ⟨a, b⟩)
        · exact .inl (.inl (.inl a))
        · exact .inl (.inr ⟨a, b⟩)
        · exact .inr (.inl ⟨.inl ⟨b, a⟩, c⟩)
        · exact .inl (.inl (.inr a))
        · exact .inr (.inr a)
        · exact .inr (.inl ⟨.inr a, b⟩)
theorem walkA (hJ : ∀ a b x, x ∈ J a b ↔ x ∈ a ∨ x ∈ b) : ∀ (ps : List Rx), (∀ a ∈ ps, WK J a) → ∀ (out : Part) (st : Sta), st.fol.length = st.sets.length →
    (wkA J ps out st).2.sets = st.sets ++ setsL ps ∧ (wkA J ps out st).2.fol.length = (wkA J ps out st).2.sets.length ∧ (wkA J ps out st).1.nu = (out.nu || nullE ps) ∧
    (∀ x, x ∈ (wkA J ps out st).1.fi ↔ x ∈ out.fi ∨ FiA st.sets.length ps x) ∧
    (∀ x, x ∈ (wkA J ps out st).1.la ↔ x ∈ out.la ∨ LaA st.sets.length ps x) ∧
    (∀ i j, j ∈ (wkA J ps out st).2.fol.getD i [] ↔ j ∈ st.fol.getD i [] ∨ FoA st.sets.length ps i j) := by
  intro ps
  induction ps with
  | nil =>
    intro _ out st hl
    simp [wkA, setsL, nullE, FiA, LaA, FoA, hl]
  | cons r rs ih =>
    intro hw out st hl
    have h := hw r (by simp) st hl
    have hs : (wk J r st).2.sets.length = st.sets.length + cnt r := by rw [← h.len, h.fol_lt]
    obtain ⟨g1, g2, g3, g4, g5, g6⟩ := ih (fun a ha => hw a (by simp [ha])) ⟨J out.fi (wk J r st).1.fi, J out.la (wk J r st).1.la, out.nu || (wk J r st).1.nu⟩ (wk J r st).2 h.len
    show (wkA J rs _ _).2.sets = _ ∧ (wkA J rs _ _).2.fol.length = (wkA J rs _ _).2.sets.length ∧ (wkA J rs _ _).1.nu = _ ∧ (∀ x, x ∈ (wkA J rs _ _).1.fi ↔ _) ∧ (∀ x, x ∈ (wkA J rs _ _).1.la ↔ _) ∧ (∀ i j, j ∈ (wkA J rs _ _).2.fol.getD i [] ↔ _)
    refine ⟨?_, g2, ?_, fun x => ?_, fun x => ?_, fun i j => ?_⟩
    · rw [g1, h.sets, setsL, List.append_assoc]
    · rw [g3]
      show ((out.nu || (wk J r st).1.nu) || nullE rs) = (out.nu || nullE (r :: rs))
      rw [h.nu, nullE, Bool.or_assoc]
    · rw [g4, FiA, hs, ← h.fi x]
      show x ∈ J out.fi (wk J r st).1.fi ∨ _ ↔ _
      rw [hJ, or_assoc]
    · rw [g5, LaA, hs, ← h.la x]
      show x ∈ J out.la (wk J r st).1.la ∨ _ ↔ _
      rw [hJ, or_assoc]
    · rw [g6, FoA, hs, h.fo, or_assoc]
/-- The walk comes to the relations. -/
theorem walk_ok (hJ : ∀ a b x, x ∈ J a b ↔ x ∈ a ∨ x ∈ b) (r : Rx) : form r = true → WK J r := by
  refine Rx.ind (C := fun r => form r = true → WK J r) ?_ r
  intro k S ps ih hf st hl
  rcases form_cases hf with ⟨rfl, rfl, hS⟩ | ⟨_, hall, ⟨hk | hk, hlen⟩ | ⟨h4, h6, x, rfl, hx⟩⟩
  · refine ⟨?_, ?_, ?_, fun x => ?_, fun x => ?_, fun i j => ?_⟩
    · unfold wk setsOf; rw [if_pos rfl, if_pos rfl]
    · unfold wk; rw [if_pos rfl]; simp [hl]
    · unfold wk null; rw [if_pos rfl]; simp
    · unfold wk Fi; rw [if_pos rfl, if_pos rfl]; simp
    · unfold wk La; rw [if_pos rfl, if_pos rfl]; simp
    · unfold wk Fo
      rw [if_pos rfl, if_pos rfl, or_false]
      show j ∈ (st.fol ++ [[]]).getD i [] ↔ _
      rw [List.getD_eq_getElem?_getD, List.getD_eq_getElem?_getD, List.getElem?_append]
      split
      · rfl
      · rename_i hi
        rw [List.getElem?_eq_none (l := st.fol) (by omega)]
        cases hd : i - st.fol.length with
        | zero => simp
        | succ m => simp
  · subst hk
    obtain ⟨g1, g2, g3, g4, g5, g6⟩ := walkC hJ ps (fun a ha => ih a ha (hall a ha).2) ⟨[], [], true⟩ st hl (fun x hx => by cases hx)
    have e : wk J (.mk 2 S ps) st = wkC J ps ⟨[], [], true⟩ st := by unfold wk; rw [if_neg (by decide), if_pos rfl]
    rw [e]
    refine ⟨?_, g2, ?_, fun x => ?_, fun x => ?_, fun i j => ?_⟩
    · rw [g1, setsOf, if_neg (by decide), if_pos (.inl rfl)]
    · rw [g3, null, if_neg (by decide), if_pos (.inl rfl)]; simp
    · rw [g4, Fi, if_neg (by decide), if_pos rfl]; simp
    · rw [g5, La, if_neg (by decide), if_pos rfl]; simp
    · rw [g6, Fo, if_neg (by decide), if_pos rfl]; simp
  · subst hk
    obtain ⟨g1, g2, g3, g4, g5, g6⟩ := walkA hJ ps (fun a ha => ih a ha (hall a ha).2) ⟨[], [], false⟩ st hl
    have e : wk J (.mk 3 S ps) st = wkA J ps ⟨[], [], false⟩ st := by unfold wk; rw [if_neg (by decide), if_neg (by decide), if_pos rfl]
    rw [e]
    refine ⟨?_, g2, ?_, fun x => ?_, fun x => ?_, fun i j => ?_⟩
    · rw [g1, setsOf, if_neg (by decide), if_pos (.inr rfl)]
    · rw [g3, null, if_neg (by decide), if_neg (by decide), if_pos rfl]; simp
    · rw [g4, Fi, if_neg (by decide), if_neg (by decide), if_pos rfl]; simp
    · rw [g5, La, if_neg (by decide), if_neg (by decide), if_pos rfl]; simp
    · rw [g6, Fo, if_neg (by decide), if_neg (by decide), if_pos rfl]
  · have h := ih x (by simp) (hall x (by simp)).2 st hl
    have k1 : k ≠ 1 := by omega
    have k2 : k ≠ 2 := by omega
    have k3 : k ≠ 3 := by omega
    have e : wk J (.mk k S [x]) st = wk1 J k [x] st := by unfold wk; rw [if_neg k1, if_neg k2, if_neg k3]
    rw [e]
    have hs : (wk J x st).2.sets.length = st.sets.length + cnt x := by rw [← h.len, h.fol_lt]
    obtain ⟨B1, B2, B3⟩ := bounds x st.sets.length
    have hlt : ∀ i ∈ (wk J x st).1.la, i < (wk J x st).2.fol.length := fun i hi => by rw [h.fol_lt]; exact (B2 i ((h.la i).mp hi)).2
    refine ⟨?_, ?_, ?_, fun y => ?_, fun y => ?_, fun i j => ?_⟩
    · show (wk J x st).2.sets = _
      rw [h.sets, setsOf, if_neg k1, if_neg (by omega), sets1]
    · show (if k ≠ 6 then lk J (wk J x st).2.fol (wk J x st).1.la (wk J x st).1.fi else (wk J x st).2.fol).length = (wk J x st).2.sets.length
      split
      · rw [lk_len, h.len]
      · exact h.len
    · show ((wk J x st).1.nu || decide (k ≠ 5)) = _
      rw [h.nu, null]
      by_cases h5 : k = 5
      · subst h5
        rw [if_neg (by decide), if_pos (.inr rfl), nullA, nullA]; simp
      · rw [if_pos (by omega)]; simp [h5]
    · show y ∈ (wk J x st).1.fi ↔ _
      rw [h.fi, Fi, if_neg k1, if_neg k2, if_neg k3, Fi1]
    · show y ∈ (wk J x st).1.la ↔ _
      rw [h.la, La, if_neg k1, if_neg k2, if_neg k3, La1]
    · show j ∈ (if k ≠ 6 then lk J (wk J x st).2.fol (wk J x st).1.la (wk J x st).1.fi else (wk J x st).2.fol).getD i [] ↔ _
      rw [Fo, if_neg k1, if_neg k2, if_neg k3, Fo1]
      split
      · rename_i hk6
        rw [lk_mem hJ _ _ _ hlt, h.fo, h.la, h.fi, or_assoc]
        simp [hk6]
      · rename_i hk6
        rw [h.fo]
        simp [hk6]
end
theorem rz_one (n : Nat) : Rz [n] := List.pairwise_singleton _ _
theorem rz_nil : Rz [] := List.Pairwise.nil
def RzP (q : Part) : Prop := Rz q.fi ∧ Rz q.la
def RzS (fol : List (List Nat)) : Prop := ∀ l ∈ fol, Rz l
theorem lk_rz : ∀ (last : List Nat) (fol : List (List Nat)) (first : List Nat), RzS fol → RzS (lk also fol last first) := by
  intro last
  induction last with
  | nil => intro fol first h; exact h
  | cons i last ih =>
    intro fol first h
    show RzS (lk also (fol.set i (also (fol.getD i []) first)) last first)
    refine ih _ _ (fun l hl => ?_)
    rcases List.mem_or_eq_of_mem_set hl with hl | rfl
    · exact h l hl
    · exact also_rz _ _
theorem walk_rz (r : Rx) : ∀ st : Sta, RzS st.fol → RzP (wk also r st).1 ∧ RzS (wk also r st).2.fol := by
  refine Rx.ind (C := fun r => ∀ st : Sta, RzS st.fol → RzP (wk also r st).1 ∧ RzS (wk also r st).2.fol) ?_ r
  intro k S ps ih st hs
  unfold wk
  split
  · refine ⟨⟨rz_one _, rz_one _⟩, fun l hl => ?_⟩
    rcases List.mem_append.mp hl with hl | hl
    · exact hs l hl
    · rw [List.mem_singleton] at hl; subst hl; exact rz_nil
  split
  · have : ∀ (ps : List Rx), (∀ a ∈ ps, ∀ st : Sta, RzS st.fol → RzP (wk also a st).1 ∧ RzS (wk also a st).2.fol) → ∀ (out : Part) (st : Sta), RzP out → RzS st.fol → RzP (wkC also ps out st).1 ∧ RzS (wkC also ps out st).2.fol := by
      intro ps
      induction ps with
      | nil => intro _ out st h1 h2; exact ⟨h1, h2⟩
      | cons r rs ihl =>
        intro hw out st h1 h2
        obtain ⟨g1, g2⟩ := hw r (by simp) st h2
        show RzP (wkC also rs _ _).1 ∧ RzS (wkC also rs _ _).2.fol
        refine ihl (fun a ha => hw a (by simp [ha])) _ _ ⟨?_, ?_⟩ (lk_rz _ _ _ g2)
        · show Rz (if out.nu = true then _ else _)
          split
          · exact also_rz _ _
          · exact h1.1
        · show Rz (if _ = true then _ else _)
          split
          · exact also_rz _ _
          · exact g1.2
    exact this ps ih _ st ⟨rz_nil, rz_nil⟩ hs
  split
  · have : ∀ (ps : List Rx), (∀ a ∈ ps, ∀ st : Sta, RzS st.fol → RzP (wk also a st).1 ∧ RzS (wk also a st).2.fol) → ∀ (out : Part) (st : Sta), RzP out → RzS st.fol → RzP (wkA also ps out st).1 ∧ RzS (wkA also ps out st).2.fol := by
      intro ps
      induction ps with
      | nil => intro _ out st h1 h2; exact ⟨h1, h2⟩
      | cons r rs ihl =>
        intro hw out st h1 h2
        obtain ⟨g1, g2⟩ := hw r (by simp) st h2
        show RzP (wkA also rs _ _).1 ∧ RzS (wkA also rs _ _).2.fol
        exact ihl (fun a ha => hw a (by simp [ha])) _ _ ⟨also_rz _ _, also_rz _ _⟩ g2
    exact this ps ih _ st ⟨rz_nil, rz_nil⟩ hs
  · cases ps with
    | nil => exact ⟨⟨rz_nil, rz_nil⟩, hs⟩
    | cons x xs =>
      obtain ⟨g1, g2⟩ := ih x (by simp) st hs
      refine ⟨g1, ?_⟩
      show RzS (if k ≠ 6 then _ else _)
      split
      · exact lk_rz _ _ _ g2
      · exact g2
/-- The places of an expression. -/
structure Plc where
  sets : List (Nat → Bool)
  fi : List Nat
  la : List Nat
  fol : List (List Nat)
  nu : Bool
def plc (r : Rx) : Plc := ⟨(wk also r ⟨[], []⟩).2.sets, (wk also r ⟨[], []⟩).1.fi, (wk also r ⟨[], []⟩).1.la, (wk also r ⟨[], []⟩).2.fol, (wk also r ⟨[], []⟩).1.nu⟩
/-- The reference's walk, told rising, is the program's. -/
theorem ref_plc {r : Rx} (hf : form r = true) : (⟨(wk (· ++ ·) r ⟨[], []⟩).2.sets, rise (wk (· ++ ·) r ⟨[], []⟩).1.fi, rise (wk (· ++ ·) r ⟨[], []⟩).1.la, (wk (· ++ ·) r ⟨[], []⟩).2.fol.map rise, (wk (· ++ ·) r ⟨[], []⟩).1.nu⟩ : Plc) = plc r := by
  have h1 := walk_ok (J := also) (fun a b x => also_mem) r hf ⟨[], []⟩ rfl
  have h2 := walk_ok (J := (· ++ ·)) (fun a b x => List.mem_append) r hf ⟨[], []⟩ rfl
  obtain ⟨g1, g2⟩ := walk_rz r ⟨[], []⟩ (fun l hl => by cases hl)
  unfold plc
  have e1 : (wk (· ++ ·) r ⟨[], []⟩).2.sets = (wk also r ⟨[], []⟩).2.sets := by rw [h1.sets, h2.sets]
  have e2 : rise (wk (· ++ ·) r ⟨[], []⟩).1.fi = (wk also r ⟨[], []⟩).1.fi := rz_eq (rise_rz _) g1.1 (fun x => by rw [rise_mem, h1.fi, h2.fi])
  have e3 : rise (wk (· ++ ·) r ⟨[], []⟩).1.la = (wk also r ⟨[], []⟩).1.la := rz_eq (rise_rz _) g1.2 (fun x => by rw [rise_mem, h1.la, h2.la])
  have e4 : (wk (· ++ ·) r ⟨[], []⟩).2.fol.map rise = (wk also r ⟨[], []⟩).2.fol := by
    have hl : (wk (· ++ ·) r ⟨[], []⟩).2.fol.length = (wk also r ⟨[], []⟩).2.fol.length := by rw [h1.len, h2.len, h1.sets, h2.sets]
    refine List.ext_getElem (by rw [List.length_map, hl]) (fun i hi hi' => ?_)
    rw [List.getElem_map]
    refine rz_eq (rise_rz _) (g2 _ (List.getElem_mem _)) (fun x => ?_)
    rw [rise_mem]
    have a := h1.fo i x
    have b := h2.fo i x
    rw [List.getD_eq_getElem?_getD, List.getElem?_eq_getElem hi'] at a
    rw [List.getD_eq_getElem?_getD, List.getElem?_eq_getElem (by rw [hl]; exact hi')] at b
    exact b.trans a.symm
  have e5 : (wk (· ++ ·) r ⟨[], []⟩).1.nu = (wk also r ⟨[], []⟩).1.nu := by rw [h1.nu, h2.nu]
  rw [e1, e2, e3, e4, e5]
end Go.E.Pl
set_option linter.unusedVariables false
set_option linter.unusedSimpArgs false
set_option maxRecDepth 20000
namespace Go.E.Rg
open Go.H Go.E
def num (l : List UInt8) (m : Nat) : Nat := match l with | [] => 0 | c :: _ => c.toNat % m
def few : List UInt8 := [97, 98, 49, 10, 32, 45]
def psS (l : List UInt8) : Nat → Bool :=
  if num l 7 = 0 then inB [97, 98] else if num l 7 = 1 then inB [98, 99, 100] else if num l 7 = 2 then (fun b => !inB [97, 10] b)
  else if num l 7 = 3 then inB [48, 49, 50] else inB [few.getD (num l.tail 6) 0]
def psR (l : List UInt8) : List UInt8 := if num l 7 ≤ 3 then l.tail else l.tail.tail
def kidF (f : List UInt8 → Rx × List UInt8) (kind : Int) (l : List UInt8) : Rx × List UInt8 :=
  if (f l).1.k = kind ∨ (4 ≤ kind ∧ 4 ≤ (f l).1.k) then (st (psS (f l).2), psR (f l).2) else f l
def kidsF (f : List UInt8 → Rx × List UInt8) (kind : Int) : Nat → List UInt8 → List Rx × List UInt8
  | 0, l => ([], l)
  | n + 1, l => ((kidF f kind l).1 :: (kidsF f kind n (kidF f kind l).2).1, (kidsF f kind n (kidF f kind l).2).2)
def kindOf (k : Nat) : Int := 2 + (((k + 1) % 5 : Nat) : Int)
def prx : Nat → List UInt8 → Rx × List UInt8
  | 0, l => (st (psS l.tail), psR l.tail)
  | d + 1, l =>
    if num l 9 < 4 then (st (psS l.tail), psR l.tail)
    else if kindOf (num l 9) ≤ 3 then (.mk (kindOf (num l 9)) noS (kidsF (prx d) (kindOf (num l 9)) (2 + num l.tail 2) l.tail.tail).1, (kidsF (prx d) (kindOf (num l 9)) (2 + num l.tail 2) l.tail.tail).2)
    else (.mk (kindOf (num l 9)) noS (kidsF (prx d) (kindOf (num l 9)) 1 l.tail).1, (kidsF (prx d) (kindOf (num l 9)) 1 l.tail).2)
theorem num_lt (l : List UInt8) {m : Nat} (h : 0 < m) : num l m < m := by
  unfold num
  split
  · exact h
  · exact Nat.mod_lt _ h
theorem empty_at {S : Nat → Bool} (b : Nat) (hb : b < 256) (h : S b = true) : emptyS S = false := by
  cases he : emptyS S with
  | false => rfl
  | true => rw [empty_all he b hb] at h; cases h
theorem psS_some (l : List UInt8) : emptyS (psS l) = false := by
  unfold psS
  split
  · exact empty_at 97 (by decide) (by decide)
  · split
    · exact empty_at 98 (by decide) (by decide)
    · split
      · exact empty_at 98 (by decide) (by decide)
      · split
        · exact empty_at 48 (by decide) (by decide)
        · refine empty_at (few.getD (num l.tail 6) 0).toNat (UInt8.toNat_lt _) ?_
          unfold inB; simp
theorem kindOf_in (k : Nat) : 2 ≤ kindOf k ∧ kindOf k ≤ 6 := by unfold kindOf; omega
end Go.E.Rg
set_option linter.unusedVariables false
set_option linter.unusedSimpArgs false
set_option maxRecDepth 20000
namespace Go.E
open Go.H
attribute [local irreducible] BiN MkS ConvN LookN MapUpN CallV HC limb dbTab
/-- The bytes of runs. -/
def cat (rs : List (Nat × Nat)) : List Nat := rs.flatMap fun p => List.range' p.1 (p.2 + 1 - p.1)
end Go.E
set_option linter.unusedVariables false
set_option linter.unusedSimpArgs false
set_option maxRecDepth 20000
namespace Go.E
open Go.H
attribute [local irreducible] BiN MkS ConvN LookN MapUpN CallV HC limb dbTab
abbrev catB (rs : List (Nat × Nat)) : List UInt8 := (cat rs).map UInt8.ofNat
theorem el {m : Mem} {a : Option Addr} {l : Nat} {rs : List (Nat × Nat)} (hc : CellsAt m a (u8s (catB rs))) (hl : (cat rs).length = l) {i : Int} {n v : Nat} (hi : i = (n : Int)) (hn : (cat rs)[n]? = some v) (hv : v < 256) {K : Value → Prop}
    (k : K (.int .u8 (v : Int))) : IxS a l i 1 (fun b o => LdV m b o K) := by
  subst hi
  have hlt : n < (cat rs).length := by
    apply Decidable.byContradiction
    intro h
    rw [List.getElem?_eq_none (by omega)] at hn; cases hn
  refine IxS.u8s hc (by rw [List.length_map]; exact hl) (by omega) (by omega) ?_
  intro x hx
  rw [Int.toNat_natCast, List.getElem?_map, hn] at hx
  cases hx
  rw [toNat_of hv]; exact k
end Go.E
set_option linter.unusedVariables false
set_option linter.unusedSimpArgs false
set_option maxRecDepth 20000
namespace Go.E.Rg
open Go.H Go.E
/-- A memory's blocks of a kind alone. -/
noncomputable def on (m : Mem) (G : Nat → Prop) : Mem := fun b => open Classical in if G b then m b else none
theorem on_in {m : Mem} {G : Nat → Prop} {b : Nat} (h : G b) : on m G b = m b := by unfold on; rw [if_pos h]
theorem on_le (m : Mem) (G : Nat → Prop) : Le (on m G) m := fun b o h => by
  unfold on at h
  split at h
  · exact h
  · cases h
theorem on_live {m : Mem} {G : Nat → Prop} {b : Nat} {o : Obj} (h : on m G b = some o) : G b ∧ m b = some o := by
  unfold on at h
  split at h
  · exact ⟨‹_›, h⟩
  · cases h
theorem on_mono {S G G' : Nat → Prop} {m m' : Mem} (hch : Chg S m m') (hs : ∀ b, G b → m b ≠ none → ¬ S b) (hg : ∀ b, G b → m b ≠ none → G' b) : Le (on m G) (on m' G') := fun b o h => by
  obtain ⟨h1, h2⟩ := on_live h
  have hne : m b ≠ none := by rw [h2]; simp
  rw [on_in (hg b h1 hne)]
  exact hch.eq b o h2 (hs b h1 hne)
def four (S : Nat → Bool) : List Value := [.int .u64 (L S 0), .int .u64 (L S 1), .int .u64 (L S 2), .int .u64 (L S 3)]
/-- The cells of an expression whose parts are this slice. -/
def rxRow (p : Rx × Value) : List Value := [.int .i64 p.1.k, .int .u64 (L p.1.S 0), .int .u64 (L p.1.S 1), .int .u64 (L p.1.S 2), .int .u64 (L p.1.S 3), p.2]
theorem rxRow_len (p : Rx × Value) : (rxRow p).length = 6 := rfl
/-- This slice has an expression's parts. -/
inductive ArgC (m : Mem) : Rx → Value → Prop where
  | mk {k : Int} {S : Nat → Bool} {prs : List (Rx × Value)} {a : Option Addr} {c : Nat} : prs.length ≤ c → prs.length ≤ 9223372036854775807 → CellsAt m a (prs.flatMap rxRow) → (∀ p ∈ prs, ArgC m p.1 p.2) → ArgC m (.mk k S (prs.map (·.1))) (.slice a prs.length c)
theorem ArgC.inv {m : Mem} {k : Int} {S : Nat → Bool} {ps : List Rx} {v : Value} (h : ArgC m (.mk k S ps) v) : ∃ (prs : List (Rx × Value)) (a : Option Addr) (c : Nat), ps = prs.map (·.1) ∧ v = .slice a prs.length c ∧ prs.length ≤ c ∧ prs.length ≤ 9223372036854775807 ∧ CellsAt m a (prs.flatMap rxRow) ∧ ∀ p ∈ prs, ArgC m p.1 p.2 := by
  cases h with
  | mk hl hb hc hp => exact ⟨_, _, _, rfl, rfl, hl, hb, hc, hp⟩
theorem ArgC.le {m m' : Mem} {r : Rx} {v : Value} (h : ArgC m r v) (k : Le m m') : ArgC m' r v := by
  induction h with
  | mk hl hb hc hp ih => exact .mk hl hb (hc.le k) ih
theorem ArgC.none {m : Mem} {k : Int} {S : Nat → Bool} : ArgC m (.mk k S []) (.slice none 0 0) := by
  have := ArgC.mk (m := m) (k := k) (S := S) (prs := []) (a := Option.none) (c := 0) (by simp) (by simp) (CellsAt.empty _ _) (fun p hp => by cases hp)
  exact this
/-- An expression as a value. -/
abbrev rxA (k : Int) (S : Nat → Bool) (v : Value) : Value := .agg #[.int .i64 k, .int .u64 (L S 0), .int .u64 (L S 1), .int .u64 (L S 2), .int .u64 (L S 3), v]
/-- One of the parts is read. -/
theorem IxS.rx {m : Mem} {a : Option Addr} {prs : List (Rx × Value)} (hc : CellsAt m a (prs.flatMap rxRow)) {j : Nat} (hj : j < prs.length) {K : Nat → Nat → Prop}
    (k : ∀ b o, m.cell b o = some (.int .i64 prs[j].1.k) → m.cell b (o + 1) = some (.int .u64 (L prs[j].1.S 0)) → m.cell b (o + 2) = some (.int .u64 (L prs[j].1.S 1)) → m.cell b (o + 3) = some (.int .u64 (L prs[j].1.S 2)) → m.cell b (o + 4) = some (.int .u64 (L prs[j].1.S 3)) → m.cell b (o + 5) = some prs[j].2 → K b o) :
    IxS a prs.length (j : Int) 6 K := by
  have hg := List.getElem?_eq_getElem hj
  refine IxS.rows rxRow_len (by decide) hc rfl (by omega) (by omega) ?_
  intro b o x hx hcell
  rw [Int.toNat_natCast, hg] at hx
  cases hx
  exact k b o (hcell 0 _ rfl) (hcell 1 _ rfl) (hcell 2 _ rfl) (hcell 3 _ rfl) (hcell 4 _ rfl) (hcell 5 _ rfl)
/-- The parts' slice is a slice. -/
theorem ArgC.sl {m : Mem} {r : Rx} {v : Value} (h : ArgC m r v) : ∃ a l c, v = .slice a l c := by
  cases h with
  | mk hl hb hc hp => exact ⟨_, _, _, rfl⟩
theorem St1.six {m : Mem} {b : Nat} {x0 x1 x2 x3 x4 x5 u0 u1 u2 u3 u4 u5 : Value} {e : TypeId} {K : Mem → Prop} (h : m b = some (.cells #[x0, x1, x2, x3, x4, x5] e (0, 0))) (h0 : notOne u0 = false) (h1 : notOne u1 = false) (h2 : notOne u2 = false) (h3 : notOne u3 = false) (h4 : notOne u4 = false) (h5 : notOne u5 = false)
    (k : K (m.set b (.cells #[u0, u1, u2, u3, u4, u5] e (0, 0)))) : St1 m b 0 u0 fun m1 => St1 m1 b 1 u1 fun m2 => St1 m2 b 2 u2 fun m3 => St1 m3 b 3 u3 fun m4 => St1 m4 b 4 u4 fun m5 => St1 m5 b 5 u5 K := by
  refine St1.to #[u0, x1, x2, x3, x4, x5] h (by simp) h0 rfl ?_
  refine St1.to #[u0, u1, x2, x3, x4, x5] (set_same _ _ _) (by simp) h1 rfl ?_
  rw [set_set]
  refine St1.to #[u0, u1, u2, x3, x4, x5] (set_same _ _ _) (by simp) h2 rfl ?_
  rw [set_set]
  refine St1.to #[u0, u1, u2, u3, x4, x5] (set_same _ _ _) (by simp) h3 rfl ?_
  rw [set_set]
  refine St1.to #[u0, u1, u2, u3, u4, x5] (set_same _ _ _) (by simp) h4 rfl ?_
  rw [set_set]
  refine St1.to #[u0, u1, u2, u3, u4, u5] (set_same _ _ _) (by simp) h5 rfl ?_
  rw [set_set]
  exact k
/-- The cells of an expression's own block. -/
def rxO (k : Int) (S : Nat → Bool) (v : Value) : Array Value := #[.int .i64 k, .int .u64 (L S 0), .int .u64 (L S 1), .int .u64 (L S 2), .int .u64 (L S 3), v]
/-- All six are read. -/
theorem get6 {m : Mem} {b : Nat} {k : Int} {S : Nat → Bool} {a : Option Addr} {l c : Nat} {e : TypeId} {fr : Nat × Nat} {K : Int → Int → Int → Int → Int → Option Addr → Nat → Nat → Prop} (h : m b = some (.cells (rxO k S (.slice a l c)) e fr))
    (q : K k (L S 0) (L S 1) (L S 2) (L S 3) a l c) :
    LdV m b 0 fun v => UnI v .i64 fun x0 => LdV m b 1 fun v => UnI v .u64 fun x1 => LdV m b 2 fun v => UnI v .u64 fun x2 => LdV m b 3 fun v => UnI v .u64 fun x3 => LdV m b 4 fun v => UnI v .u64 fun x4 => LdV m b 5 fun v => UnS v fun xa xl xc => K x0 x1 x2 x3 x4 xa xl xc :=
  LdV.s0 h (LdV.s1 h (LdV.s2 h (LdV.s3 h (LdV.s4 h (LdV.s5 h q)))))
/-- A part is read from its row. -/
theorem IxS.rx6 {m : Mem} {a : Option Addr} {prs : List (Rx × Value)} (hc : CellsAt m a (prs.flatMap rxRow)) {j : Nat} (hj : j < prs.length) {a' : Option Addr} {l' c' : Nat} (hv : prs[j].2 = .slice a' l' c') {K : Int → Int → Int → Int → Int → Option Addr → Nat → Nat → Prop}
    (q : K prs[j].1.k (L prs[j].1.S 0) (L prs[j].1.S 1) (L prs[j].1.S 2) (L prs[j].1.S 3) a' l' c') :
    IxS a prs.length (j : Int) 6 fun b o => LdV m b o fun v => UnI v .i64 fun x0 => LdV m b (o + 1) fun v => UnI v .u64 fun x1 => LdV m b (o + 2) fun v => UnI v .u64 fun x2 => LdV m b (o + 3) fun v => UnI v .u64 fun x3 => LdV m b (o + 4) fun v => UnI v .u64 fun x4 => LdV m b (o + 5) fun v => UnS v fun xa xl xc => K x0 x1 x2 x3 x4 xa xl xc := by
  refine IxS.rx hc hj ?_
  intro b o c0 c1 c2 c3 c4 c5
  rw [hv] at c5
  exact LdV.mk c0 (LdV.mk c1 (LdV.mk c2 (LdV.mk c3 (LdV.mk c4 (LdV.mk c5 q)))))
/-- A block's first word of an expression's kind. -/
theorem IxS.rxk {m : Mem} {a : Option Addr} {prs : List (Rx × Value)} (hc : CellsAt m a (prs.flatMap rxRow)) {j : Nat} (hj : j < prs.length) {K : Int → Prop} (q : K prs[j].1.k) : IxS a prs.length (j : Int) 6 fun b o => LdV m b o fun v => UnI v .i64 K := by
  refine IxS.rx hc hj ?_
  intro b o c0 c1 c2 c3 c4 c5
  exact LdV.mk c0 q
/-- An expression in a block of its own. -/
theorem newRx {m : Mem} {k : Int} {S : Nat → Bool} {v : Value} {T : TypeId} {K : Nat → Mem → Prop} (h : ∀ b m1, m b = none → Le m m1 → m1 b = some (.cells (rxO k S v) T (0, 0)) → K b m1) :
    NewC m #[.int .i64 k, .int .u64 (L S 0), .int .u64 (L S 1), .int .u64 (L S 2), .int .u64 (L S 3), v] T K := fun b hb => h b _ hb (Le.set hb _) (set_same _ _ _)
/-- A loop's own copy of a part. -/
theorem copyRx {m : Mem} {k : Int} {S : Nat → Bool} {a : Option Addr} {l c : Nat} {x0 x1 x2 x3 x4 x5 : Value} {T : TypeId} {K : Nat → Mem → Prop} (h : ∀ b m1, m b = none → Le m m1 → m1 b = some (.cells (rxO k S (.slice a l c)) T (0, 0)) → K b m1) :
    NewC m #[x0, x1, x2, x3, x4, x5] T fun b m1 => St1 m1 b 0 (.int .i64 k) fun m2 => St1 m2 b 1 (.int .u64 (L S 0)) fun m3 => St1 m3 b 2 (.int .u64 (L S 1)) fun m4 => St1 m4 b 3 (.int .u64 (L S 2)) fun m5 => St1 m5 b 4 (.int .u64 (L S 3)) fun m6 => St1 m6 b 5 (.slice a l c) fun m7 => K b m7 := by
  intro b hb
  refine St1.six (set_same _ _ _) rfl rfl rfl rfl rfl rfl ?_
  rw [set_set]
  exact h b _ hb (Le.set hb _) (set_same _ _ _)
end Go.E.Rg
set_option linter.unusedVariables false
set_option linter.unusedSimpArgs false
set_option maxRecDepth 20000
namespace Go.E.Pl
open Go.H Go.E Go.E.Rg
attribute [local irreducible] BiN MkS ConvN LookN MapUpN CallV HC
/-- The blocks that a *Places writes. -/
def Ft (pb : Nat) (sa fa : Option Addr) (b : Nat) : Prop := b = pb ∨ blk sa = some b ∨ blk fa = some b
def RowsOK (V : Mem) (fol : List (List Nat)) (fv : List Value) : Prop := fv.length = fol.length ∧ ∀ (i : Nat) (l : List Nat), fol[i]? = some l → ∃ (a : Option Addr) (c : Nat), fv[i]? = some (Value.slice a l.length c) ∧ CellsAt V a (ints (ns l))
theorem RowsOK.le {V V' : Mem} {fol : List (List Nat)} {fv : List Value} (h : RowsOK V fol fv) (k : Le V V') : RowsOK V' fol fv := ⟨h.1, fun i l hi => by
  obtain ⟨a, c, h1, h2⟩ := h.2 i l hi
  exact ⟨a, c, h1, h2.le k⟩⟩
theorem RowsOK.one {V : Mem} {fol : List (List Nat)} {fv : List Value} (h : RowsOK V fol fv) : ∀ v ∈ fv, notOne v = false := by
  intro v hv
  obtain ⟨i, hi, rfl⟩ := List.getElem_of_mem hv
  obtain ⟨a, c, h1, _⟩ := h.2 i _ (List.getElem?_eq_getElem (by rw [← h.1]; exact hi))
  rw [List.getElem?_eq_getElem hi] at h1
  rw [Option.some.inj h1]; rfl
/-- A *Places in memory: V is what never turns (its lists' cells), the rest is its own. -/
structure PSt (T : TypeId) (m V : Mem) (pb : Nat) (st : Sta) (sa : Option Addr) (sc : Nat) (fa : Option Addr) (fc : Nat) (fv : List Value) : Prop where
  le : Le V m
  obj : m pb = some (.cells #[.slice sa st.sets.length sc, .slice none 0 0, .slice none 0 0, .slice fa st.fol.length fc, .bool false] T (0, 0))
  os : Own m T_api_Set 4 sa st.sets.length sc (st.sets.flatMap four)
  of : Own m T_sl_int 1 fa st.fol.length fc fv
  rows : RowsOK V st.fol fv
  nV : ∀ b, Ft pb sa fa b → V b = none
  s1 : blk sa ≠ some pb
  f1 : blk fa ≠ some pb
  sf : ∀ b, blk sa = some b → blk fa ≠ some b
/-- How one goes on. -/
structure Gone (F : Nat → Prop) (m V : Mem) (F' : Nat → Prop) (m' V' : Mem) : Prop where
  chg : Chg F m m'
  ft : ∀ b, F' b → F b ∨ m b = none
  le : Le V V'
  hid : ∀ b, m b ≠ none → V b = none → V' b = none
theorem Gone.refl (F : Nat → Prop) (m V : Mem) : Gone F m V F m V := ⟨Chg.refl _ _, fun _ h => .inl h, Le.refl _, fun _ _ h => h⟩
theorem Gone.trans {F F1 F2 : Nat → Prop} {m V m1 V1 m2 V2 : Mem} (h : Gone F m V F1 m1 V1) (k : Gone F1 m1 V1 F2 m2 V2) : Gone F m V F2 m2 V2 :=
  ⟨h.chg.trans k.chg (fun b hb h1 => by
    rcases h.ft b h1 with e | e
    · exact e
    · exact absurd e hb),
   fun b hb => by
    rcases k.ft b hb with e | e
    · exact h.ft b e
    · exact .inr (h.chg.new e),
   h.le.trans k.le, fun b hb hv => k.hid b (h.chg.live b hb) (h.hid b hb hv)⟩
/-- A block of the caller's own is as it was. -/
theorem Gone.keep {F F' : Nat → Prop} {m V m' V' : Mem} (h : Gone F m V F' m' V') {b : Nat} {o : Obj} (hb : m b = some o) (hF : ¬ F b) (hV : V b = none) : m' b = some o ∧ ¬ F' b ∧ V' b = none :=
  ⟨h.chg.eq b o hb hF, fun e => (h.ft b e).elim hF (fun e => by rw [hb] at e; cases e), h.hid b (by rw [hb]; simp) hV⟩
section
variable {T : TypeId} {m V m' : Mem} {pb : Nat} {st : Sta} {sa : Option Addr} {sc : Nat} {fa : Option Addr} {fc : Nat} {fv : List Value}
theorem PSt.live (h : PSt T m V pb st sa sc fa fc fv) {b : Nat} (hb : Ft pb sa fa b) : m b ≠ none := by
  rcases hb with rfl | hb | hb
  · rw [h.obj]; simp
  · exact h.os.live b hb
  · exact h.of.live b hb
/-- What is written elsewhere, and is new, does not touch it. -/
theorem PSt.chg (h : PSt T m V pb st sa sc fa fc fv) {S : Nat → Prop} (hch : Chg S m m') (hS : ∀ b, S b → V b = none) (hF : ∀ b, S b → ¬ Ft pb sa fa b) : PSt T m' V pb st sa sc fa fc fv where
  le := fun b o hb => hch.eq b o (h.le b o hb) (fun e => by rw [hS b e] at hb; cases hb)
  obj := hch.eq _ _ h.obj (fun e => hF _ e (.inl rfl))
  os := h.os.chg hch (fun b hb e => hF b e (.inr (.inl hb)))
  of := h.of.chg hch (fun b hb e => hF b e (.inr (.inr hb)))
  rows := h.rows
  nV := h.nV
  s1 := h.s1
  f1 := h.f1
  sf := h.sf
theorem PSt.new (h : PSt T m V pb st sa sc fa fc fv) (hle : Le m m') : PSt T m' V pb st sa sc fa fc fv ∧ Gone (Ft pb sa fa) m V (Ft pb sa fa) m' V :=
  ⟨h.chg (hle.chg fun _ => False) (fun _ h => h.elim) (fun _ h => h.elim), hle.chg _, fun _ e => .inl e, Le.refl _, fun _ _ e => e⟩
/-- The writing of a block of the caller's own. -/
theorem PSt.loc (h : PSt T m V pb st sa sc fa fc fv) {o : Nat} (hch : Chg (fun b => b = o) m m') (hV : V o = none) (hF : ¬ Ft pb sa fa o) : PSt T m' V pb st sa sc fa fc fv :=
  h.chg hch (fun b e => by rw [show b = o from e]; exact hV) (fun b e => by rw [show b = o from e]; exact hF)
/-- What is new, seen from now on. -/
def see (m m' V : Mem) : Mem := fun b => match m b with | none => m' b | some _ => V b
theorem see_le (h : Le V m) : Le V (see m m' V) := fun b o hb => by
  unfold see; rw [h b o hb]; exact hb
theorem CellsAt.see {m m' V : Mem} {a : Option Addr} {vs : List Value} (h : CellsAt m' a vs) (hf : Fresh m a) : CellsAt (Pl.see m m' V) a vs := by
  rcases h.cases with ⟨b, o, rfl, hx⟩ | ⟨rfl, hn⟩
  · intro j u hu
    have := hx j u hu
    have hb := hf b rfl
    unfold Mem.cell Pl.see
    rw [hb]
    exact this
  · exact CellsAt.empty _ _
theorem PSt.see (h : PSt T m V pb st sa sc fa fc fv) (hle : Le m m') : PSt T m' (Pl.see m m' V) pb st sa sc fa fc fv ∧ Gone (Ft pb sa fa) m V (Ft pb sa fa) m' (Pl.see m m' V) := by
  have h1 := (h.new hle).1
  have hid : ∀ b, m b ≠ none → V b = none → Pl.see m m' V b = none := fun b hb hv => by
    unfold Pl.see
    cases e : m b with
    | none => exact absurd e hb
    | some o => exact hv
  refine ⟨⟨fun b o hb => ?_, h1.obj, h1.os, h1.of, h.rows.le (see_le h.le), fun b hb => hid b (h.live hb) (h.nV b hb), h.s1, h.f1, h.sf⟩, hle.chg _, fun _ e => .inl e, see_le h.le, hid⟩
  unfold Pl.see at hb
  cases e : m b with
  | none => rw [e] at hb; exact hb
  | some o' => rw [e] at hb; exact h1.le b o hb
/-- One of the lists that may stand behind is written anew. -/
theorem PSt.wr (h : PSt T m V pb st sa sc fa fc fv) {x : Nat} (hx : x < st.fol.length) {a' : Option Addr} {l : List Nat} {c' : Nat} (hc : CellsAt V a' (ints (ns l))) {K : Mem → Prop}
    (k : ∀ m', PSt T m' V pb ⟨st.sets, st.fol.set x l⟩ sa sc fa fc (fv.set x (.slice a' l.length c')) → Gone (Ft pb sa fa) m V (Ft pb sa fa) m' V → K m') :
    IxS fa st.fol.length (x : Int) 1 fun b o => St1 m b o (.slice a' l.length c') K := by
  have := h.of.stN (i := (x : Int)) (by omega) (by omega) (j := 0) (by decide) (v := .slice a' l.length c') rfl (K := K) (fun m2 hch ho => k m2 ?_ ?_)
  · exact this
  · have hV : ∀ b, blk fa = some b → V b = none := fun b e => h.nV b (.inr (.inr e))
    refine ⟨fun b o hb => hch.eq b o (h.le b o hb) (fun e => by rw [hV b e] at hb; cases hb), ?_, ?_, ?_, ?_, h.nV, h.s1, h.f1, h.sf⟩
    · have := hch.eq _ _ h.obj h.f1
      show m2 pb = some (.cells #[_, _, _, .slice fa (st.fol.set x l).length fc, _] T (0, 0))
      rw [List.length_set]; exact this
    · exact h.os.chg hch (fun b hb e => h.sf b hb e)
    · show Own m2 T_sl_int 1 fa (st.fol.set x l).length fc _
      rw [List.length_set]
      rw [Int.toNat_natCast, Nat.mul_one, Nat.add_zero] at ho
      exact ho
    · refine ⟨by show (fv.set x _).length = (st.fol.set x l).length; rw [List.length_set, List.length_set]; exact h.rows.1, fun i l' hi => ?_⟩
      have hi : (st.fol.set x l)[i]? = some l' := hi
      by_cases e : x = i
      · subst e
        rw [List.getElem?_set_self hx] at hi
        cases hi
        exact ⟨a', c', by rw [List.getElem?_set_self (by rw [h.rows.1]; exact hx)], hc⟩
      · rw [List.getElem?_set_ne e] at hi
        obtain ⟨a1, c1, g1, g2⟩ := h.rows.2 i l' hi
        exact ⟨a1, c1, by rw [List.getElem?_set_ne e]; exact g1, g2⟩
  · exact ⟨hch.mono (fun b e => .inr (.inr e)), fun _ e => .inl e, Le.refl _, fun _ _ e => e⟩
end
def Bnd (n : Nat) (fol : List (List Nat)) : Prop := ∀ l ∈ fol, Rz l ∧ ∀ x ∈ l, x < n
theorem Bnd.mono {n n' : Nat} {fol : List (List Nat)} (h : Bnd n fol) (k : n ≤ n') : Bnd n' fol := fun l hl => ⟨(h l hl).1, fun x hx => Nat.lt_of_lt_of_le ((h l hl).2 x hx) k⟩
theorem Bnd.get {n : Nat} {fol : List (List Nat)} (h : Bnd n fol) (i : Nat) : Rz (fol.getD i []) ∧ ∀ x ∈ fol.getD i [], x < n := by
  rw [List.getD_eq_getElem?_getD]
  cases e : fol[i]? with
  | none => exact ⟨rz_nil, fun x hx => by cases hx⟩
  | some l => exact h l (List.mem_of_getElem? e)
theorem Bnd.set {n : Nat} {fol : List (List Nat)} (h : Bnd n fol) {i : Nat} {l : List Nat} (h1 : Rz l) (h2 : ∀ x ∈ l, x < n) : Bnd n (fol.set i l) := fun l' hl => by
  rcases List.mem_or_eq_of_mem_set hl with hl | rfl
  · exact h l' hl
  · exact ⟨h1, h2⟩
theorem Bnd.lk {n : Nat} {first : List Nat} (hf : ∀ x ∈ first, x < n) : ∀ (last : List Nat) (fol : List (List Nat)), Bnd n fol → Bnd n (lk also fol last first) := by
  intro last
  induction last with
  | nil => intro fol h; exact h
  | cons i last ih =>
    intro fol h
    show Bnd n (Pl.lk also (fol.set i (also (fol.getD i []) first)) last first)
    refine ih _ (h.set (also_rz _ _) (fun x hx => ?_))
    rcases also_mem.mp hx with e | e
    · exact (h.get i).2 x e
    · exact hf x e
theorem lk_snoc (J : List Nat → List Nat → List Nat) (fol : List (List Nat)) (l : List Nat) (x : Nat) (first : List Nat) : lk J fol (l ++ [x]) first = (lk J fol l first).set x (J ((lk J fol l first).getD x []) first) := by
  unfold lk; rw [List.foldl_append]; rfl
theorem rz_short {n : Nat} {l : List Nat} (h : Rz l) (hb : ∀ x ∈ l, x < n) : l.length ≤ n := by
  have := rz_len (k := 0) h (fun x hx => ⟨by omega, hb x hx⟩); omega
/-- links -/
theorem links_spec {m V : Mem} {pb : Nat} {st : Sta} {sa : Option Addr} {sc : Nat} {fa : Option Addr} {fc : Nat} {fv : List Value} (h : PSt T_place_Places m V pb st sa sc fa fc fv) {n : Nat} (hB : Bnd n st.fol) (hn : n ≤ 10000) {xs ys : List Nat} {la : Option Addr} {lc : Nat} {ra : Option Addr} {rc : Nat}
    (hx : CellsAt V la (ints (ns xs))) (hy : CellsAt V ra (ints (ns ys))) (hxl : ∀ x ∈ xs, x < st.fol.length) (hxs : xs.length ≤ 1000000) (hys : Rz ys ∧ ∀ y ∈ ys, y < n) {R : Ending → Mem → Prop}
    (k : ∀ m' V' fv', PSt T_place_Places m' V' pb ⟨st.sets, lk also st.fol xs ys⟩ sa sc fa fc fv' → Gone (Ft pb sa fa) m V (Ft pb sa fa) m' V' → R (.returned (.tuple #[])) m') :
    HC P place_Places_links.id #[.pointer (some ⟨pb, 0, none⟩), .slice la xs.length lc, .slice ra ys.length rc] m R := by
  refine place_Places_links.ok _ _ _ _ _ _ _ _ _ ?_
  refine ⟨fun N p fa1 fl1 fc1 xa xl xc n1 i mm => p = some ⟨pb, 0, none⟩ ∧ fa1 = ra ∧ fl1 = ys.length ∧ fc1 = rc ∧ xa = la ∧ xl = xs.length ∧ n1 = ((xs.length : Nat) : Int) ∧ ∃ (j : Nat) (Vm : Mem) (fvm : List Value), i = (j : Int) ∧ j ≤ xs.length ∧ N = xs.length - j ∧
      PSt T_place_Places mm Vm pb ⟨st.sets, lk also st.fol (xs.take j) ys⟩ sa sc fa fc fvm ∧ Gone (Ft pb sa fa) m V (Ft pb sa fa) mm Vm, xs.length,
    ⟨rfl, rfl, rfl, rfl, rfl, rfl, rfl, 0, V, fv, rfl, by omega, by omega, h, Gone.refl _ _ _⟩, ?_⟩
  rintro N p fa1 fl1 fc1 xa xl xc n1 i mm ⟨rfl, rfl, rfl, rfl, rfl, rfl, rfl, j, Vm, fvm, rfl, hj, rfl, hp, hg⟩
  unfold place_Places_links.l1B
  refine BrD (fun hlt => ?_) (fun hge => ?_)
  · have hjl : j < xs.length := by omega
    have hxj : (ns xs)[j]? = some ((xs[j] : Nat) : Int) := by unfold ns; rw [List.getElem?_map, List.getElem?_eq_getElem hjl]; rfl
    refine IxS.ints (xs := ns xs) ((hx.le hg.le).le hp.le) (ns_len _) (by omega) (by omega) ?_
    intro v hv
    rw [Int.toNat_natCast, hxj] at hv
    cases hv
    refine UnI.mk ?_
    have hB' : Bnd n (lk also st.fol (xs.take j) ys) := Bnd.lk hys.2 _ _ hB
    have hxx : xs[j] < (lk also st.fol (xs.take j) ys).length := by rw [lk_len]; exact hxl _ (List.getElem_mem _)
    obtain ⟨a1, c1, g1, g2⟩ := hp.rows.2 xs[j] _ (List.getElem?_eq_getElem hxx)
    refine Sub.all ?_
    show LdV mm pb (0 + 3) _
    refine LdV.mk (cell_of hp.obj rfl) (UnS.mk ?_)
    show LdV mm pb (0 + 3) _
    refine LdV.mk (cell_of hp.obj rfl) (UnS.mk ?_)
    refine IxS.ld hp.of.cells (by rw [hp.rows.1]) (by omega) (by show ((xs[j] : Nat) : Int) < (((lk also st.fol (xs.take j) ys).length : Nat) : Int); omega) ?_
    intro v hv
    rw [Int.toNat_natCast, g1] at hv
    cases hv
    refine UnS.mk ?_
    have hbr := hB' _ (List.getElem_mem hxx)
    have hl1 := rz_short hbr.1 hbr.2
    have hl2 := rz_short hys.1 hys.2
    refine also_spec (g2.le hp.le) rfl ((hy.le hg.le).le hp.le) rfl (by omega) ?_
    intro m2 a' c' hle2 hc2 hf2
    dsimp only [Cont]
    refine UnS.mk ?_
    refine Lk.all hle2 ?_
    obtain ⟨hp2, hg2⟩ := hp.see hle2
    refine hp2.wr hxx (CellsAt.see hc2 hf2) ?_
    intro m4 hp4 hg4
    have e1 : Pl.lk also st.fol (xs.take (j + 1)) ys = (Pl.lk also st.fol (xs.take j) ys).set xs[j] (also (Pl.lk also st.fol (xs.take j) ys)[xs[j]] ys) := by
      rw [List.take_add_one, List.getElem?_eq_getElem hjl]
      show Pl.lk also st.fol (xs.take j ++ [xs[j]]) ys = _
      rw [lk_snoc, List.getD_eq_getElem?_getD, List.getElem?_eq_getElem hxx]; rfl
    have key : PSt T_place_Places m4 (Pl.see mm m2 Vm) pb ⟨st.sets, Pl.lk also st.fol (xs.take (j + 1)) ys⟩ sa sc fa fc (fvm.set xs[j] (Value.slice a' (also (lk also st.fol (List.take j xs) ys)[xs[j]] ys).length c')) := by
      rw [e1]; exact hp4
    refine ⟨xs.length - (j + 1), by omega, rfl, rfl, rfl, rfl, rfl, rfl, rfl, j + 1, _, _, ?_, by omega, rfl, key, (hg.trans hg2).trans hg4⟩
    rw [wi (by omega) (by omega)]; omega
  · have e : xs.take j = xs := List.take_of_length_le (by omega)
    rw [e] at hp
    exact k mm Vm fvm hp hg
end Go.E.Pl
set_option linter.unusedVariables false
set_option linter.unusedSimpArgs false
set_option maxRecDepth 20000
namespace Go.E.Rg
open Go.H Go.E
attribute [local irreducible] BiN MkS ConvN LookN MapUpN CallV HC limb dbTab
theorem sign_spec {k : Int} {m : Mem} {R : Ending → Mem → Prop} (h : R (.returned (.bool (sgK k))) m) : HC P regex_sign.id #[.int .i64 k] m R := by
  refine regex_sign.ok _ _ _ ?_
  unfold sgK at h
  refine BrD (fun h4 => ?_) (fun h4 => ?_)
  · have : decide (4 ≤ k) = true := by simpa using h4
    rw [this, Bool.true_and] at h; exact h
  · have : decide (4 ≤ k) = false := by simpa using h4
    rw [this, Bool.false_and] at h; exact h
theorem form_mk (k : Int) (S : Nat → Bool) (ps : List Rx) : form (.mk k S ps) = (if k = 1 then ps.isEmpty && !emptyS S
    else if emptyS S = false then false
    else if k = 2 ∨ k = 3 then decide (2 ≤ ps.length) && formL k ps
    else if sgK k = true then decide (ps.length = 1) && !(ps.any fun a => sgK a.k) && formL k ps
    else false) := by conv => lhs; unfold form
theorem formL_cons (k : Int) (r : Rx) (rs : List Rx) : formL k (r :: rs) = ((decide (r.k ≠ k) && form r) && formL k rs) := by conv => lhs; unfold formL
theorem nodesL_cons (r : Rx) (rs : List Rx) : nodesL (r :: rs) = nodes r + nodesL rs := by conv => lhs; unfold nodesL
theorem depthL_cons (r : Rx) (rs : List Rx) : depthL (r :: rs) = max (depth r) (depthL rs) := by conv => lhs; unfold depthL
theorem nodes_mk (k : Int) (S : Nat → Bool) (ps : List Rx) : nodes (.mk k S ps) = nodesL ps + 1 := by conv => lhs; unfold nodes
theorem depth_nodes (r : Rx) : depth r ≤ nodes r := by
  refine Rx.rec (motive_1 := fun r => depth r ≤ nodes r) (motive_2 := fun ps => depthL ps ≤ nodesL ps) ?_ ?_ ?_ r
  · intro k S ps ih; rw [depth_mk, nodes_mk]; omega
  · unfold depthL nodesL; omega
  · intro r rs h1 h2; rw [depthL_cons, nodesL_cons]; omega
theorem nodesL_take : ∀ {ps : List Rx} {j : Nat} {p : Rx}, ps[j]? = some p → nodesL (ps.take (j + 1)) = nodesL (ps.take j) + nodes p ∧ depthL (ps.take (j + 1)) = max (depthL (ps.take j)) (depth p) ∧ nodesL (ps.take (j + 1)) ≤ nodesL ps
  | r :: rs, 0, p, h => by
    cases h
    simp only [List.take_succ_cons, List.take_zero]
    rw [nodesL_cons, depthL_cons, nodesL_cons]
    have e1 : nodesL [] = 0 := by unfold nodesL; rfl
    have e2 : depthL [] = 0 := by unfold depthL; rfl
    omega
  | r :: rs, j + 1, p, h => by
    obtain ⟨h1, h2, h3⟩ := nodesL_take (ps := rs) (j := j) (p := p) (by simpa using h)
    rw [List.take_succ_cons, List.take_succ_cons, nodesL_cons, nodesL_cons, depthL_cons, depthL_cons, nodesL_cons, h1, h2]
    rw [h1] at h3
    omega
section
variable {m : Mem} {R : Ending → Mem → Prop}
theorem formed_spec (r : Rx) : ∀ {m : Mem} {v : Value} {R : Ending → Mem → Prop}, ArgC m r v → (∀ m', Le m m' → R (.returned (.bool (form r))) m') → HC P regex_formed.id #[rxA r.k r.S v] m R := by
  refine Rx.ind (C := fun r => ∀ {m : Mem} {v : Value} {R : Ending → Mem → Prop}, ArgC m r v → (∀ m', Le m m' → R (.returned (.bool (form r))) m') → HC P regex_formed.id #[rxA r.k r.S v] m R) ?_ r
  intro k S ps ih m v R ha hk
  obtain ⟨prs, a, c, rfl, rfl, hl, hb, hc, hp⟩ := ha.inv
  show HC P regex_formed.id #[rxA k S (.slice a prs.length c)] m R
  refine regex_formed.ok _ _ _ _ _ _ _ _ _ _ ?_
  refine newRx ?_
  intro b1 m1 hb1 hle h1
  rw [form_mk] at hk
  have hlen : (prs.map (·.1)).length = prs.length := List.length_map _
  -- the loop over the parts
  have k2 : ∀ m2, Le m1 m2 → (∀ m', Le m m' → R (.returned (.bool (formL k (prs.map (·.1))))) m') → regex_formed.k2 b1 0 R m2 := by
    intro m2 hle2 hk2
    unfold regex_formed.k2
    refine LdV.s5 (hle2 _ _ h1) (UnS.mk ?_)
    refine ⟨fun N x1b x1o xa xl xc n i mm => x1b = b1 ∧ x1o = 0 ∧ xa = a ∧ xl = prs.length ∧ xc = c ∧ n = ((prs.length : Nat) : Int) ∧ ∃ j : Nat, i = (j : Int) ∧ j ≤ prs.length ∧ N = prs.length - j ∧ Le m1 mm ∧ formL k (prs.map (·.1)) = formL k ((prs.map (·.1)).drop j), prs.length,
      ⟨rfl, rfl, rfl, rfl, rfl, rfl, 0, rfl, by omega, by omega, hle2, rfl⟩, ?_⟩
    rintro N x1b x1o xa xl xc n i mm ⟨rfl, rfl, rfl, rfl, rfl, rfl, j, rfl, hj, rfl, hlm, hfl⟩
    unfold regex_formed.l3B
    refine BrD (fun hlt => ?_) (fun hge => ?_)
    · have hjl : j < prs.length := by omega
      have hpm := List.getElem_mem hjl
      obtain ⟨a', l', c', hv⟩ := (hp _ hpm).sl
      have hdrop : (prs.map (·.1)).drop j = prs[j].1 :: (prs.map (·.1)).drop (j + 1) := by
        rw [List.drop_eq_getElem_cons (by rw [hlen]; exact hjl), List.getElem_map]
      rw [hdrop, formL_cons] at hfl
      refine IxS.rx6 (hc.le (hle.trans hlm)) hjl hv ?_
      refine copyRx ?_
      intro b4 m7 hb4 hle7 h7
      have hl7 := hlm.trans hle7
      refine LdV.s0 h7 (UnI.mk ?_)
      refine LdV.s0 (hl7 _ _ h1) (UnI.mk ?_)
      refine BrE (fun e => ?_) (fun e => ?_)
      · have := hk2 m7 (hle.trans hl7)
        rw [hfl] at this
        rw [show decide (prs[j].1.k ≠ k) = false by simpa using e] at this
        simpa using this
      refine get6 h7 ?_
      have hih := ih prs[j].1 (List.mem_map.mpr ⟨_, hpm, rfl⟩) (m := m7) (v := .slice a' l' c') (R := Cont (fun v m8 => UnB v fun x65 => Br (!x65) (R (.returned (.bool false)) m8) (∃ N1, N1 < prs.length - j ∧ (x1b = x1b ∧ (0 : Nat) = 0 ∧ xa = xa ∧ prs.length = prs.length ∧ xc = xc ∧ ((prs.length : Nat) : Int) = ((prs.length : Nat) : Int) ∧ ∃ j' : Nat, IntKind.i64.wrap ((j : Int) + 1) = (j' : Int) ∧ j' ≤ prs.length ∧ N1 = prs.length - j' ∧ Le m1 m8 ∧ formL k (prs.map (·.1)) = formL k ((prs.map (·.1)).drop j')))) (panicR R)) (by
          have := hp _ hpm
          rw [hv] at this
          exact this.le (hle.trans hl7)) ?_
      · exact hih
      intro m8 hle8
      dsimp only [Cont]
      refine UnB.mk ?_
      have hdk : decide (prs[j].1.k ≠ k) = true := by simpa using e
      rw [hdk, Bool.true_and] at hfl
      refine Br.mk (fun hf => ?_) (fun hf => ?_)
      · have hf : form prs[j].1 = false := by simpa using hf
        have := hk2 m8 (hle.trans (hl7.trans hle8))
        rw [hfl, hf, Bool.false_and] at this
        exact this
      · have hf : form prs[j].1 = true := by simpa using hf
        rw [hf, Bool.true_and] at hfl
        refine ⟨prs.length - (j + 1), by omega, rfl, rfl, rfl, rfl, rfl, rfl, j + 1, ?_, by omega, rfl, hl7.trans hle8, hfl⟩
        rw [wi (by omega) (by omega)]; omega
    · have e : (prs.map (·.1)).drop j = [] := List.drop_eq_nil_of_le (by omega)
      rw [e] at hfl
      have := hk2 mm (hle.trans hlm)
      rw [hfl] at this
      have e2 : formL k [] = true := by unfold formL; rfl
      rw [e2] at this
      exact this
  refine LdV.s0 h1 (UnI.mk ?_)
  refine BrE (fun e => ?_) (fun e => ?_)
  · rw [if_pos e] at hk
    refine LdV.s5 h1 (UnS.mk ?_)
    refine BrE (fun e2 => ?_) (fun e2 => ?_)
    · have hz : prs = [] := List.eq_nil_of_length_eq_zero (by omega)
      refine LdV.s1 h1 (UnI.mk (LdV.s2 h1 (UnI.mk (LdV.s3 h1 (UnI.mk (LdV.s4 h1 (UnI.mk ?_)))))))
      rw [eq4_zero]
      have := hk m1 hle
      rw [hz] at this
      simpa using this
    · have := hk m1 hle
      have hz : (prs.map (·.1)).isEmpty = false := by
        cases prs with
        | nil => simp at e2
        | cons p qs => rfl
      rw [hz] at this
      simpa using this
  rw [if_neg e] at hk
  refine LdV.s1 h1 (UnI.mk (LdV.s2 h1 (UnI.mk (LdV.s3 h1 (UnI.mk (LdV.s4 h1 (UnI.mk ?_)))))))
  rw [eq4_zero]
  refine Br.mk (fun hS => ?_) (fun hS => ?_)
  · rw [if_pos (by simpa using hS)] at hk
    exact hk m1 hle
  rw [if_neg (by simpa using hS)] at hk
  refine LdV.s0 h1 (UnI.mk ?_)
  have k1t : (k = 2 ∨ k = 3) → regex_formed.k1 b1 0 true R m1 := by
    intro h23
    rw [if_pos h23, hlen] at hk
    unfold regex_formed.k1
    refine Br.t rfl ?_
    refine LdV.s5 h1 (UnS.mk ?_)
    refine BrD (fun h2 => ?_) (fun h2 => ?_)
    · have := hk m1 hle
      rw [show decide (2 ≤ prs.length) = false by simp; omega] at this
      simpa using this
    · refine k2 m1 (Le.refl _) ?_
      rw [show decide (2 ≤ prs.length) = true by simp; omega] at hk
      simpa using hk
  refine BrE (fun h2 => k1t (.inl h2)) (fun h2 => ?_)
  refine LdV.s0 h1 (UnI.mk ?_)
  by_cases h3 : k = 3
  · have : (k == 3) = true := by simpa using h3
    rw [this]
    exact k1t (.inr h3)
  have hk3 : (k == 3) = false := by simpa using h3
  rw [hk3]
  rw [if_neg (by rintro (h | h); exact h2 h; exact h3 h), hlen] at hk
  unfold regex_formed.k1
  refine Br.f rfl ?_
  refine LdV.s0 h1 (UnI.mk ?_)
  refine sign_spec ?_
  dsimp only [Cont]
  refine UnB.mk ?_
  refine Br.mk (fun hs => ?_) (fun hs => ?_)
  rotate_left
  · rw [if_neg (by rw [hs]; decide)] at hk
    exact hk m1 hle
  rw [if_pos hs] at hk
  refine LdV.s5 h1 (UnS.mk ?_)
  refine BrN (fun h1' => ?_) (fun h1' => ?_)
  · have := hk m1 hle
    rw [show decide (prs.length = 1) = false by simp; omega] at this
    simpa using this
  have hl1 : prs.length = 1 := by omega
  refine LdV.s5 h1 (UnS.mk ?_)
  refine IxS.rxk (hc.le hle) (j := 0) (by omega) ?_
  refine sign_spec ?_
  dsimp only [Cont]
  refine UnB.mk ?_
  obtain ⟨p, rfl⟩ := List.length_eq_one_iff.mp hl1
  refine Br.mk (fun hsg => ?_) (fun hsg => ?_)
  · have := hk m1 hle
    have hsg : sgK p.1.k = true := hsg
    simp [hsg] at this
    exact this
  · have hsg : sgK p.1.k = false := hsg
    refine k2 m1 (Le.refl _) ?_
    intro m' hm'
    have := hk m' hm'
    simp [hsg] at this
    exact this
theorem size_spec (r : Rx) : ∀ {m : Mem} {v : Value} {R : Ending → Mem → Prop}, ArgC m r v → nodes r ≤ 4000000000000000000 → (∀ m', Le m m' → R (.returned (.tuple #[.int .i64 (nodes r : Nat), .int .i64 (depth r : Nat)])) m') → HC P regex_size.id #[rxA r.k r.S v] m R := by
  refine Rx.ind (C := fun r => ∀ {m : Mem} {v : Value} {R : Ending → Mem → Prop}, ArgC m r v → nodes r ≤ 4000000000000000000 → (∀ m', Le m m' → R (.returned (.tuple #[.int .i64 (nodes r : Nat), .int .i64 (depth r : Nat)])) m') → HC P regex_size.id #[rxA r.k r.S v] m R) ?_ r
  intro k S ps ih m v R ha hn hk
  obtain ⟨prs, a, c, rfl, rfl, hl, hb, hc, hp⟩ := ha.inv
  show HC P regex_size.id #[rxA k S (.slice a prs.length c)] m R
  refine regex_size.ok _ _ _ _ _ _ _ _ _ _ ?_
  refine newRx ?_
  intro b1 m1 hb1 hle h1
  have hlen : (prs.map (·.1)).length = prs.length := List.length_map _
  rw [nodes_mk] at hn hk
  rw [depth_mk] at hk
  refine LdV.s5 h1 (UnS.mk ?_)
  refine ⟨fun N nd dp xa xl xc n i mm => xa = a ∧ xl = prs.length ∧ xc = c ∧ n = ((prs.length : Nat) : Int) ∧ ∃ j : Nat, i = (j : Int) ∧ j ≤ prs.length ∧ N = prs.length - j ∧ Le m1 mm ∧ nd = ((nodesL ((prs.map (·.1)).take j) : Nat) : Int) ∧ dp = ((depthL ((prs.map (·.1)).take j) : Nat) : Int), prs.length,
    ⟨rfl, rfl, rfl, rfl, 0, rfl, by omega, by omega, Le.refl _, by unfold nodesL; rfl, by unfold depthL; rfl⟩, ?_⟩
  rintro N nd dp xa xl xc n i mm ⟨rfl, rfl, rfl, rfl, j, rfl, hj, rfl, hlm, rfl, rfl⟩
  unfold regex_size.l1B
  refine BrD (fun hlt => ?_) (fun hge => ?_)
  · have hjl : j < prs.length := by omega
    have hpm := List.getElem_mem hjl
    obtain ⟨a', l', c', hv⟩ := (hp _ hpm).sl
    have hg : (prs.map (·.1))[j]? = some prs[j].1 := by rw [List.getElem?_map, List.getElem?_eq_getElem hjl]; rfl
    obtain ⟨e1, e2, e3⟩ := nodesL_take hg
    have e4 := depth_nodes prs[j].1
    refine IxS.rx6 (hc.le (hle.trans hlm)) hjl hv ?_
    refine copyRx ?_
    intro b4 m7 hb4 hle7 h7
    have hl7 := hlm.trans hle7
    refine get6 h7 ?_
    refine ih prs[j].1 (List.mem_map.mpr ⟨_, hpm, rfl⟩) (m := m7) (v := .slice a' l' c') (by
        have := hp _ hpm
        rw [hv] at this
        exact this.le (hle.trans hl7)) (by omega) ?_
    intro m8 hle8
    refine ⟨prs.length - (j + 1), by omega, rfl, rfl, rfl, rfl, j + 1, ?_, by omega, rfl, hl7.trans hle8, ?_, ?_⟩
    · rw [wi (by omega) (by omega)]; omega
    · rw [wi (by omega) (by omega), e1]; omega
    · rw [e2]; split <;> omega
  · have e : (prs.map (·.1)).take j = prs.map (·.1) := List.take_of_length_le (by omega)
    rw [e]
    unfold regex_size.k2
    have hd : depthL (prs.map (·.1)) ≤ nodesL (prs.map (·.1)) := by
      have := depth_nodes (.mk k S (prs.map (·.1)))
      rw [depth_mk, nodes_mk] at this; omega
    rw [wi (by omega) (by omega), wi (by omega) (by omega)]
    have := hk mm (hle.trans hlm)
    exact this
theorem May_spec {r : Rx} {m : Mem} {v : Value} {R : Ending → Mem → Prop} (ha : ArgC m r v) (hn : nodes r ≤ 4000000000000000000) (hk : ∀ m', Le m m' → R (.returned (.int .i64 (may r))) m') : HC P regex_May.id #[rxA r.k r.S v] m R := by
  obtain ⟨a, l, c, rfl⟩ := ha.sl
  refine regex_May.ok _ _ _ _ _ _ _ _ _ _ ?_
  refine newRx ?_
  intro b1 m1 hb1 hle h1
  refine get6 h1 ?_
  refine formed_spec r (ha.le hle) ?_
  intro m2 hle2
  dsimp only [Cont]
  refine UnB.mk ?_
  unfold may at hk
  refine Br.mk (fun hf => ?_) (fun hf => ?_)
  · rw [if_neg (by simpa using hf)] at hk
    exact hk m2 (hle.trans hle2)
  rw [if_pos (by simpa using hf)] at hk
  refine get6 (hle2 _ _ h1) ?_
  refine size_spec r (ha.le (hle.trans hle2)) hn ?_
  intro m3 hle3
  have hle3' := hle.trans (hle2.trans hle3)
  refine BrD (fun h4 => ?_) (fun h4 => ?_)
  · rw [if_pos (.inl (by omega))] at hk
    exact hk m3 hle3'
  refine BrD (fun h5 => ?_) (fun h5 => ?_)
  · rw [if_pos (.inr (by omega))] at hk
    exact hk m3 hle3'
  rw [if_neg (by omega)] at hk
  exact hk m3 hle3'
end
end Go.E.Rg
set_option linter.unusedVariables false
set_option linter.unusedSimpArgs false
set_option maxRecDepth 20000
namespace Go.E.Rg
open Go.H Go.E
attribute [local irreducible] BiN MkS ConvN LookN MapUpN CallV HC limb dbTab
def bl (l : List Bool) : List Value := l.map Value.bool
theorem bl_len (l : List Bool) : (bl l).length = l.length := by simp [bl]
theorem bl_get {l : List Bool} {i : Nat} {b : Bool} (h : l[i]? = some b) : (bl l)[i]? = some (.bool b) := by unfold bl; rw [List.getElem?_map, h]; rfl
theorem IxS.bl {m : Mem} {a : Option Addr} {len : Nat} {l : List Bool} (hc : CellsAt m a (bl l)) (hl : l.length = len) {i : Nat} {b : Bool} (hb : l[i]? = some b) {K : Value → Prop} (k : K (.bool b)) : IxS a len (i : Int) 1 (fun b o => LdV m b o K) := by
  have hi : i < l.length := by
    rcases Nat.lt_or_ge i l.length with h | h
    · exact h
    · rw [List.getElem?_eq_none h] at hb; cases hb
  refine IxS.ld hc (by rw [bl_len]; exact hl) (by omega) (by omega) ?_
  intro v hv
  rw [Int.toNat_natCast, bl_get hb] at hv
  cases hv; exact k
end Go.E.Rg
set_option linter.unusedVariables false
set_option linter.unusedSimpArgs false
set_option maxRecDepth 20000
namespace Go.E.Rg
open Go.H Go.E
attribute [local irreducible] BiN MkS ConvN LookN MapUpN CallV HC limb dbTab
/-- The answer under way: its own row, and the expression's own block. -/
structure FO (m mm : Mem) (b3 b n : Nat) (obj : Obj) (out : List Bool) : Prop where
  le : Le m mm
  c3 : mm b3 = some obj
  own : Own mm T_bool 1 (some ⟨b, 0, none⟩) n n (bl out)
  hb : m b = none
  ne : b3 ≠ b
section
variable {m mm m' : Mem} {b3 b n : Nat} {obj : Obj} {out out' : List Bool}
theorem FO.up (h : FO m mm b3 b n obj out) (k : Le mm m') : FO m m' b3 b n obj out := ⟨h.le.trans k, k _ _ h.c3, Own.le k h.own, h.hb, h.ne⟩
theorem FO.to (h : FO m mm b3 b n obj out) (k : Chg (fun x => blk (some ⟨b, 0, none⟩) = some x) mm m') (o : Own m' T_bool 1 (some ⟨b, 0, none⟩) n n (bl out')) : FO m m' b3 b n obj out' :=
  ⟨k.to_le h.le (fun x e => by cases e; exact h.hb), k.eq _ _ h.c3 (fun e => by cases e; exact h.ne rfl), o, h.hb, h.ne⟩
theorem FO.len (h : FO m mm b3 b n obj out) : out.length = n := by have := h.own.1; rw [bl_len] at this; omega
theorem FO.fresh (h : FO m mm b3 b n obj out) : Fresh m (some ⟨b, 0, none⟩) := fun x e => by cases e; exact h.hb
end
end Go.E.Rg
set_option linter.unusedVariables false
set_option linter.unusedSimpArgs false
set_option maxRecDepth 20000
namespace Go.E.Rg
open Go.H Go.E
theorem nodes_mk' (k : Int) (S : Nat → Bool) (ps : List Rx) : nodes (.mk k S ps) = nodesL ps + 1 := by conv => lhs; unfold nodes
theorem nodesL_nil : nodesL [] = 0 := by unfold nodesL; rfl
theorem nodesL_cons' (r : Rx) (rs : List Rx) : nodesL (r :: rs) = nodes r + nodesL rs := by conv => lhs; unfold nodesL
end Go.E.Rg
set_option linter.unusedVariables false
set_option linter.unusedSimpArgs false
set_option maxRecDepth 20000
namespace Go.E.Rg
open Go.H Go.E
attribute [local irreducible] BiN MkS ConvN LookN MapUpN CallV HC limb dbTab
/-- What is new since m. -/
noncomputable abbrev newB (m m' : Mem) : Mem := on m' (fun b => m b = none)
theorem newB_mono {S : Nat → Prop} {m mm m' : Mem} (h : Chg S mm m') (hs : ∀ b, S b → m b ≠ none) : Le (newB m mm) (newB m m') :=
  on_mono h (fun b hb _ hS => hs b hS hb) (fun b hb _ => hb)
theorem newB_up {m mm m' : Mem} (h : ∀ b, m b ≠ none → mm b ≠ none) : Le (newB mm m') (newB m m') := fun b o hb => by
  obtain ⟨h1, h2⟩ := on_live hb
  have : m b = none := by
    cases hm : m b with
    | none => rfl
    | some o => exact absurd h1 (h b (by rw [hm]; simp))
  show on m' (fun b => m b = none) b = some o
  rw [on_in (G := fun b => m b = none) this]; exact h2
theorem newB_le {m mm m' : Mem} (h : Le mm m') : Le (newB m mm) (newB m m') := newB_mono (h.chg fun _ => False) (fun _ h => h.elim)
theorem CellsAt.on {m : Mem} {G : Nat → Prop} {a : Option Addr} {vs : List Value} (h : CellsAt m a vs) (hn : ∀ b, blk a = some b → G b) : CellsAt (on m G) a vs := by
  rcases h.cases with ⟨b, o, rfl, hx⟩ | ⟨rfl, _⟩
  · intro j u hu
    have := hx j u hu
    unfold Mem.cell at *
    rw [on_in (hn b rfl)]; exact this
  · exact CellsAt.empty _ _
/-- A place of one's own, while only r turns besides. -/
structure Cl (T : TypeId) (m mm : Mem) (r b : Nat) (c : Array Value) : Prop where
  at_ : mm b = some (.cells c T (0, 0))
  ne : b ≠ r
  new : m b = none
  ch : Chg (fun x => x = r) m mm
section
variable {T : TypeId} {m mm m' : Mem} {r b : Nat} {c : Array Value}
theorem Cl.mk0 (hr : m r ≠ none) (hb : m b = none) : Cl T m (m.set b (.cells c T (0, 0))) r b c := ⟨set_same _ _ _, fun e => hr (e ▸ hb), hb, (Le.set hb _).chg _⟩
theorem Cl.step (h : Cl T m mm r b c) (k : Chg (fun x => x = r) mm m') : Cl T m m' r b c := ⟨k.eq _ _ h.at_ h.ne, h.ne, h.new, h.ch.trans k (fun _ _ e => e)⟩
theorem Cl.le (h : Cl T m mm r b c) (k : Le mm m') : Cl T m m' r b c := h.step (k.chg _)
theorem Cl.put (h : Cl T m mm r b c) (c' : Array Value) : Cl T m (mm.set b (.cells c' T (0, 0))) r b c' := by
  refine ⟨set_same _ _ _, h.ne, h.new, ?_⟩
  refine ⟨fun x o hx hn => ?_, fun x hx => ?_⟩
  · have : x ≠ b := fun e => by subst e; rw [h.new] at hx; cases hx
    rw [set_other _ _ this]
    exact h.ch.eq x o hx hn
  · by_cases e : x = b
    · subst e; rw [set_same]; simp
    · rw [set_other _ _ e]; exact h.ch.live x hx
theorem Cl.mkAt (h : Chg (fun x => x = r) m mm) (hr : m r ≠ none) (hb : mm b = none) : Cl T m (mm.set b (.cells c T (0, 0))) r b c := by
  have hbm : m b = none := h.new hb
  exact ⟨set_same _ _ _, fun e => hr (e ▸ hbm), hbm, h.trans ((Le.set hb _).chg _) (fun _ _ e => e)⟩
end
theorem ContRx.mk {k u0 u1 u2 u3 : Int} {a : Option Addr} {l c : Nat} {K : Int → Int → Int → Int → Int → Option Addr → Nat → Nat → Mem → Prop} {Pn : List PanicEntry → Mem → Prop} {m : Mem} (h : K k u0 u1 u2 u3 a l c m) :
    Cont (fun v m => UnAgg v fun l => UnCons l fun v l => UnI v .i64 fun x0 => UnCons l fun v l => UnI v .u64 fun x1 => UnCons l fun v l => UnI v .u64 fun x2 => UnCons l fun v l => UnI v .u64 fun x3 => UnCons l fun v l => UnI v .u64 fun x4 => UnCons l fun v l => UnS v fun xa xl xc => UnNil l (K x0 x1 x2 x3 x4 xa xl xc m)) Pn
      (.returned (.agg #[.int .i64 k, .int .u64 u0, .int .u64 u1, .int .u64 u2, .int .u64 u3, .slice a l c])) m := h
theorem put6 {m : Mem} {b : Nat} {x0 x1 x2 x3 x4 x5 : Value} {k : Int} {S : Nat → Bool} {a : Option Addr} {l c : Nat} {e : TypeId} {K : Mem → Prop} (h : m b = some (.cells #[x0, x1, x2, x3, x4, x5] e (0, 0)))
    (q : K (m.set b (.cells (rxO k S (.slice a l c)) e (0, 0)))) : St1 m b 0 (.int .i64 k) fun m1 => St1 m1 b 1 (.int .u64 (L S 0)) fun m2 => St1 m2 b 2 (.int .u64 (L S 1)) fun m3 => St1 m3 b 3 (.int .u64 (L S 2)) fun m4 => St1 m4 b 4 (.int .u64 (L S 3)) fun m5 => St1 m5 b 5 (.slice a l c) K :=
  St1.six h rfl rfl rfl rfl rfl rfl q
theorem out6 {m : Mem} {b : Nat} {x0 x1 x2 x3 x4 x5 : Value} {k : Int} {S : Nat → Bool} {a : Option Addr} {l c : Nat} {e : TypeId} {K : Int → Int → Int → Int → Int → Option Addr → Nat → Nat → Mem → Prop} (h : m b = some (.cells #[x0, x1, x2, x3, x4, x5] e (0, 0)))
    (q : K k (L S 0) (L S 1) (L S 2) (L S 3) a l c (m.set b (.cells (rxO k S (.slice a l c)) e (0, 0)))) : St1 m b 0 (.int .i64 k) fun m1 => St1 m1 b 1 (.int .u64 (L S 0)) fun m2 => St1 m2 b 2 (.int .u64 (L S 1)) fun m3 => St1 m3 b 3 (.int .u64 (L S 2)) fun m4 => St1 m4 b 4 (.int .u64 (L S 3)) fun m5 => St1 m5 b 5 (.slice a l c) fun m6 =>
      LdV m6 b 0 fun v => UnI v .i64 fun y0 => LdV m6 b 1 fun v => UnI v .u64 fun y1 => LdV m6 b 2 fun v => UnI v .u64 fun y2 => LdV m6 b 3 fun v => UnI v .u64 fun y3 => LdV m6 b 4 fun v => UnI v .u64 fun y4 => LdV m6 b 5 fun v => UnS v fun ya yl yc => K y0 y1 y2 y3 y4 ya yl yc m6 :=
  put6 h (get6 (set_same _ _ _) q)
theorem noS_L (j : Nat) : L noS j = 0 := by have := L_zero j; exact this
/-- Glob but for what r has. -/
abbrev GlobR (m : Mem) (r : Nat) : Prop := Glob (m.wo fun b => b = r)
theorem GlobR.chg {m m' : Mem} {r : Nat} (h : GlobR m r) (k : Chg (fun b => b = r) m m') : GlobR m' r := by
  refine Glob.le h ?_
  intro b o hb
  by_cases e : b = r
  · rw [wo_out (F := fun b => b = r) e] at hb; cases hb
  · rw [wo_in (F := fun b => b = r) e] at hb ⊢
    exact k.eq b o hb e
/-- A list of expressions under way, its own slice; what its parts have is new and elsewhere. -/
structure RL (m mm : Mem) (a : Option Addr) (c : Nat) (prs : List (Rx × Value)) : Prop where
  own : Own mm T_api_Rx 6 a prs.length c (prs.flatMap rxRow)
  fr : Fresh m a
  ok : ∀ p ∈ prs, ArgC (on mm fun b => m b = none ∧ blk a ≠ some b) p.1 p.2
theorem eRx : ElemOK P T_sl_api_Rx T_api_Rx (.agg #[.int .i64 0, .int .u64 0, .int .u64 0, .int .u64 0, .int .u64 0, .slice none 0 0]) 6 64 := .of (by kernel_rfl) (by kernel_rfl) rfl
end Go.E.Rg
set_option linter.unusedVariables false
set_option linter.unusedSimpArgs false
set_option maxRecDepth 20000
namespace Go.E.Pl
open Go.H Go.E Go.E.Rg
attribute [local irreducible] BiN MkS ConvN LookN MapUpN CallV HC
theorem eSet : ElemOK P T_sl_api_Set T_api_Set (.agg #[.int .u64 0, .int .u64 0, .int .u64 0, .int .u64 0]) 4 32 := .of (by kernel_rfl) (by kernel_rfl) rfl
theorem eSI : ElemOK P T_sl_sl_int T_sl_int (.slice none 0 0) 1 24 := .of (by kernel_rfl) (by kernel_rfl) rfl
/-- A part's three cells. -/
abbrev pO (a : Option Addr) (l c : Nat) (a' : Option Addr) (l' c' : Nat) (z : Bool) : Array Value := #[.slice a l c, .slice a' l' c', .bool z]
theorem put3 {m : Mem} {b : Nat} {x0 x1 x2 : Value} {a : Option Addr} {l c : Nat} {a' : Option Addr} {l' c' : Nat} {z : Bool} {e : TypeId} {K : Mem → Prop} (h : m b = some (.cells #[x0, x1, x2] e (0, 0)))
    (q : K (m.set b (.cells (pO a l c a' l' c' z) e (0, 0)))) : St1 m b 0 (.slice a l c) fun m1 => St1 m1 b 1 (.slice a' l' c') fun m2 => St1 m2 b 2 (.bool z) K := by
  refine St1.to #[.slice a l c, x1, x2] h (by simp) rfl (by simp) ?_
  refine St1.to #[.slice a l c, .slice a' l' c', x2] (set_same _ _ _) (by simp) rfl (by simp) ?_
  rw [set_set]
  refine St1.to #[.slice a l c, .slice a' l' c', .bool z] (set_same _ _ _) (by simp) rfl (by simp) ?_
  rw [set_set]
  exact q
theorem get3 {m : Mem} {b : Nat} {a : Option Addr} {l c : Nat} {a' : Option Addr} {l' c' : Nat} {z : Bool} {e : TypeId} {fr : Nat × Nat} {K : Option Addr → Nat → Nat → Option Addr → Nat → Nat → Bool → Prop} (h : m b = some (.cells (pO a l c a' l' c' z) e fr)) (q : K a l c a' l' c' z) :
    LdV m b 0 fun v => UnS v fun xa xl xc => LdV m b 1 fun v => UnS v fun ya yl yc => LdV m b 2 fun v => UnB v fun w => K xa xl xc ya yl yc w := LdV.s0 h (LdV.s1 h (LdV.s2 h q))
theorem ret3 {m : Mem} {b : Nat} {x0 x1 x2 : Value} {a : Option Addr} {l c : Nat} {a' : Option Addr} {l' c' : Nat} {z : Bool} {e : TypeId} {R : Ending → Mem → Prop} (h : m b = some (.cells #[x0, x1, x2] e (0, 0)))
    (q : R (.returned (.agg #[.slice a l c, .slice a' l' c', .bool z])) (m.set b (.cells (pO a l c a' l' c' z) e (0, 0)))) :
    St1 m b 0 (.slice a l c) fun m1 => St1 m1 b 1 (.slice a' l' c') fun m2 => St1 m2 b 2 (.bool z) fun m3 => LdV m3 b 0 fun v => UnS v fun xa xl xc => LdV m3 b 1 fun v => UnS v fun ya yl yc => LdV m3 b 2 fun v => UnB v fun w =>
      R (.returned (.agg #[.slice xa xl xc, .slice ya yl yc, .bool w])) m3 := put3 h (get3 (set_same _ _ _) q)
theorem ContPt.mk {a : Option Addr} {l c : Nat} {a' : Option Addr} {l' c' : Nat} {z : Bool} {K : Option Addr → Nat → Nat → Option Addr → Nat → Nat → Bool → Mem → Prop} {Pn : List PanicEntry → Mem → Prop} {m : Mem} (h : K a l c a' l' c' z m) :
    Cont (fun v m => UnAgg v fun l => UnCons l fun v l => UnS v fun xa xl xc => UnCons l fun v l => UnS v fun ya yl yc => UnCons l fun v l => UnB v fun w => UnNil l (K xa xl xc ya yl yc w m)) Pn (.returned (.agg #[.slice a l c, .slice a' l' c', .bool z])) m := h
/-- A block of the walk's own. -/
structure Loc (F : Nat → Prop) (m V : Mem) (b : Nat) (o : Obj) : Prop where
  at_ : m b = some o
  hid : V b = none
  out : ¬ F b
section
variable {F F' : Nat → Prop} {m V m' V' : Mem} {b : Nat} {o : Obj}
theorem Loc.go (h : Loc F m V b o) (g : Gone F m V F' m' V') : Loc F' m' V' b o := by
  obtain ⟨h1, h2, h3⟩ := g.keep h.at_ h.out h.hid
  exact ⟨h1, h3, h2⟩
theorem Loc.other (h : Loc F m V b o) {x : Nat} {ox : Obj} (hx : x ≠ b) : Loc F (m.set x ox) V b o := ⟨by rw [set_other _ _ (Ne.symm hx)]; exact h.at_, h.hid, h.out⟩
theorem Loc.put (h : Loc F m V b o) (o' : Obj) : Loc F (m.set b o') V b o' := ⟨set_same _ _ _, h.hid, h.out⟩
theorem Gone.locw (h : Gone F m V F' m' V') {x : Nat} (hx : m x = none) (o : Obj) : Gone F m V F' (m'.set x o) V' :=
  ⟨⟨fun b o' hb hn => by
      have : b ≠ x := by rintro rfl; rw [hx] at hb; cases hb
      rw [set_other _ _ this]; exact h.chg.eq b o' hb hn, fun b hb => by
      unfold Mem.set
      split
      · simp
      · exact h.chg.live b hb⟩, h.ft, h.le, h.hid⟩
end
section
variable {T : TypeId} {m V : Mem} {pb : Nat} {st : Sta} {sa : Option Addr} {sc : Nat} {fa : Option Addr} {fc : Nat} {fv : List Value}
theorem PSt.put (h : PSt T m V pb st sa sc fa fc fv) {b : Nat} {o : Obj} (hl : Loc (Ft pb sa fa) m V b o) (o' : Obj) : PSt T (m.set b o') V pb st sa sc fa fc fv := h.loc (Chg.set m b o') hl.hid hl.out
/-- A new block of the walk's own. -/
theorem PSt.mine (h : PSt T m V pb st sa sc fa fc fv) {m' : Mem} (hle : Le m m') {b : Nat} {o : Obj} (hb : m b = none) (hb' : m' b = some o) : PSt T m' V pb st sa sc fa fc fv ∧ Gone (Ft pb sa fa) m V (Ft pb sa fa) m' V ∧ Loc (Ft pb sa fa) m' V b o := by
  obtain ⟨h1, h2⟩ := h.new hle
  refine ⟨h1, h2, hb', ?_, fun e => h.live e hb⟩
  cases e : V b with
  | none => rfl
  | some x => have := h.le b x e; rw [hb] at this; cases this
end
structure StB (n : Nat) (st : Sta) : Prop where
  num : st.sets.length = n
  len : st.fol.length = n
  bnd : Bnd n st.fol
theorem wk_bnd {r : Rx} (hf : form r = true) {st : Sta} {n : Nat} (h : StB n st) : StB (n + cnt r) (wk also r st).2 ∧ (Rz (wk also r st).1.fi ∧ ∀ x ∈ (wk also r st).1.fi, x < n + cnt r) ∧ (Rz (wk also r st).1.la ∧ ∀ x ∈ (wk also r st).1.la, x < n + cnt r) := by
  have hw := walk_ok (J := also) (fun a b x => also_mem) r hf st (by rw [h.len, h.num])
  obtain ⟨⟨g1, g2⟩, g3⟩ := walk_rz r st (fun l hl => (h.bnd l hl).1)
  obtain ⟨B1, B2, B3⟩ := bounds r st.sets.length
  have e := hw.fol_lt
  rw [h.num] at B1 B2 B3 e
  have hfi := hw.fi
  have hla := hw.la
  have hfo := hw.fo
  rw [h.num] at hfi hla hfo
  refine ⟨⟨by rw [← hw.len]; exact e, e, fun l hl => ⟨g3 l hl, fun x hx => ?_⟩⟩, ⟨g1, fun x hx => (B1 x ((hfi x).mp hx)).2⟩, ⟨g2, fun x hx => (B2 x ((hla x).mp hx)).2⟩⟩
  obtain ⟨i, hi, rfl⟩ := List.getElem_of_mem hl
  have := (hfo i x).mp (by rw [List.getD_eq_getElem?_getD, List.getElem?_eq_getElem hi]; exact hx)
  rcases this with h' | h'
  · have := (h.bnd.get i).2 x h'; omega
  · exact (B3 _ _ h').2.2
theorem StB.lk {n : Nat} {st : Sta} (h : StB n st) {last first : List Nat} (hf : ∀ x ∈ first, x < n) : StB n ⟨st.sets, Pl.lk also st.fol last first⟩ := ⟨h.num, by show (Pl.lk also st.fol last first).length = n; rw [lk_len]; exact h.len, Bnd.lk hf _ _ h.bnd⟩
/-- A list that is well for n places. -/
def Ok (n : Nat) (l : List Nat) : Prop := Rz l ∧ ∀ x ∈ l, x < n
theorem Ok.nil (n : Nat) : Ok n [] := ⟨rz_nil, fun _ h => by cases h⟩
theorem Ok.mono {n n' : Nat} {l : List Nat} (h : Ok n l) (k : n ≤ n') : Ok n' l := ⟨h.1, fun x hx => Nat.lt_of_lt_of_le (h.2 x hx) k⟩
theorem Ok.also {n : Nat} {a b : List Nat} (h : Ok n a) (k : Ok n b) : Ok n (also a b) := ⟨also_rz _ _, fun x hx => (also_mem.mp hx).elim (h.2 x) (k.2 x)⟩
theorem Ok.len {n : Nat} {l : List Nat} (h : Ok n l) : l.length ≤ n := rz_short h.1 h.2
end Go.E.Pl
set_option linter.unusedVariables false
set_option linter.unusedSimpArgs false
set_option maxRecDepth 20000
namespace Go.E.Pl
open Go.H Go.E Go.E.Rg
attribute [local irreducible] BiN MkS ConvN LookN MapUpN CallV HC
/-- What a walk hands on. -/
def KW (T : TypeId) (F0 : Nat → Prop) (m0 V0 : Mem) (pb : Nat) (q : Part) (st' : Sta) (R : Ending → Mem → Prop) : Prop :=
  ∀ (m' V' : Mem) (sa : Option Addr) (sc : Nat) (fa : Option Addr) (fc : Nat) (fv : List Value) (a : Option Addr) (c : Nat) (a' : Option Addr) (c' : Nat), PSt T m' V' pb st' sa sc fa fc fv → Gone F0 m0 V0 (Ft pb sa fa) m' V' →
    CellsAt V' a (ints (ns q.fi)) → CellsAt V' a' (ints (ns q.la)) → R (.returned (.agg #[.slice a q.fi.length c, .slice a' q.la.length c', .bool q.nu])) m'
def WalkS (r : Rx) : Prop := ∀ {m V : Mem} {pb : Nat} {st : Sta} {sa : Option Addr} {sc : Nat} {fa : Option Addr} {fc : Nat} {fv : List Value} {n : Nat} {v : Value} {R : Ending → Mem → Prop},
  PSt T_place_Places m V pb st sa sc fa fc fv → StB n st → n + cnt r ≤ 10000 → ArgC V r v → KW T_place_Places (Ft pb sa fa) m V pb (wk also r st).1 (wk also r st).2 R →
    HC P place_Places_walk.id #[.pointer (some ⟨pb, 0, none⟩), rxA r.k r.S v] m R
section
variable {T : TypeId} {m0 V0 m V : Mem} {F0 : Nat → Prop} {pb : Nat} {st : Sta} {sa : Option Addr} {sc : Nat} {fa : Option Addr} {fc : Nat} {fv : List Value} {n : Nat}
structure StN (n : Nat) (st : Sta) : Prop where
  num : st.sets.length = n
  len : st.fol.length = n
theorem StB.toN {n : Nat} {st : Sta} (h : StB n st) : StN n st := ⟨h.num, h.len⟩
/-- Both rows have grown by one. -/
theorem PSt.grow (h : PSt T m V pb st sa sc fa fc fv) (hB : StN n st) {S : Nat → Bool} {m10 : Mem} (hch : Chg (fun b => blk sa = some b ∨ blk fa = some b) m m10) {sa' : Option Addr} {sc' : Nat} {fa' : Option Addr} {fc' : Nat}
    (hos : Own m10 T_api_Set 4 sa' (n + 1) sc' (st.sets.flatMap four ++ four S)) (hof : Own m10 T_sl_int 1 fa' (n + 1) fc' (fv ++ [.slice none 0 0])) (hsa : blk sa' = blk sa ∨ Fresh m sa') (hfa : blk fa' = blk fa ∨ Fresh m fa') (hsf : ∀ b, blk sa' = some b → blk fa' ≠ some b) {K : Mem → Prop}
    (k : ∀ m', PSt T m' V pb ⟨st.sets ++ [S], st.fol ++ [[]]⟩ sa' sc' fa' fc' (fv ++ [.slice none 0 0]) → Gone (Ft pb sa fa) m V (Ft pb sa' fa') m' V → K m') :
    St1 m10 pb 0 (.slice sa' (n + 1) sc') fun m11 => St1 m11 pb (0 + 3) (.slice fa' (n + 1) fc') K := by
  have hobj := hch.eq _ _ h.obj (fun e => by rcases e with e | e; exact h.s1 e; exact h.f1 e)
  have hmp : m pb ≠ none := by rw [h.obj]; simp
  have s1 : blk sa' ≠ some pb := fun e => by
    rcases hsa with e2 | e2
    · rw [e2] at e; exact h.s1 e
    · exact hmp (e2 pb e)
  have f1 : blk fa' ≠ some pb := fun e => by
    rcases hfa with e2 | e2
    · rw [e2] at e; exact h.f1 e
    · exact hmp (e2 pb e)
  have hft : ∀ b, Ft pb sa' fa' b → Ft pb sa fa b ∨ m b = none := by
    rintro b (rfl | e | e)
    · exact .inl (.inl rfl)
    · rcases hsa with e2 | e2
      · exact .inl (.inr (.inl (by rw [← e2]; exact e)))
      · exact .inr (e2 b e)
    · rcases hfa with e2 | e2
      · exact .inl (.inr (.inr (by rw [← e2]; exact e)))
      · exact .inr (e2 b e)
  refine St1.to #[.slice sa' (n + 1) sc', .slice none 0 0, .slice none 0 0, .slice fa st.fol.length fc, .bool false] hobj (by simp) rfl (by simp) ?_
  refine St1.to #[.slice sa' (n + 1) sc', .slice none 0 0, .slice none 0 0, .slice fa' (n + 1) fc', .bool false] (set_same _ _ _) (by simp) rfl (by simp) ?_
  rw [set_set]
  have hc2 := Chg.set m10 pb (.cells #[.slice sa' (n + 1) sc', .slice none 0 0, .slice none 0 0, .slice fa' (n + 1) fc', .bool false] T (0, 0))
  have hkeep : ∀ b o, m b = some o → ¬ Ft pb sa fa b → (m10.set pb (.cells #[.slice sa' (n + 1) sc', .slice none 0 0, .slice none 0 0, .slice fa' (n + 1) fc', .bool false] T (0, 0))) b = some o := by
    intro b o hb hn
    rw [set_other _ _ (fun e => hn (.inl e))]
    exact hch.eq b o hb (fun e => by rcases e with e | e; exact hn (.inr (.inl e)); exact hn (.inr (.inr e)))
  have hVn : ∀ b, m b = none → V b = none := fun b hb => by
    cases e : V b with
    | none => rfl
    | some x => have := h.le b x e; rw [hb] at this; cases this
  have l1 : (st.sets ++ [S]).length = n + 1 := by rw [List.length_append, hB.num]; rfl
  have l2 : (st.fol ++ [[]]).length = n + 1 := by rw [List.length_append, hB.len]; rfl
  refine k _ ⟨fun b o hb => hkeep b o (h.le b o hb) (fun e => by rw [h.nV b e] at hb; cases hb), ?_, ?_, ?_, ?_, fun b hb => ?_, s1, f1, hsf⟩ ⟨⟨hkeep, fun b hb => hc2.live b (hch.live b hb)⟩, hft, Le.refl _, fun _ _ e => e⟩
  · show _ = some (Obj.cells #[.slice sa' (st.sets ++ [S]).length sc', .slice none 0 0, .slice none 0 0, .slice fa' (st.fol ++ [[]]).length fc', .bool false] T (0, 0))
    rw [l1, l2, set_same]
  · show Own _ T_api_Set 4 sa' (st.sets ++ [S]).length sc' ((st.sets ++ [S]).flatMap four)
    rw [l1, List.flatMap_append, show [S].flatMap four = four S by simp]
    exact hos.chg hc2 (fun b hb e => s1 (by rw [hb, show b = pb from e]))
  · show Own _ T_sl_int 1 fa' (st.fol ++ [[]]).length fc' _
    rw [l2]
    exact hof.chg hc2 (fun b hb e => f1 (by rw [hb, show b = pb from e]))
  · refine ⟨by show (fv ++ _).length = (st.fol ++ [[]]).length; rw [List.length_append, List.length_append, h.rows.1]; rfl, fun i l hi => ?_⟩
    have hi : (st.fol ++ [[]])[i]? = some l := hi
    by_cases e : i < st.fol.length
    · rw [List.getElem?_append_left e] at hi
      obtain ⟨a, c, g1, g2⟩ := h.rows.2 i l hi
      exact ⟨a, c, by rw [List.getElem?_append_left (by rw [h.rows.1]; exact e)]; exact g1, g2⟩
    · rw [List.getElem?_append_right (by omega)] at hi
      have e2 : i - st.fol.length = 0 := by
        cases e3 : i - st.fol.length with
        | zero => rfl
        | succ x => rw [e3] at hi; cases hi
      rw [e2] at hi
      cases hi
      refine ⟨none, 0, ?_, CellsAt.empty _ _⟩
      rw [List.getElem?_append_right (by rw [h.rows.1]; omega), h.rows.1, e2]; rfl
  · rcases hft b hb with e | e
    · exact h.nV b e
    · exact hVn b e
/-- The end of one set. -/
theorem leaf_k1 (h : PSt T_place_Places m V pb st sa sc fa fc fv) (g0 : Gone F0 m0 V0 (Ft pb sa fa) m V) {b4 : Nat} {x0 x1 x2 : Value} (n4 : m0 b4 = none) (h4 : Loc (Ft pb sa fa) m V b4 (.cells #[x0, x1, x2] T_place_part (0, 0))) {R : Ending → Mem → Prop}
    (k : KW T_place_Places F0 m0 V0 pb ⟨[n], [n], false⟩ st R) : place_Places_walk.k1 b4 0 ((n : Nat) : Int) R m := by
  unfold place_Places_walk.k1
  intro b45 hb45 b47 hb47
  have hne : b47 ≠ b45 := by rintro rfl; rw [set_same] at hb47; cases hb47
  have hb47' : m b47 = none := by rw [set_other _ _ hne] at hb47; exact hb47
  have hle : Le m ((m.set b45 (.cells #[.int .i64 (n : Int)] T_int (0, 0))).set b47 (.cells #[.int .i64 (n : Int)] T_int (0, 0))) := (Le.set hb45 _).trans (Le.set hb47 _)
  have c45 : CellsAt ((m.set b45 (.cells #[.int .i64 (n : Int)] T_int (0, 0))).set b47 (.cells #[.int .i64 (n : Int)] T_int (0, 0))) (some ⟨b45, 0, none⟩) (ints (ns [n])) := cells_at ((set_other _ _ hne.symm).trans (set_same _ _ _)) rfl
  have c47 : CellsAt ((m.set b45 (.cells #[.int .i64 (n : Int)] T_int (0, 0))).set b47 (.cells #[.int .i64 (n : Int)] T_int (0, 0))) (some ⟨b47, 0, none⟩) (ints (ns [n])) := cells_at (set_same _ _ _) rfl
  generalize (m.set b45 (.cells #[.int .i64 (n : Int)] T_int (0, 0))).set b47 (.cells #[.int .i64 (n : Int)] T_int (0, 0)) = m2 at hle c45 c47 ⊢
  obtain ⟨h2, g2⟩ := h.see hle
  have h42 := h4.go g2
  refine ret3 h42.at_ ?_
  exact k _ _ sa sc fa fc fv (some ⟨b45, 0, none⟩) 1 (some ⟨b47, 0, none⟩) 1 (h2.put h42 _) ((g0.trans g2).locw n4 _) (CellsAt.see c45 (fun b e => by cases e; exact hb45)) (CellsAt.see c47 (fun b e => by cases e; exact hb47'))
end
end Go.E.Pl
set_option linter.unusedVariables false
set_option linter.unusedSimpArgs false
set_option maxRecDepth 20000
namespace Go.E.Pl
open Go.H Go.E Go.E.Rg
attribute [local irreducible] BiN MkS ConvN LookN MapUpN CallV HC
theorem lk_same {r m' : Mem} {K : Mem → Prop} (h : Le r m') (k : K r) : Lk r m' K := ⟨r, Le.refl _, h, k⟩
section
variable {T : TypeId} {m V : Mem} {pb : Nat} {st : Sta} {sa : Option Addr} {sc : Nat} {fa : Option Addr} {fc : Nat} {fv : List Value} {n : Nat} {S : Nat → Bool}
theorem app1 (h : PSt T m V pb st sa sc fa fc fv) (hB : StN n st) (hn : n ≤ 10000) {M1 : Mem} (hle : Le m M1) {b32 : Nat} {t : TypeId} {fr : Nat × Nat} (c32 : M1 b32 = some (.cells (four S).toArray t fr)) {ty : TypeId} {cs : Array Bool} {K : Value → Mem → Prop} {Pn : List PanicEntry → Mem → Prop}
    (k : ∀ sa' sc' m', Chg (fun b => blk sa = some b) M1 m' → Own m' T_api_Set 4 sa' (n + 1) sc' (st.sets.flatMap four ++ four S) → (blk sa' = blk sa ∨ Fresh M1 sa') → K (.slice sa' (n + 1) sc') m') :
    BiN P .append #[T_sl_api_Set, T_sl_api_Set] ty cs #[.slice sa st.sets.length sc, .slice (some ⟨b32, 0, none⟩) 1 1] M1 K Pn := by
  have ho := h.os
  rw [hB.num] at ho ⊢
  refine append_own eSet (Own.le hle ho) (news := four S) (cells_at c32 rfl) rfl (by intro v hv; unfold four at hv; simp only [List.mem_cons, List.not_mem_nil, or_false] at hv; rcases hv with rfl | rfl | rfl | rfl <;> rfl) (by decide) (by omega) (by omega) ?_
  intro a' c' m' ho' hg
  exact k a' c' m' hg.1 ho' hg.2
theorem app2 (h : PSt T m V pb st sa sc fa fc fv) (hB : StN n st) (hn : n ≤ 10000) {M1 m' M2 : Mem} (hle : Le m M1) {sa' : Option Addr} {sc' : Nat} (hch : Chg (fun b => blk sa = some b) M1 m') (hos : Own m' T_api_Set 4 sa' (n + 1) sc' (st.sets.flatMap four ++ four S)) (hsa : blk sa' = blk sa ∨ Fresh M1 sa')
    (hle2 : Le m' M2) {b38 : Nat} {t : TypeId} {fr : Nat × Nat} (c38 : M2 b38 = some (.cells #[.slice none 0 0] t fr)) {ty : TypeId} {cs : Array Bool} {K : Value → Mem → Prop} {Pn : List PanicEntry → Mem → Prop}
    (k : ∀ fa' fc' m10, Chg (fun b => blk sa = some b ∨ blk fa = some b) m m10 → Own m10 T_api_Set 4 sa' (n + 1) sc' (st.sets.flatMap four ++ four S) → Own m10 T_sl_int 1 fa' (n + 1) fc' (fv ++ [.slice none 0 0]) → (blk sa' = blk sa ∨ Fresh m sa') → (blk fa' = blk fa ∨ Fresh m fa') → (∀ b, blk sa' = some b → blk fa' ≠ some b) → K (.slice fa' (n + 1) fc') m10) :
    BiN P .append #[T_sl_sl_int, T_sl_sl_int] ty cs #[.slice fa st.fol.length fc, .slice (some ⟨b38, 0, none⟩) 1 1] M2 K Pn := by
  have ho := h.of
  rw [hB.len] at ho ⊢
  have hof : Own M2 T_sl_int 1 fa n fc fv := Own.le hle2 ((Own.le hle ho).chg hch (fun b hb e => h.sf b e hb))
  refine append_own eSI hof (news := [.slice none 0 0]) (cells_at c38 rfl) rfl (by intro v hv; simp at hv; subst hv; rfl) (by decide) (by omega) (by omega) ?_
  intro fa' fc' m10 ho' hg
  have hcm : Chg (fun b => blk sa = some b) m m' := (hle.chg _).trans hch (fun _ _ e => e)
  have hap : ∀ b, blk sa' = some b → blk fa ≠ some b := by
    intro b hb e
    rcases hsa with e2 | e2
    · rw [e2] at hb; exact h.sf b hb e
    · exact hle.live (h.of.live b e) (e2 b hb)
  refine k fa' fc' m10 ?_ ((Own.le hle2 hos).chg hg.1 (fun b hb e => hap b hb e)) ho' (hsa.imp id (Fresh.le hle)) ?_ (fun b hb e => ?_)
  · refine ⟨fun b o hb hn => ?_, fun b hb => hg.1.live b (hle2.live (hcm.live b hb))⟩
    exact hg.1.eq b o (hle2 b o (hcm.eq b o hb (fun e => hn (.inl e)))) (fun e => hn (.inr e))
  · rcases hg.2 with e | e
    · exact .inl e
    · refine .inr (fun b hb => ?_)
      have := e b hb
      cases e2 : m b with
      | none => rfl
      | some o => exact absurd this (hle2.live (hcm.live b (by rw [e2]; simp)))
  · rcases hg.2 with e2 | e2
    · rw [e2] at e; exact hap b hb e
    · exact (Own.le hle2 hos).live b hb (e2 b e)
end
theorem walk_leaf {S : Nat → Bool} : WalkS (.mk 1 S []) := by
  intro m V pb st sa sc fa fc fv n v R h hB hn ha k
  have hn : n ≤ 10000 := by omega
  obtain ⟨prs, a, c, hps, rfl, hl, hb, hc, hp⟩ := ha.inv
  have e : wk also (.mk 1 S []) st = (⟨[n], [n], false⟩, ⟨st.sets ++ [S], st.fol ++ [[]]⟩) := by unfold wk; rw [if_pos rfl, hB.num]
  rw [e] at k
  show HC P place_Places_walk.id #[.pointer (some ⟨pb, 0, none⟩), rxA 1 S (.slice a prs.length c)] m R
  refine place_Places_walk.ok _ _ _ _ _ _ _ _ _ _ _ ?_
  refine newRx ?_
  intro b3 m1 hb3 hle1 h3
  obtain ⟨p1, g1, l3⟩ := h.mine hle1 hb3 h3
  intro b4 hb4
  obtain ⟨p2, g2, l4⟩ := p1.mine (Le.set hb4 (.cells #[.slice none 0 0, .slice none 0 0, .bool false] T_place_part (0, 0))) hb4 (set_same _ _ _)
  have l32 := l3.go g2
  generalize m1.set b4 (.cells #[.slice none 0 0, .slice none 0 0, .bool false] T_place_part (0, 0)) = m2 at p2 g2 l4 l32 ⊢
  have g02 := g1.trans g2
  have n4 : m b4 = none := hle1.new hb4
  refine LdV.s0 l32.at_ (UnI.mk ?_)
  refine BrEt rfl ?_
  show LdV m2 pb 0 _
  refine LdV.s0 p2.obj (UnS.mk ?_)
  have hr : Le (on m2 fun b => ¬ (blk sa = some b ∨ blk fa = some b)) m2 := on_le _ _
  have hrp : (on m2 fun b => ¬ (blk sa = some b ∨ blk fa = some b)) pb = _ := (on_in (fun e => by rcases e with e | e; exact p2.s1 e; exact p2.f1 e)).trans p2.obj
  have hr3 : (on m2 fun b => ¬ (blk sa = some b ∨ blk fa = some b)) b3 = _ := (on_in (fun e => l32.out (.inr e))).trans l32.at_
  have hrc : ∀ {m' : Mem}, Chg (fun b => blk sa = some b ∨ blk fa = some b) m2 m' → Le (on m2 fun b => ¬ (blk sa = some b ∨ blk fa = some b)) m' := by
    intro m' hch b o hbo
    obtain ⟨h1, h2⟩ := on_live hbo
    exact hch.eq b o h2 h1
  refine ⟨_, hr, ?_⟩
  generalize (on m2 fun b => ¬ (blk sa = some b ∨ blk fa = some b)) = r at hr hrp hr3 hrc ⊢
  show LdV r pb 0 _
  refine LdV.s0 hrp (UnS.mk ?_)
  refine LdV.s1 hr3 (UnI.mk (LdV.s2 hr3 (UnI.mk (LdV.s3 hr3 (UnI.mk (LdV.s4 hr3 (UnI.mk ?_)))))))
  show LdV r pb (0 + 3) _
  refine LdV.s3 hrp (UnS.mk ?_)
  -- the end
  have fin : ∀ {m10 : Mem} {sa' : Option Addr} {sc' : Nat} {fa' : Option Addr} {fc' : Nat}, Chg (fun b => blk sa = some b ∨ blk fa = some b) m2 m10 → Own m10 T_api_Set 4 sa' (n + 1) sc' (st.sets.flatMap four ++ four S) → Own m10 T_sl_int 1 fa' (n + 1) fc' (fv ++ [.slice none 0 0]) → (blk sa' = blk sa ∨ Fresh m2 sa') → (blk fa' = blk fa ∨ Fresh m2 fa') → (∀ b, blk sa' = some b → blk fa' ≠ some b) →
      St1 m10 pb 0 (.slice sa' (n + 1) sc') fun m11 => St1 m11 pb (0 + 3) (.slice fa' (n + 1) fc') fun m12 => place_Places_walk.k1 b4 0 ((st.sets.length : Nat) : Int) R m12 := by
    intro m10 sa' sc' fa' fc' h1 h2 h3 h4 h5 h6
    refine p2.grow hB.toN h1 h2 h3 h4 h5 h6 ?_
    intro m' hp' hg'
    rw [hB.num]
    exact leaf_k1 hp' (g02.trans hg') n4 (l4.go hg') k
  have chS : ∀ {M1 m' : Mem}, Le m2 M1 → Chg (fun b => blk sa = some b) M1 m' → Chg (fun b => blk sa = some b ∨ blk fa = some b) m2 m' := fun h1 h2 => ((h1.chg _).trans h2 (fun _ _ e => e)).mono (fun _ e => .inl e)
  refine ⟨?_, ?_⟩
  · intro b32 hb32
    refine lk_same (hr.trans (Le.set hb32 _)) ?_
    refine ⟨?_, ?_⟩
    · refine app1 p2 hB.toN hn (Le.set hb32 _) (set_same _ _ _) ?_
      intro sa' sc' m6 hch hos hsa
      refine UnS.mk ?_
      have hm6 := hrc (chS (Le.set hb32 _) hch)
      refine lk_same hm6 ?_
      intro b38 hb38
      refine lk_same (hm6.trans (Le.set hb38 _)) ?_
      refine app2 p2 hB.toN hn (Le.set hb32 _) hch hos hsa (Le.set hb38 _) (set_same _ _ _) ?_
      intro fa' fc' m10 q1 q2 q3 q4 q5 q6
      refine UnS.mk ?_
      exact fin q1 q2 q3 q4 q5 q6
    · intro b38 hb38
      have hle := (Le.set hb32 (.cells #[.int .u64 (L S 0), .int .u64 (L S 1), .int .u64 (L S 2), .int .u64 (L S 3)] T_api_Set (0, 0))).trans (Le.set hb38 (.cells #[.slice none 0 0] T_sl_int (0, 0)))
      refine lk_same (hr.trans hle) ?_
      have hne : b32 ≠ b38 := by rintro rfl; rw [set_same] at hb38; cases hb38
      have w38 : m2 b38 = none := by rw [set_other _ _ (Ne.symm hne)] at hb38; exact hb38
      refine app1 p2 hB.toN hn hle ((set_other _ _ hne).trans (set_same _ _ _)) ?_
      intro sa' sc' m6 hch hos hsa
      refine UnS.mk ?_
      refine lk_same (hrc (chS hle hch)) ?_
      refine app2 p2 hB.toN hn hle hch hos hsa (Le.refl _) (hch.eq _ _ (set_same _ _ _) (fun e => p2.os.live b38 e w38)) ?_
      intro fa' fc' m10 q1 q2 q3 q4 q5 q6
      refine UnS.mk ?_
      exact fin q1 q2 q3 q4 q5 q6
  · intro b38 hb38
    refine lk_same (hr.trans (Le.set hb38 _)) ?_
    intro b32 hb32
    have hle := (Le.set hb38 (.cells #[.slice none 0 0] T_sl_int (0, 0))).trans (Le.set hb32 (.cells #[.int .u64 (L S 0), .int .u64 (L S 1), .int .u64 (L S 2), .int .u64 (L S 3)] T_api_Set (0, 0)))
    refine lk_same (hr.trans hle) ?_
    have hne : b38 ≠ b32 := by rintro rfl; rw [set_same] at hb32; cases hb32
    refine app1 p2 hB.toN hn hle (set_same _ _ _) ?_
    intro sa' sc' m6 hch hos hsa
    refine UnS.mk ?_
    refine lk_same (hrc (chS hle hch)) ?_
    refine app2 p2 hB.toN hn hle hch hos hsa (Le.refl _) (hch.eq _ _ ((set_other _ _ hne).trans (set_same _ _ _)) (fun e => p2.os.live b38 e hb38)) ?_
    intro fa' fc' m10 q1 q2 q3 q4 q5 q6
    refine UnS.mk ?_
    exact fin q1 q2 q3 q4 q5 q6
end Go.E.Pl
set_option linter.unusedVariables false
set_option linter.unusedSimpArgs false
set_option maxRecDepth 20000
namespace Go.E.Pl
open Go.H Go.E Go.E.Rg
attribute [local irreducible] BiN MkS ConvN LookN MapUpN CallV HC
theorem copyPt {m : Mem} {x0 x1 x2 : Value} {a : Option Addr} {l c : Nat} {a' : Option Addr} {l' c' : Nat} {z : Bool} {T : TypeId} {K : Nat → Mem → Prop} (h : ∀ b m1, m b = none → Le m m1 → m1 b = some (.cells (pO a l c a' l' c' z) T (0, 0)) → K b m1) :
    NewC m #[x0, x1, x2] T fun b m1 => St1 m1 b 0 (.slice a l c) fun m2 => St1 m2 b 1 (.slice a' l' c') fun m3 => St1 m3 b 2 (.bool z) fun m4 => K b m4 := by
  intro b hb
  refine put3 (set_same _ _ _) ?_
  rw [set_set]
  exact h b _ hb (Le.set hb _) (set_same _ _ _)
abbrev zP : Array Value := #[.slice none 0 0, .slice none 0 0, .bool false]
/-- A walk under way: what is told of the parts so far lies in block b6. -/
structure Rnd (F0 : Nat → Prop) (m0 V0 : Mem) (pb b4 b6 : Nat) (m V : Mem) (st : Sta) (n : Nat) (fi la : List Nat) (nu : Bool) (sa : Option Addr) (sc : Nat) (fa : Option Addr) (fc : Nat) (fv : List Value) (oa : Option Addr) (oc : Nat) (ol : Option Addr) (olc : Nat) : Prop where
  p : PSt T_place_Places m V pb st sa sc fa fc fv
  g : Gone F0 m0 V0 (Ft pb sa fa) m V
  b : StB n st
  n4 : m0 b4 = none
  n6 : m0 b6 = none
  l4 : Loc (Ft pb sa fa) m V b4 (.cells zP T_place_part (0, 0))
  l6 : Loc (Ft pb sa fa) m V b6 (.cells (pO oa fi.length oc ol la.length olc nu) T_place_part (0, 0))
  ne : b6 ≠ b4
  cf : CellsAt V oa (ints (ns fi))
  cl : CellsAt V ol (ints (ns la))
  kf : Ok n fi
  kl : Ok n la
section
variable {F0 : Nat → Prop} {m0 V0 : Mem} {pb b4 b6 : Nat} {m V m' V' : Mem} {st st' : Sta} {n n' : Nat} {fi la : List Nat} {nu : Bool} {sa sa' : Option Addr} {sc sc' : Nat} {fa fa' : Option Addr} {fc fc' : Nat} {fv fv' : List Value} {oa : Option Addr} {oc : Nat} {ol : Option Addr} {olc : Nat}
theorem Rnd.go (h : Rnd F0 m0 V0 pb b4 b6 m V st n fi la nu sa sc fa fc fv oa oc ol olc) (p : PSt T_place_Places m' V' pb st' sa' sc' fa' fc' fv') (g : Gone (Ft pb sa fa) m V (Ft pb sa' fa') m' V') (hb : StB n' st') (hn : n ≤ n') :
    Rnd F0 m0 V0 pb b4 b6 m' V' st' n' fi la nu sa' sc' fa' fc' fv' oa oc ol olc :=
  ⟨p, h.g.trans g, hb, h.n4, h.n6, h.l4.go g, h.l6.go g, h.ne, h.cf.le g.le, h.cl.le g.le, h.kf.mono hn, h.kl.mono hn⟩
theorem Rnd.put (h : Rnd F0 m0 V0 pb b4 b6 m V st n fi la nu sa sc fa fc fv oa oc ol olc) {fi' la' : List Nat} {nu' : Bool} {oa' : Option Addr} {oc' : Nat} {ol' : Option Addr} {olc' : Nat} (cf : CellsAt V oa' (ints (ns fi'))) (cl : CellsAt V ol' (ints (ns la'))) (kf : Ok n fi') (kl : Ok n la') :
    Rnd F0 m0 V0 pb b4 b6 (m.set b6 (.cells (pO oa' fi'.length oc' ol' la'.length olc' nu') T_place_part (0, 0))) V st n fi' la' nu' sa sc fa fc fv oa' oc' ol' olc' :=
  ⟨h.p.put h.l6 _, h.g.locw h.n6 _, h.b, h.n4, h.n6, h.l4.other h.ne, h.l6.put _, h.ne, cf, cl, kf, kl⟩
/-- The end of the loop. -/
theorem Rnd.end_ (h : Rnd F0 m0 V0 pb b4 b6 m V st n fi la nu sa sc fa fc fv oa oc ol olc) {R : Ending → Mem → Prop} (k : KW T_place_Places F0 m0 V0 pb ⟨fi, la, nu⟩ st R) :
    LdV m b6 0 fun v => UnS v fun x0a x0l x0c => LdV m b6 (0 + 1) fun v => UnS v fun x1a x1l x1c => LdV m b6 (0 + 2) fun v => UnB v fun x2 =>
    St1 m b4 0 (.slice x0a x0l x0c) fun m1 => St1 m1 b4 (0 + 1) (.slice x1a x1l x1c) fun m2 => St1 m2 b4 (0 + 2) (.bool x2) fun m3 =>
    LdV m3 b4 0 fun v => UnS v fun res0_0a res0_0l res0_0c => LdV m3 b4 (0 + 1) fun v => UnS v fun res0_1a res0_1l res0_1c => LdV m3 b4 (0 + 2) fun v => UnB v fun res0_2 =>
    R (.returned (.agg #[.slice res0_0a res0_0l res0_0c, .slice res0_1a res0_1l res0_1c, .bool res0_2])) m3 := by
  refine get3 h.l6.at_ ?_
  refine ret3 h.l4.at_ ?_
  exact k _ _ sa sc fa fc fv oa oc ol olc (h.p.put h.l4 _) (h.g.locw h.n4 _) h.cf h.cl
end
section
variable {F0 : Nat → Prop} {m0 V0 : Mem} {pb b4 b6 b9 : Nat} {m V : Mem} {st : Sta} {n : Nat} {fi la : List Nat} {nu : Bool} {sa : Option Addr} {sc : Nat} {fa : Option Addr} {fc : Nat} {fv : List Value} {oa : Option Addr} {oc : Nat} {ol : Option Addr} {olc : Nat}
theorem Rnd.side (h : Rnd F0 m0 V0 pb b4 b6 m V st n fi la nu sa sc fa fc fv oa oc ol olc) {o : Obj} (l9 : Loc (Ft pb sa fa) m V b9 o) (n9 : m0 b9 = none) (h6 : b9 ≠ b6) (h4 : b9 ≠ b4) (o' : Obj) : Rnd F0 m0 V0 pb b4 b6 (m.set b9 o') V st n fi la nu sa sc fa fc fv oa oc ol olc :=
  ⟨h.p.put l9 _, h.g.locw n9 _, h.b, h.n4, h.n6, h.l4.other h4, h.l6.other h6, h.ne, h.cf, h.cl, h.kf, h.kl⟩
variable {q : Part} {qa : Option Addr} {qc : Nat} {qla : Option Addr} {qlc : Nat} {xa : Option Addr} {xl xc : Nat} {n1 i : Int} {R : Ending → Mem → Prop}
variable {K : Option Addr → Nat → Nat → Nat → Nat → Option Addr → Nat → Nat → Int → Int → Mem → Prop}
theorem cat_k4 {fi' la' : List Nat} (h : Rnd F0 m0 V0 pb b4 b6 m V st n fi' la nu sa sc fa fc fv oa oc ol olc) (h9 : m b9 = some (.cells (pO qa q.fi.length qc qla la'.length qlc q.nu) T_place_part (0, 0))) (hcl : CellsAt V qla (ints (ns la'))) (hkl : Ok n la')
    (hK : ∀ {m' V' : Mem} {sa : Option Addr} {sc : Nat} {fa : Option Addr} {fc : Nat} {fv : List Value} {oa : Option Addr} {oc : Nat} {ol : Option Addr} {olc : Nat}, Rnd F0 m0 V0 pb b4 b6 m' V' st n fi' la' (nu && q.nu) sa sc fa fc fv oa oc ol olc → K (some ⟨pb, 0, none⟩) b4 0 b6 0 xa xl xc n1 (IntKind.i64.wrap (i + 1)) m') :
    place_Places_walk.k4 K (some ⟨pb, 0, none⟩) b4 0 b6 0 b9 0 xa xl xc n1 i R m := by
  unfold place_Places_walk.k4
  refine LdV.s0 h.l6.at_ (UnS.mk ?_)
  refine LdV.s1 h9 (UnS.mk ?_)
  refine LdV.s2 h.l6.at_ (UnB.mk ?_)
  refine Br.mk (fun hz => ?_) (fun hz => ?_)
  · refine LdV.s2 h9 (UnB.mk ?_)
    refine put3 h.l6.at_ ?_
    have e : (nu && q.nu) = q.nu := by rw [hz]; rfl
    rw [e] at hK
    exact hK (h.put h.cf hcl h.kf hkl)
  · refine put3 h.l6.at_ ?_
    have e : (nu && q.nu) = false := by rw [hz]; rfl
    rw [e] at hK
    exact hK (h.put h.cf hcl h.kf hkl)
theorem cat_k3 (hn : n ≤ 10000) {fi' : List Nat} (h : Rnd F0 m0 V0 pb b4 b6 m V st n fi' la nu sa sc fa fc fv oa oc ol olc) (l9 : Loc (Ft pb sa fa) m V b9 (.cells (pO qa q.fi.length qc qla q.la.length qlc q.nu) T_place_part (0, 0))) (n9 : m0 b9 = none) (h6 : b9 ≠ b6) (h4 : b9 ≠ b4) (cql : CellsAt V qla (ints (ns q.la))) (kql : Ok n q.la)
    (hK : ∀ {m' V' : Mem} {sa : Option Addr} {sc : Nat} {fa : Option Addr} {fc : Nat} {fv : List Value} {oa : Option Addr} {oc : Nat} {ol : Option Addr} {olc : Nat}, Rnd F0 m0 V0 pb b4 b6 m' V' st n fi' (if q.nu = true then also la q.la else q.la) (nu && q.nu) sa sc fa fc fv oa oc ol olc → K (some ⟨pb, 0, none⟩) b4 0 b6 0 xa xl xc n1 (IntKind.i64.wrap (i + 1)) m') :
    place_Places_walk.k3 K (some ⟨pb, 0, none⟩) b4 0 b6 0 b9 0 xa xl xc n1 i R m := by
  unfold place_Places_walk.k3
  refine LdV.s2 l9.at_ (UnB.mk ?_)
  refine Br.mk (fun hz => ?_) (fun hz => ?_)
  · rw [if_pos hz] at hK
    refine LdV.s1 h.l6.at_ (UnS.mk ?_)
    refine LdV.s1 l9.at_ (UnS.mk ?_)
    have b1 := h.kl.len
    have b2 := kql.len
    refine also_spec (h.cl.le h.p.le) rfl (cql.le h.p.le) rfl (by omega) ?_
    intro m1 a' c' hle1 hc1 hf1
    dsimp only [Cont]
    refine UnS.mk ?_
    obtain ⟨p1, g1⟩ := h.p.see hle1
    have h1 := h.go p1 g1 h.b (Nat.le_refl _)
    have l91 := l9.go g1
    refine St1.to (pO qa q.fi.length qc a' (also la q.la).length c' q.nu) l91.at_ (by simp) rfl (by simp) ?_
    exact cat_k4 (la' := also la q.la) (h1.side l91 n9 h6 h4 _) (set_same _ _ _) (CellsAt.see hc1 hf1) (h.kl.also kql) hK
  · rw [if_neg (by rw [hz]; decide)] at hK
    exact cat_k4 h l9.at_ cql kql hK
theorem cat_mid (hn : n ≤ 10000) (h : Rnd F0 m0 V0 pb b4 b6 m V st n fi la nu sa sc fa fc fv oa oc ol olc) (l9 : Loc (Ft pb sa fa) m V b9 (.cells (pO qa q.fi.length qc qla q.la.length qlc q.nu) T_place_part (0, 0))) (n9 : m0 b9 = none) (h6 : b9 ≠ b6) (h4 : b9 ≠ b4) (cq : CellsAt V qa (ints (ns q.fi))) (kq : Ok n q.fi) (cql : CellsAt V qla (ints (ns q.la))) (kql : Ok n q.la)
    (hK : ∀ {m' V' : Mem} {sa : Option Addr} {sc : Nat} {fa : Option Addr} {fc : Nat} {fv : List Value} {oa : Option Addr} {oc : Nat} {ol : Option Addr} {olc : Nat}, Rnd F0 m0 V0 pb b4 b6 m' V' st n (if nu = true then also fi q.fi else fi) (if q.nu = true then also la q.la else q.la) (nu && q.nu) sa sc fa fc fv oa oc ol olc → K (some ⟨pb, 0, none⟩) b4 0 b6 0 xa xl xc n1 (IntKind.i64.wrap (i + 1)) m') :
    LdV m b6 (0 + 2) fun v => UnB v fun x69 => Br x69 (
        LdV m b6 0 fun v =>
        UnS v fun x71a x71l x71c =>
        LdV m b9 0 fun v =>
        UnS v fun x73a x73l x73c =>
        HC P place_also.id #[.slice x71a x71l x71c, .slice x73a x73l x73c] m (Cont (fun v m14 =>
        UnS v fun x74a x74l x74c =>
        St1 m14 b6 0 (.slice x74a x74l x74c) fun m15 =>
        place_Places_walk.k3 K (some ⟨pb, 0, none⟩) b4 0 b6 0 b9 0 xa xl xc n1 i R m15) (panicR R))) (
        place_Places_walk.k3 K (some ⟨pb, 0, none⟩) b4 0 b6 0 b9 0 xa xl xc n1 i R m) := by
  refine LdV.s2 h.l6.at_ (UnB.mk ?_)
  refine Br.mk (fun hz => ?_) (fun hz => ?_)
  · rw [if_pos hz] at hK
    refine LdV.s0 h.l6.at_ (UnS.mk ?_)
    refine LdV.s0 l9.at_ (UnS.mk ?_)
    have b1 := h.kf.len
    have b2 := kq.len
    refine also_spec (h.cf.le h.p.le) rfl (cq.le h.p.le) rfl (by omega) ?_
    intro m1 a' c' hle1 hc1 hf1
    dsimp only [Cont]
    refine UnS.mk ?_
    obtain ⟨p1, g1⟩ := h.p.see hle1
    have h1 := h.go p1 g1 h.b (Nat.le_refl _)
    have l91 := l9.go g1
    refine St1.to (pO a' (also fi q.fi).length c' ol la.length olc nu) h1.l6.at_ (by simp) rfl (by simp) ?_
    exact cat_k3 hn (fi' := also fi q.fi) (h1.put (CellsAt.see hc1 hf1) h1.cl (h.kf.also kq) h1.kl) (l91.other (Ne.symm h6)) n9 h6 h4 (cql.le g1.le) kql hK
  · rw [if_neg (by rw [hz]; decide)] at hK
    exact cat_k3 hn h l9 n9 h6 h4 cql kql hK
end
theorem walk_cat {S : Nat → Bool} {ps : List Rx} (ih : ∀ a ∈ ps, form a = true ∧ WalkS a) : WalkS (.mk 2 S ps) := by
  intro m V pb st sa sc fa fc fv n v R h hB hn ha k
  have hcnt : cnt (.mk 2 S ps) = cntL ps := by unfold cnt cntL; rw [setsOf, if_neg (by decide), if_pos (.inl rfl)]
  rw [hcnt] at hn
  obtain ⟨prs, a, c, rfl, rfl, hl, hb, hc, hp⟩ := ha.inv
  have ewk : wk also (.mk 2 S (prs.map (·.1))) st = wkC also (prs.map (·.1)) ⟨[], [], true⟩ st := by unfold wk; rw [if_neg (by decide), if_pos rfl]
  rw [ewk] at k
  show HC P place_Places_walk.id #[.pointer (some ⟨pb, 0, none⟩), rxA 2 S (.slice a prs.length c)] m R
  refine place_Places_walk.ok _ _ _ _ _ _ _ _ _ _ _ ?_
  refine newRx ?_
  intro b3 m1 hb3 hle1 h3
  obtain ⟨p1, g1, l3⟩ := h.mine hle1 hb3 h3
  intro b4 hb4
  obtain ⟨p2, g2, l4⟩ := p1.mine (Le.set hb4 (.cells zP T_place_part (0, 0))) hb4 (set_same _ _ _)
  have l32 := l3.go g2
  generalize m1.set b4 (.cells zP T_place_part (0, 0)) = m2 at p2 g2 l4 l32 ⊢
  have g02 := g1.trans g2
  have n4 : m b4 = none := hle1.new hb4
  refine LdV.s0 l32.at_ (UnI.mk ?_)
  refine BrEf (by decide) ?_
  refine BrEt rfl ?_
  refine copyPt ?_
  intro b6 m6 hb6 hle6 h6
  obtain ⟨p6, g6, l6⟩ := p2.mine hle6 hb6 h6
  have n6 : m b6 = none := g02.chg.new hb6
  refine LdV.s5 (l32.go g6).at_ (UnS.mk ?_)
  have hne64 : b6 ≠ b4 := by rintro rfl; rw [l4.at_] at hb6; cases hb6
  refine ⟨fun N p x4b x4o o6b o6o xa xl xc n1 i mm => p = some ⟨pb, 0, none⟩ ∧ x4b = b4 ∧ x4o = 0 ∧ o6b = b6 ∧ o6o = 0 ∧ xa = a ∧ xl = prs.length ∧ n1 = ((prs.length : Nat) : Int) ∧
      ∃ (j : Nat) (Vm : Mem) (stj : Sta) (nj : Nat) (fi la : List Nat) (nu : Bool) (sa' : Option Addr) (sc' : Nat) (fa' : Option Addr) (fc' : Nat) (fv' : List Value) (oa : Option Addr) (oc : Nat) (ol : Option Addr) (olc : Nat), i = (j : Int) ∧ j ≤ prs.length ∧ N = prs.length - j ∧
        Rnd (Ft pb sa fa) m V pb b4 b6 mm Vm stj nj fi la nu sa' sc' fa' fc' fv' oa oc ol olc ∧ nj + cntL ((prs.map (·.1)).drop j) ≤ 10000 ∧ wkC also ((prs.map (·.1)).drop j) ⟨fi, la, nu⟩ stj = wkC also (prs.map (·.1)) ⟨[], [], true⟩ st, prs.length,
    ⟨rfl, rfl, rfl, rfl, rfl, rfl, rfl, rfl, 0, V, st, n, [], [], true, sa, sc, fa, fc, fv, none, 0, none, 0, rfl, by omega, by omega, ⟨p6, g02.trans g6, hB, n4, n6, l4.go g6, l6, hne64, CellsAt.empty _ _, CellsAt.empty _ _, Ok.nil _, Ok.nil _⟩, by simpa using hn, by simp⟩, ?_⟩
  rintro N p x4b x4o o6b o6o xa xl xc n1 i mm ⟨rfl, rfl, rfl, rfl, rfl, rfl, rfl, rfl, j, Vm, stj, nj, fi, la, nu, sa', sc', fa', fc', fv', oa, oc, ol, olc, rfl, hj, rfl, hr, hnj, hwk⟩
  have hlen : (prs.map (·.1)).length = prs.length := List.length_map _
  unfold place_Places_walk.l2B
  refine BrD (fun hlt => ?_) (fun hge => ?_)
  · have hjl : j < prs.length := by omega
    have hpm := List.getElem_mem hjl
    obtain ⟨a', l', c', hv⟩ := (hp _ hpm).sl
    obtain ⟨hfj, hwj⟩ := ih prs[j].1 (List.mem_map.mpr ⟨_, hpm, rfl⟩)
    have hdrop : (prs.map (·.1)).drop j = prs[j].1 :: (prs.map (·.1)).drop (j + 1) := by
      rw [List.drop_eq_getElem_cons (by rw [hlen]; exact hjl), List.getElem_map]
    rw [hdrop, cntL_cons] at hnj
    rw [hdrop] at hwk
    have haj := hp _ hpm
    rw [hv] at haj
    refine IxS.rx6 ((hc.le hr.g.le).le hr.p.le) hjl hv ?_
    refine copyRx ?_
    intro b8 m7 hb8 hle7 h7
    obtain ⟨p7, g7, l8⟩ := hr.p.mine hle7 hb8 h7
    have hr7 := hr.go p7 g7 hr.b (Nat.le_refl _)
    refine get6 h7 ?_
    refine hwj p7 hr.b (by omega) (haj.le hr.g.le) ?_
    intro m8 V8 sa8 sc8 fa8 fc8 fv8 qa qc qla qlc p8 g8 cq cql
    obtain ⟨b8', ⟨hq1, hq2⟩, hq3, hq4⟩ := wk_bnd hfj hr.b
    have hr8 := hr7.go p8 g8 b8' (by omega)
    have kq : Ok (nj + cnt prs[j].1) (wk also prs[j].1 stj).1.fi := ⟨hq1, hq2⟩
    have kql : Ok (nj + cnt prs[j].1) (wk also prs[j].1 stj).1.la := ⟨hq3, hq4⟩
    have hwk2 : wkC also ((prs.map (·.1)).drop (j + 1)) (stepC also ⟨fi, la, nu⟩ (wk also prs[j].1 stj).1) ⟨(wk also prs[j].1 stj).2.sets, lk also (wk also prs[j].1 stj).2.fol la (wk also prs[j].1 stj).1.fi⟩ = wkC also (prs.map (·.1)) ⟨[], [], true⟩ st := hwk
    generalize (wk also prs[j].1 stj).1 = q at kq kql cq cql hwk2 ⊢
    generalize (wk also prs[j].1 stj).2 = st8 at p8 b8' hr8 hwk2
    have hn8 : nj + cnt prs[j].1 ≤ 10000 := by omega
    have hn9 : nj + cnt prs[j].1 + cntL ((prs.map (·.1)).drop (j + 1)) ≤ 10000 := by omega
    generalize nj + cnt prs[j].1 = n8 at kq kql b8' hr8 hn8 hn9
    refine ContPt.mk ?_
    refine copyPt ?_
    intro b9 m12 hb9 hle12 h12
    obtain ⟨p12, g12, l9⟩ := p8.mine hle12 hb9 h12
    have hr12 := hr8.go p12 g12 b8' (Nat.le_refl _)
    have n9 : m b9 = none := hr8.g.chg.new hb9
    have hne96 : b9 ≠ o6b := by rintro rfl; rw [hr8.l6.at_] at hb9; cases hb9
    have hne94 : b9 ≠ x4b := by rintro rfl; rw [hr8.l4.at_] at hb9; cases hb9
    refine LdV.s1 hr12.l6.at_ (UnS.mk ?_)
    refine LdV.s0 l9.at_ (UnS.mk ?_)
    refine links_spec p12 b8'.bnd hn8 hr12.cl (cq.le g12.le) (fun x hx => by rw [b8'.len]; exact hr12.kl.2 x hx) (by have := hr12.kl.len; omega) kq ?_
    intro m13 V13 fv13 p13 g13
    dsimp only [Cont]
    refine UnTup.mk (UnNil.mk ?_)
    have b13 : StB n8 ⟨st8.sets, lk also st8.fol la q.fi⟩ := b8'.lk kq.2
    have hr13 := hr12.go p13 g13 b13 (Nat.le_refl _)
    have l913 := l9.go g13
    have cq13 := (cq.le g12.le).le g13.le
    have cql13 := (cql.le g12.le).le g13.le
    refine cat_mid hn8 hr13 l913 n9 hne96 hne94 cq13 kq cql13 kql ?_
    intro m' V' sa5 sc5 fa5 fc5 fv5 oa5 oc5 ol5 olc5 h5
    refine ⟨prs.length - (j + 1), by omega, rfl, rfl, rfl, rfl, rfl, rfl, rfl, rfl, j + 1, V', _, n8, _, _, _, sa5, sc5, fa5, fc5, fv5, oa5, oc5, ol5, olc5, ?_, by omega, rfl, h5, hn9, hwk2⟩
    rw [wi (by omega) (by omega)]; omega
  · have e : (prs.map (·.1)).drop j = [] := List.drop_eq_nil_of_le (by omega)
    rw [e] at hwk
    rw [← hwk] at k
    exact hr.end_ k
end Go.E.Pl
