/- What a law's arguments are, told as cells of the map: for the frames. -/
import Derived.Test.YtjdkdeekniephaaH11
import Derived.ChangeArms
import Derived.OpenShut
import Derived.WideShapes
import Derived.DataElems
set_option linter.unusedVariables false
namespace Go.H
open Go.WideShapes

/-- An argument of type t, as the statement's frame tells it. -/
def Arg (P : Program) (W : World) (t : TypeId) (v : Value) : Prop :=
  ∃ (base : Nat) (H : Type) (enc : TypeId × Value → H) (d : DataW H) (p : List MemPlace), Value.okWide P W .any base t v ∧ DataW.Trod enc P W 0 (fun _ => true) true t v d p
/-- These cells can be read at type t. -/
def Rd (P : Program) (W : World) (t : TypeId) (cs : List Value) : Prop :=
  ∃ (H : Type) (enc : TypeId × Value → H) (fuel : Nat) (x : DataW H × List MemPlace), DataW.trod enc P W 0 (fun _ => true) true fuel t cs = some x
abbrev heapM (W : World) : Mem := fun b => W.heap[b]?

section
variable {P : Program} {W : World} {t : TypeId} {v : Value} {cs : List Value}
theorem Arg.rd (h : Arg P W t v) : Rd P W t v.cells.toList := by
  obtain ⟨base, H, enc, d, p, _, n, hn⟩ := h; exact ⟨H, enc, n, _, hn⟩
theorem Rd.bool (ht : P.underlying t = some .bool) (h : Rd P W t cs) : ∃ b, cs = [.bool b] := by
  obtain ⟨H, enc, n, x, h⟩ := h
  obtain ⟨b, h1, _⟩ := DataW.trod_bool ht h; exact ⟨b, h1⟩
theorem Rd.int {k : IntKind} (ht : P.underlying t = some (.int k)) (h : Rd P W t cs) : ∃ n, cs = [.int k n] ∧ (Lit.int k n).wf = true := by
  obtain ⟨H, enc, n, x, h⟩ := h
  obtain ⟨b, h1, _, h2⟩ := DataW.trod_int ht h; exact ⟨b, h1, h2⟩
theorem Rd.str (ht : P.underlying t = some .string) (h : Rd P W t cs) : ∃ s : ByteArray, cs = [.string s] ∧ s.size ≤ maxLen := by
  obtain ⟨H, enc, n, x, h⟩ := h
  obtain ⟨b, h1, _, h2⟩ := DataW.trod_string ht h; exact ⟨b, h1, h2⟩
theorem Rd.struct {fs : Array Field} (ht : P.underlying t = some (.struct fs)) (h : Rd P W t cs) : cs.length = P.cellsOf t ∧ ∀ f ∈ fs.toList, Rd P W f.type ((cs.drop f.offset).take (P.cellsOf f.type)) := by
  obtain ⟨H, enc, n, x, h⟩ := h
  cases n with
  | zero => simp [DataW.trod] at h
  | succ n =>
    unfold DataW.trod at h
    rw [ht] at h
    simp only at h
    split at h
    · rename_i hl
      refine ⟨hl, fun f hf => ?_⟩
      rw [Option.map_eq_some_iff] at h
      obtain ⟨xs, hx, _⟩ := h
      have : ∀ (l : List Field) (xs : List (DataW H × List MemPlace)), l.mapM (fun f => DataW.trod enc P W 0 (fun _ => true) true n f.type ((cs.drop f.offset).take (P.cellsOf f.type))) = some xs → ∀ f ∈ l, Rd P W f.type ((cs.drop f.offset).take (P.cellsOf f.type)) := by
        intro l
        induction l with
        | nil => intro xs _ f hf; cases hf
        | cons a l ih =>
          intro xs hx f hf
          rw [List.mapM_cons] at hx
          simp only [Option.bind_eq_bind, Option.bind_eq_some_iff] at hx
          obtain ⟨y, hy, ys, hys, _⟩ := hx
          rcases List.mem_cons.1 hf with rfl | hf
          · exact ⟨H, enc, n, y, hy⟩
          · exact ih ys hys f hf
      exact this _ _ hx f hf
    · cases h
theorem Rd.array {n : Nat} {e : TypeId} (ht : P.underlying t = some (.array n e)) (h : Rd P W t cs) : cs.length = P.cellsOf t ∧ ∀ i, i < n → Rd P W e ((cs.drop (i * P.cellsOf e)).take (P.cellsOf e)) := by
  obtain ⟨H, enc, f, x, h⟩ := h
  cases f with
  | zero => simp [DataW.trod] at h
  | succ f =>
    unfold DataW.trod at h
    rw [ht] at h
    simp only at h
    split at h
    · rename_i hl
      refine ⟨hl, fun i hi => ?_⟩
      rw [Option.map_eq_some_iff] at h
      obtain ⟨xs, hx, _⟩ := h
      have : ∀ (l : List Nat) (xs : List (DataW H × List MemPlace)), l.mapM (fun i => DataW.trod enc P W 0 (fun _ => true) true f e ((cs.drop (i * P.cellsOf e)).take (P.cellsOf e))) = some xs → ∀ i ∈ l, Rd P W e ((cs.drop (i * P.cellsOf e)).take (P.cellsOf e)) := by
        intro l
        induction l with
        | nil => intro xs _ f hf; cases hf
        | cons a l ih =>
          intro xs hx i hi
          rw [List.mapM_cons] at hx
          simp only [Option.bind_eq_bind, Option.bind_eq_some_iff] at hx
          obtain ⟨y, hy, ys, hys, _⟩ := hx
          rcases List.mem_cons.1 hi with rfl | hi
          · exact ⟨H, enc, f, y, hy⟩
          · exact ih ys hys i hi
      exact this _ _ hx i (List.mem_range.2 hi)
    · cases h

theorem Rd.len (ht : (match P.underlying t with | some (.struct _) | some (.array _ _) => true | _ => false) = true) (h : Rd P W t cs) : cs.length = P.cellsOf t := by
  split at ht
  · rename_i fs hs; exact (h.struct hs).1
  · rename_i n e hs; exact (h.array hs).1
  · cases ht
theorem Rd.field {t' : TypeId} {off : Nat} (ht : (match P.underlying t with | some (.struct fs) => fs.toList.any (fun f => Nat.beq f.offset off && Nat.beq f.type t') | _ => false) = true) (h : Rd P W t cs) : Rd P W t' ((cs.drop off).take (P.cellsOf t')) := by
  split at ht
  · rename_i fs hs
    simp only [List.any_eq_true, Bool.and_eq_true] at ht
    obtain ⟨f, hm, h1, h2⟩ := ht
    have := (h.struct hs).2 f hm
    rwa [Nat.eq_of_beq_eq_true h1, Nat.eq_of_beq_eq_true h2] at this
  · cases ht

theorem cells?_at {a : Addr} {n : Nat} {l : List Value} (h : W.cells? 0 a n = some l) : l.length = n ∧ ∀ i u, l[i]? = some u → W.cell? (a.add i) = some u := by
  unfold World.cells? at h
  rw [if_pos (Nat.zero_le _)] at h
  have : ∀ (ks : List Nat) (l : List Value), ks.mapM (fun i => W.cell? (a.add i)) = some l → l.length = ks.length ∧ ∀ (i : Nat) (u : Value) (k : Nat), l[i]? = some u → ks[i]? = some k → W.cell? (a.add k) = some u := by
    intro ks
    induction ks with
    | nil =>
      intro l h
      simp at h; subst h
      exact ⟨rfl, fun i u k hu => by simp at hu⟩
    | cons k ks ih =>
      intro l h
      rw [List.mapM_cons] at h
      simp only [Option.bind_eq_bind, Option.bind_eq_some_iff] at h
      obtain ⟨y, hy, ys, hys, h⟩ := h
      cases h
      obtain ⟨h1, h2⟩ := ih ys hys
      refine ⟨by simp [h1], fun i u k' hu hk => ?_⟩
      cases i with
      | zero => simp at hu hk; subst hu; subst hk; exact hy
      | succ i => exact h2 i u k' (by simpa using hu) (by simpa using hk)
  obtain ⟨h1, h2⟩ := this _ _ h
  refine ⟨by simpa using h1, fun i u hu => h2 i u i hu ?_⟩
  have hlt : i < l.length := by
    rcases Nat.lt_or_ge i l.length with h | h
    · exact h
    · rw [List.getElem?_eq_none h] at hu; cases hu
  rw [List.getElem?_range (by simp at h1; omega)]

theorem flat_cells {a : Addr} {sz : Nat} : ∀ (es : List (List Value)) (k : Nat), (∀ i x, es[i]? = some x → x.length = sz ∧ ∀ j u, x[j]? = some u → W.cell? (a.add ((k + i) * sz + j)) = some u) →
    ∀ j u, es.flatten[j]? = some u → W.cell? (a.add (k * sz + j)) = some u
  | [], _, _, j, u, hu => by simp at hu
  | x :: es, k, h, j, u, hu => by
    obtain ⟨hl, h0⟩ := h 0 x rfl
    rw [List.flatten_cons, List.getElem?_append] at hu
    split at hu
    · have := h0 j u hu
      simpa using this
    · have ih := flat_cells es (k + 1) (fun i y hy => by
        have := h (i + 1) y (by simpa using hy)
        rw [show k + (i + 1) = k + 1 + i by omega] at this; exact this) (j - x.length) u hu
      rw [hl, Nat.add_mul, Nat.one_mul, show k * sz + sz + (j - sz) = k * sz + j by omega] at ih
      exact ih

theorem Rd.sl {e : TypeId} (ht : P.underlying t = some (.slice e)) (h : Rd P W t cs) :
    ∃ a l c, cs = [.slice a l c] ∧ l ≤ c ∧ c ≤ maxLen ∧ ∃ es : List (List Value), es.length = c ∧ (∀ x ∈ es, x.length = P.cellsOf e ∧ Rd P W e x) ∧ CellsAt (heapM W) a es.flatten := by
  obtain ⟨H, enc, f, x, h⟩ := h
  rcases DataW.trod_slice ht h with ⟨rfl, _⟩ | ⟨a, len, cap, elems, rest, n, _, rfl, _, _, hl, hm, hlen, hel, hsp, _⟩
  · exact ⟨none, 0, 0, rfl, Nat.le_refl _, Nat.zero_le _, [], rfl, ⟨(fun x h => by cases h), CellsAt.empty _ _⟩⟩
  · obtain ⟨hrl, hrest⟩ := hsp rfl
    have each : ∀ i, i < cap → ∃ l y, W.cells? 0 (a.add (i * P.cellsOf e)) (P.cellsOf e) = some l ∧ DataW.trod enc P W 0 (fun _ => true) true n e l = some y := by
      intro i hi
      have : ∃ y, (W.cells? 0 (a.add (i * P.cellsOf e)) (P.cellsOf e)).bind (DataW.trod enc P W 0 (fun _ => true) true n e) = some y := by
        by_cases h1 : i < len
        · rw [hel i h1]; exact ⟨elems[i]'(by omega), List.getElem?_eq_getElem _⟩
        · have := hrest (i - len) (by omega)
          rw [show len + (i - len) = i by omega] at this
          rw [this]; exact ⟨rest[i - len]'(by omega), List.getElem?_eq_getElem _⟩
      obtain ⟨y, hy⟩ := this
      rw [Option.bind_eq_some_iff] at hy
      obtain ⟨l, h1, h2⟩ := hy
      exact ⟨l, y, h1, h2⟩
    refine ⟨some a, len, cap, rfl, hl, hm, (List.range cap).map (fun i => (W.cells? 0 (a.add (i * P.cellsOf e)) (P.cellsOf e)).getD []), by simp, ?_, ?_⟩
    · intro x hx
      simp only [List.mem_map, List.mem_range] at hx
      obtain ⟨i, hi, rfl⟩ := hx
      obtain ⟨l, y, h1, h2⟩ := each i hi
      rw [h1]
      exact ⟨(cells?_at h1).1, H, enc, n, y, h2⟩
    · refine CellsAt.given ?_
      have := flat_cells (W := W) (a := a) (sz := P.cellsOf e) ((List.range cap).map (fun i => (W.cells? 0 (a.add (i * P.cellsOf e)) (P.cellsOf e)).getD [])) 0 (fun i x hx => by
        rw [List.getElem?_map] at hx
        by_cases hi : i < cap
        · rw [List.getElem?_range hi] at hx
          simp only [Option.map_some, Option.some.injEq] at hx
          obtain ⟨l, y, h1, h2⟩ := each i hi
          rw [h1] at hx
          simp only [Option.getD_some] at hx
          subst hx
          obtain ⟨g1, g2⟩ := cells?_at h1
          refine ⟨g1, fun j u hu => ?_⟩
          have := g2 j u hu
          rw [Addr.add_add] at this
          rw [Nat.zero_add]; exact this
        · rw [List.getElem?_eq_none (by simp; omega)] at hx; cases hx)
      intro j u hu
      have := this j u hu
      simpa using this

theorem Arg.bool (ht : P.underlying t = some .bool) (h : Arg P W t v) : ∃ b, v = .bool b := by
  obtain ⟨base, H, enc, d, p, h1, _⟩ := h; exact okWide_bool ht h1
theorem Arg.int {k : IntKind} (ht : P.underlying t = some (.int k)) (h : Arg P W t v) : ∃ n, v = .int k n ∧ (Lit.int k n).wf = true := by
  have hr := h.rd
  obtain ⟨base, H, enc, d, p, h1, _⟩ := h
  obtain ⟨n, rfl⟩ := okWide_int ht h1
  obtain ⟨n', h2, h3⟩ := hr.int ht
  simp [Value.cells] at h2; subst h2
  exact ⟨n, rfl, h3⟩
theorem Arg.str (ht : P.underlying t = some .string) (h : Arg P W t v) : ∃ s : ByteArray, v = .string s ∧ s.size ≤ maxLen := by
  have hr := h.rd
  obtain ⟨base, H, enc, d, p, h1, _⟩ := h
  obtain ⟨n, rfl⟩ := okWide_string ht h1
  obtain ⟨n', h2, h3⟩ := hr.str ht
  simp [Value.cells] at h2; subst h2
  exact ⟨n, rfl, h3⟩
theorem Arg.sl {e : TypeId} (ht : P.underlying t = some (.slice e)) (h : Arg P W t v) :
    ∃ a l c, v = .slice a l c ∧ l ≤ c ∧ c ≤ maxLen ∧ ∃ es : List (List Value), es.length = c ∧ (∀ x ∈ es, x.length = P.cellsOf e ∧ Rd P W e x) ∧ CellsAt (heapM W) a es.flatten := by
  have hr := h.rd
  obtain ⟨base, H, enc, d, p, h1, _⟩ := h
  obtain ⟨a, l, c, rfl⟩ := okWide_slice ht h1
  obtain ⟨a', l', c', h2, h3⟩ := hr.sl ht
  simp [Value.cells] at h2
  obtain ⟨rfl, rfl, rfl⟩ := h2
  exact ⟨a, l, c, rfl, h3⟩
theorem Arg.agg (ht : (match P.underlying t with | some (.struct _) | some (.array _ _) => true | _ => false) = true) (h : Arg P W t v) : ∃ cs : List Value, v = .agg cs.toArray ∧ Rd P W t cs := by
  have hr := h.rd
  obtain ⟨base, H, enc, d, p, h1, _⟩ := h
  unfold Value.okWide at h1
  split at h1 <;> simp_all
  all_goals
    obtain ⟨cs, rfl, _⟩ := h1
    exact ⟨cs.toList, by simp, by simpa [Value.cells] using hr⟩

/-- Rows of elements of one kind. -/
theorem es_u8 {e : TypeId} (he : P.underlying e = some (.int .u8)) {es : List (List Value)} (h : ∀ x ∈ es, Rd P W e x) : ∃ bs : List UInt8, bs.length = es.length ∧ es.flatten = u8s bs := by
  induction es with
  | nil => exact ⟨[], rfl, rfl⟩
  | cons x es ih =>
    obtain ⟨bs, h1, h2⟩ := ih (fun y hy => h y (by simp [hy]))
    obtain ⟨n, hn, hw⟩ := (h x (by simp)).int he
    have hn8 := wf_u8 hw
    refine ⟨UInt8.ofNat n.toNat :: bs, by simp [h1], ?_⟩
    rw [List.flatten_cons, h2, hn]
    have : (UInt8.ofNat n.toNat).toNat = n.toNat := by rw [UInt8.toNat_ofNat']; omega
    simp only [u8s, List.map_cons, this, List.singleton_append]
    congr 2; omega
theorem es_int {e : TypeId} {k : IntKind} (he : P.underlying e = some (.int k)) {es : List (List Value)} (h : ∀ x ∈ es, Rd P W e x) : ∃ xs : List Int, xs.length = es.length ∧ es.flatten = xs.map (fun n => Value.int k n) ∧ ∀ n ∈ xs, (Lit.int k n).wf = true := by
  induction es with
  | nil => exact ⟨[], rfl, rfl, fun n h => by cases h⟩
  | cons x es ih =>
    obtain ⟨bs, h1, h2, h3⟩ := ih (fun y hy => h y (by simp [hy]))
    obtain ⟨n, hn, hw⟩ := (h x (by simp)).int he
    refine ⟨n :: bs, by simp [h1], by rw [List.flatten_cons, h2, hn]; rfl, fun m hm => ?_⟩
    rcases List.mem_cons.1 hm with rfl | hm
    · exact hw
    · exact h3 m hm
/-- A slice of bytes that came in: its bytes, its spare room's too. -/
theorem Arg.u8s {e : TypeId} (ht : P.underlying t = some (.slice e)) (he : P.underlying e = some (.int .u8)) (h : Arg P W t v) :
    ∃ a l c bs2, v = .slice a l c ∧ l ≤ c ∧ bs2.length = c ∧ CellsAt (heapM W) a (u8s bs2) ∧ CellsAt (heapM W) a (u8s (bs2.take l)) := by
  obtain ⟨a, l, c, rfl, h1, _, es, h2, h3, h4⟩ := h.sl ht
  obtain ⟨bs, h5, h6⟩ := es_u8 he (fun x hx => (h3 x hx).2)
  rw [h6] at h4
  refine ⟨a, l, c, bs, rfl, h1, by omega, h4, ?_⟩
  have : Go.H.u8s bs = Go.H.u8s (bs.take l) ++ Go.H.u8s (bs.drop l) := by simp [Go.H.u8s]
  rw [this] at h4
  exact h4.left
/-- A slice of numbers that came in. -/
theorem Arg.nums {e : TypeId} {k : IntKind} (ht : P.underlying t = some (.slice e)) (he : P.underlying e = some (.int k)) (h : Arg P W t v) :
    ∃ a l c xs, v = .slice a l c ∧ l ≤ c ∧ List.length xs = l ∧ CellsAt (heapM W) a (xs.map fun n => Value.int k n) ∧ ∀ n ∈ xs, (Lit.int k n).wf = true := by
  obtain ⟨a, l, c, rfl, h1, _, es, h2, h3, h4⟩ := h.sl ht
  obtain ⟨xs, h5, h6, h7⟩ := es_int he (fun x hx => (h3 x hx).2)
  rw [h6] at h4
  refine ⟨a, l, c, xs.take l, rfl, h1, by simp; omega, ?_, fun n hn => h7 n (List.mem_of_mem_take hn)⟩
  rw [← List.take_append_drop l xs, List.map_append] at h4
  exact h4.left
theorem Rd.u8s {e : TypeId} (ht : P.underlying t = some (.slice e)) (he : P.underlying e = some (.int .u8)) (h : Rd P W t cs) :
    ∃ a l c bs, cs = [.slice a l c] ∧ l ≤ c ∧ bs.length = l ∧ CellsAt (heapM W) a (u8s bs) := by
  obtain ⟨a, l, c, rfl, h1, _, es, h2, h3, h4⟩ := h.sl ht
  obtain ⟨bs, h5, h6⟩ := es_u8 he (fun x hx => (h3 x hx).2)
  rw [h6] at h4
  refine ⟨a, l, c, bs.take l, rfl, h1, by simp; omega, ?_⟩
  have : Go.H.u8s bs = Go.H.u8s (bs.take l) ++ Go.H.u8s (bs.drop l) := by simp [Go.H.u8s]
  rw [this] at h4
  exact h4.left
end
end Go.H
