/- Laws of the words that the printed texts use: append, copy, make, maps. -/
import Derived.Test.YtjdkdeekniephaaH7
set_option linter.unusedVariables false
namespace Go.H

section
variable {P : Program} {m : Mem}
theorem pt_pure {α : Type} (a : α) (Q : α → Mem → Prop) (E : Value → Mem → Prop) : pt P (pure a : Sem α) Q E m = Q a m := rfl
theorem pt_under {t : TypeId} {d : TypeDesc} (h : P.underlying t = some d) (Q : TypeDesc → Mem → Prop) (E : Value → Mem → Prop) : pt P (underlying t) Q E m = Q d m := by
  show pt P ((Sem.program .pure).bind _) Q E m = _
  simp only [Sem.bind, pt, h]; rfl
theorem pt_typeInfo {t : TypeId} {i : TypeInfo} (h : P.info? t = some i) (Q : TypeInfo → Mem → Prop) (E : Value → Mem → Prop) : pt P (typeInfo t) Q E m = Q i m := by
  show pt P ((Sem.program .pure).bind _) Q E m = _
  simp only [Sem.bind, pt, h]; rfl
theorem pt_sizeOf {t : TypeId} {i : TypeInfo} (h : P.info? t = some i) (Q : Nat → Mem → Prop) (E : Value → Mem → Prop) : pt P (Go.sizeOf t) Q E m = Q i.size m := by
  unfold Go.sizeOf; rw [pt_bind, pt_typeInfo h]; rfl
theorem pt_zero {t : TypeId} {i : TypeInfo} {z : Value} (h : P.info? t = some i) (hz : i.zero = some z) (Q : Value → Mem → Prop) (E : Value → Mem → Prop) : pt P (zeroValue t) Q E m = Q z m := by
  unfold zeroValue; rw [pt_bind, pt_typeInfo h]; simp only [hz]; rfl
theorem pt_newRow (e : TypeId) (c : Array Value) (Q : Addr → Mem → Prop) (E : Value → Mem → Prop) : pt P (newRow e c) Q E m = ∀ b, m b = none → Q ⟨b, 0, none⟩ (m.set b (.cells c e (0, 0))) := by
  unfold newRow newObj; rw [pt_bind]; rfl
theorem pt_ite {α : Type} (c : Prop) [Decidable c] (x y : Sem α) (Q : α → Mem → Prop) (E : Value → Mem → Prop) : pt P (if c then x else y) Q E m = if c then pt P x Q E m else pt P y Q E m := by
  split <;> rfl

theorem pt_loadCells {b o : Nat} {Q : Array Value → Mem → Prop} {E : Value → Mem → Prop} : ∀ (vs : List Value) (i : Nat) (acc : Array Value),
    (∀ j u, vs[j]? = some u → m.cell b (o + (i + j)) = some u) → Q (acc ++ vs.toArray) m → pt P (loadCellsFrom ⟨b, o, none⟩ i vs.length acc) Q E m
  | [], i, acc, _, h => by simpa [loadCellsFrom, pt_pure] using h
  | v :: vs, i, acc, hc, h => by
    simp only [List.length_cons, loadCellsFrom]
    rw [pt_bind, add_none]
    refine ⟨rfl, v, by simpa using hc 0 v (by simp), ?_⟩
    refine pt_loadCells vs (i + 1) (acc.push v) (fun j u hu => ?_) (by simpa using h)
    have := hc (j + 1) u (by simpa using hu)
    rw [show o + (i + 1 + j) = o + (i + (j + 1)) by omega]; exact this

/-- Cells written into a row, from an offset on. -/
def putCells (c : Array Value) : Nat → List Value → Array Value
  | _, [] => c
  | o, v :: r => putCells (c.setIfInBounds o v) (o + 1) r
theorem putCells_size (vs : List Value) : ∀ (c : Array Value) (o : Nat), (putCells c o vs).size = c.size := by
  induction vs with
  | nil => intro c o; rfl
  | cons v r ih => intro c o; simp [putCells, ih]
theorem putCells_get (vs : List Value) : ∀ (c : Array Value) (o j : Nat), o + vs.length ≤ c.size → (putCells c o vs)[j]? = if o ≤ j ∧ j < o + vs.length then vs[j - o]? else c[j]? := by
  induction vs with
  | nil => intro c o j _; simp [putCells]; omega
  | cons v r ih =>
    intro c o j h
    simp only [List.length_cons] at h
    rw [putCells, ih _ _ _ (by simp; omega)]
    by_cases h1 : o = j
    · subst h1
      rw [if_neg (by omega), if_pos (by simp)]
      have : o < c.size := by omega
      simp [this]
    · by_cases h2 : o + 1 ≤ j ∧ j < o + 1 + r.length
      · rw [if_pos h2, if_pos (by simp; omega)]
        rw [show j - o = (j - (o + 1)) + 1 by omega]; simp
      · rw [if_neg h2, if_neg (by simp; omega)]
        simp [h1]

theorem set_set (m : Mem) (b : Nat) (o o' : Obj) : (m.set b o).set b o' = m.set b o' := by
  funext k; simp only [Mem.set]; split <;> rfl
theorem set_same (m : Mem) (b : Nat) (o : Obj) : (m.set b o) b = some o := by simp [Mem.set]
theorem set_other (m : Mem) {b k : Nat} (o : Obj) (h : k ≠ b) : (m.set b o) k = m k := by simp [Mem.set, h]

theorem pt_storeCells {b o : Nat} {e : TypeId} {Q : Unit → Mem → Prop} {E : Value → Mem → Prop} : ∀ (vs : List Value) (i : Nat) (m : Mem) (c : Array Value), m b = some (.cells c e (0, 0)) →
    (∀ v ∈ vs, notOne v = false) → o + i + vs.length ≤ c.size → Q () (m.set b (.cells (putCells c (o + i) vs) e (0, 0))) → pt P (storeCells ⟨b, o, none⟩ vs i) Q E m
  | [], i, m, c, hb, _, _, h => by
    have : m.set b (.cells c e (0, 0)) = m := by
      funext k; by_cases hk : k = b
      · subst hk; rw [set_same, hb]
      · rw [set_other _ _ hk]
    simp only [storeCells, pt_pure]
    simpa [putCells, this] using h
  | v :: r, i, m, c, hb, hn, hl, h => by
    simp only [List.length_cons] at hl
    simp only [storeCells]
    rw [pt_bind, add_none]
    refine ⟨rfl, hn v (by simp), c, e, 0, 0, hb, by show o + i < c.size; omega, by simp, ?_⟩
    refine pt_storeCells r (i + 1) _ (c.setIfInBounds (o + i) v) (set_same _ _ _) (fun u hu => hn u (by simp [hu])) (by simp; omega) ?_
    rw [set_set]; exact h
end

/-- What the type table must say of a slice type t over elements e. -/
structure ElemOK (P : Program) (t e : TypeId) (z : Value) (sz bytes : Nat) : Prop where
  ht : P.underlying t = some (.slice e)
  hi : ∃ i, P.info? e = some i ∧ i.zero = some z ∧ i.size = sz ∧ i.bytes = bytes
  hz : z.cells.size = sz

/-- A slice that is its row's head, and whose row is at hand whole: its cells are xs. -/
def Own (m : Mem) (e : TypeId) (sz : Nat) (a : Option Addr) (l c : Nat) (xs : List Value) : Prop :=
  xs.length = l * sz ∧ ((a = none ∧ l = 0 ∧ c = 0) ∨
    ∃ b cur, a = some ⟨b, 0, none⟩ ∧ m b = some (.cells cur e (0, 0)) ∧ l ≤ c ∧ cur.size = c * sz ∧ cur.toList.take (l * sz) = xs ∧ c ≤ 9223372036854775807)
def blk : Option Addr → Option Nat
  | some a => some a.block
  | none => none

/-- All blocks but those of S are as they were. -/
structure Chg (S : Nat → Prop) (m m' : Mem) : Prop where
  eq : ∀ b o, m b = some o → ¬ S b → m' b = some o
  live : ∀ b, m b ≠ none → m' b ≠ none
theorem Chg.refl (S : Nat → Prop) (m : Mem) : Chg S m m := ⟨fun _ _ h _ => h, fun _ h => h⟩
theorem Chg.trans {S S' : Nat → Prop} {m m1 m2 : Mem} (h : Chg S m m1) (k : Chg S' m1 m2) (hs : ∀ b, m b ≠ none → S' b → S b) : Chg S m m2 :=
  ⟨fun b o hb hn => k.eq b o (h.eq b o hb hn) (fun hx => hn (hs b (by rw [hb]; simp) hx)), fun b hb => k.live b (h.live b hb)⟩
theorem Chg.mono {S S' : Nat → Prop} {m m' : Mem} (h : Chg S m m') (hs : ∀ b, S b → S' b) : Chg S' m m' := ⟨fun b o hb hn => h.eq b o hb (fun hx => hn (hs b hx)), h.live⟩
theorem Le.chg {m m' : Mem} (h : Le m m') (S : Nat → Prop) : Chg S m m' := ⟨fun b o hb _ => h b o hb, fun b hb => by
  cases hm : m b with
  | none => exact absurd hm hb
  | some o => rw [h b o hm]; simp⟩
theorem Chg.le {m m' : Mem} (h : Chg (fun _ => False) m m') : Le m m' := fun b o hb => h.eq b o hb (fun h => h)
theorem Le.set {m : Mem} {b : Nat} (h : m b = none) (o : Obj) : Le m (m.set b o) := fun k o' hk => by
  rw [set_other _ _ (fun e => by subst e; rw [h] at hk; cases hk)]; exact hk
theorem Chg.set (m : Mem) (b : Nat) (o : Obj) : Chg (fun k => k = b) m (m.set b o) :=
  ⟨fun k o' hk hn => by rw [set_other _ _ hn]; exact hk, fun k hk => by
    by_cases e : k = b
    · subst e; rw [set_same]; simp
    · rw [set_other _ _ e]; exact hk⟩
theorem Chg.new {S : Nat → Prop} {m m' : Mem} (h : Chg S m m') {b : Nat} (hb : m' b = none) : m b = none := by
  cases hm : m b with
  | none => rfl
  | some o => exact absurd hb (h.live b (by rw [hm]; simp))
theorem Le.live {m m' : Mem} (h : Le m m') {b : Nat} (hb : m b ≠ none) : m' b ≠ none := (h.chg fun _ => False).live b hb

theorem CellsAt.le {m m' : Mem} (h : Le m m') {a : Option Addr} {vs : List Value} (hc : CellsAt m a vs) : CellsAt m' a vs := by
  rcases hc.cases with ⟨b, o, rfl, hx⟩ | ⟨rfl, _⟩
  · intro j u hu
    have := hx j u hu
    unfold Mem.cell at *
    split at this
    · rename_i hb; rw [h _ _ hb]; exact this
    · cases this
  · exact CellsAt.empty _ _
theorem CellsAt.chg {S : Nat → Prop} {m m' : Mem} (h : Chg S m m') {a : Option Addr} {vs : List Value} (hc : CellsAt m a vs) (hn : ∀ b, blk a = some b → ¬ S b) : CellsAt m' a vs := by
  rcases hc.cases with ⟨b, o, rfl, hx⟩ | ⟨rfl, _⟩
  · intro j u hu
    have := hx j u hu
    unfold Mem.cell at *
    split at this
    · rename_i hb; rw [h.eq _ _ hb (hn _ rfl)]; exact this
    · cases this
  · exact CellsAt.empty _ _
theorem Own.le {m m' : Mem} (h : Le m m') {e : TypeId} {sz : Nat} {a : Option Addr} {l c : Nat} {xs : List Value} (ho : Own m e sz a l c xs) : Own m' e sz a l c xs := by
  obtain ⟨h1, h2⟩ := ho
  refine ⟨h1, ?_⟩
  rcases h2 with h2 | ⟨b, cur, ha, hb, r⟩
  · exact .inl h2
  · exact .inr ⟨b, cur, ha, h _ _ hb, r⟩
theorem Own.chg {S : Nat → Prop} {m m' : Mem} (h : Chg S m m') {e : TypeId} {sz : Nat} {a : Option Addr} {l c : Nat} {xs : List Value} (ho : Own m e sz a l c xs) (hn : ∀ b, blk a = some b → ¬ S b) : Own m' e sz a l c xs := by
  obtain ⟨h1, h2⟩ := ho
  refine ⟨h1, ?_⟩
  rcases h2 with h2 | ⟨b, cur, ha, hb, r⟩
  · exact .inl h2
  · exact .inr ⟨b, cur, ha, h.eq _ _ hb (hn _ (by rw [ha]; rfl)), r⟩
theorem Own.nil (m : Mem) (e : TypeId) (sz : Nat) : Own m e sz none 0 0 [] := ⟨by simp, .inl ⟨rfl, rfl, rfl⟩⟩
theorem Own.cells {m : Mem} {e : TypeId} {sz : Nat} {a : Option Addr} {l c : Nat} {xs : List Value} (ho : Own m e sz a l c xs) : CellsAt m a xs := by
  obtain ⟨h1, h2⟩ := ho
  rcases h2 with ⟨rfl, rfl, rfl⟩ | ⟨b, cur, rfl, hb, hlc, hs, ht, hcm⟩
  · show xs = []
    exact List.eq_nil_of_length_eq_zero (by simpa using h1)
  · intro j u hu
    subst ht
    rw [List.getElem?_take] at hu
    split at hu
    · unfold Mem.cell; rw [hb]; simpa using hu
    · cases hu
theorem Own.live {m : Mem} {e : TypeId} {sz : Nat} {a : Option Addr} {l c : Nat} {xs : List Value} (ho : Own m e sz a l c xs) : ∀ b, blk a = some b → m b ≠ none := by
  intro b hb
  rcases ho.2 with ⟨rfl, _⟩ | ⟨b', cur, rfl, hb', _⟩
  · cases hb
  · simp only [blk, Option.some.injEq] at hb; subst hb; rw [hb']; simp

/-- Where a slice's address leads after an append: where it was, or to a new block; nothing else is new. -/
def Grew (m m' : Mem) (a a' : Option Addr) : Prop :=
  Chg (fun b => blk a = some b) m m' ∧ (blk a' = blk a ∨ ∀ b, blk a' = some b → m b = none)

theorem nextcap_le (n o : Nat) (h : o < n) : Builtin.nextslicecap n o ≤ 4 * n + 3000 := by
  unfold Builtin.nextslicecap
  split
  · omega
  · split
    · omega
    · have : ∀ (r c : Nat), c ≤ 4 * n + 3000 → Builtin.growBy n r c ≤ 4 * n + 3000 := by
        intro r
        induction r with
        | zero => intro c hc; exact hc
        | succ r ih =>
          intro c hc
          unfold Builtin.growBy
          split
          · exact hc
          · exact ih _ (by omega)
      exact this 4 o (by omega)

/-- 'append' onto a slice of one's own. -/
theorem append_own {P : Program} {t e : TypeId} {z : Value} {sz bytes : Nat} (hE : ElemOK P t e z sz bytes) {m : Mem} {ty : TypeId} {cs : Array Bool}
    {a : Option Addr} {l c : Nat} {xs : List Value} (ho : Own m e sz a l c xs) {a2 : Option Addr} {l2 c2 : Nat} {news : List Value} (hc : CellsAt m a2 news) (hl : news.length = l2 * sz)
    (hone : ∀ v ∈ news, notOne v = false) (hsz : 0 < sz) (hlen : l + l2 ≤ 1099511627776) (hby : (4 * (l + l2) + 3000) * bytes ≤ 281474976710656) {K : Value → Mem → Prop} {Pn : List PanicEntry → Mem → Prop}
    (h : ∀ a' c' m', Own m' e sz a' (l + l2) c' (xs ++ news) → Grew m m' a a' → K (.slice a' (l + l2) c') m') :
    BiN P .append #[t, t] ty cs #[.slice a l c, .slice a2 l2 c2] m K Pn := by
  obtain ⟨i, hi, hzi, rfl, rfl⟩ := hE.hi
  have hfirst : ∀ (n : Nat) (aa : Option Addr) (cc : Nat) (vs : List Value) (mm : Mem) (nn : Nat) (Q : Array Value → Mem → Prop) (E : Value → Mem → Prop), CellsAt mm aa vs → vs.length = nn * i.size → Q vs.toArray mm →
      pt P (Builtin.firstCells i.size nn (.slice aa n cc)) Q E mm := by
    intro n aa cc vs mm nn Q E hv hvl hQ
    rcases hv.cases with ⟨b, o, rfl, hx⟩ | ⟨rfl, _⟩
    · simp only [Builtin.firstCells, loadCells]
      rw [← hvl]
      exact pt_loadCells vs 0 #[] (by simpa using hx) (by simpa using hQ)
    · cases aa with
      | none => exact hQ
      | some aa =>
        simp only [Builtin.firstCells, loadCells]
        rw [← hvl]
        exact hQ
  unfold BiN
  show pt P (do pure (Next.value (← Builtin.append_ #[t, t] ty #[.slice a l c, .slice a2 l2 c2])) : Sem Next) _ _ m
  rw [pt_bind]
  unfold Builtin.append_
  simp only [List.getElem?_toArray, List.getElem?_cons_zero, List.getElem?_cons_succ]
  rw [pt_bind, pt_under hE.ht]
  simp only []
  rw [pt_bind, pt_sizeOf hi, pt_bind, pt_under hE.ht]
  simp only [pt_bind, pt_pure, Bool.false_eq_true, if_false, Builtin.lenOf]
  rw [pt_ite]
  by_cases hroom : l + l2 ≤ c
  · rw [if_pos hroom]
    simp only [Bool.not_false, if_true]
    rw [pt_bind]
    refine hfirst l2 a2 c2 news m l2 _ _ hc hl ?_
    rcases ho.2 with ⟨rfl, rfl, rfl⟩ | ⟨b, cur, rfl, hb, hlc, hs, ht, hcm⟩
    · have h0 : l2 = 0 := by omega
      subst h0
      have hn : news = [] := List.eq_nil_of_length_eq_zero (by simpa using hl)
      subst hn
      simp only [pt_pure]
      exact h none 0 m (by simpa using ho) ⟨Chg.refl _ _, .inl rfl⟩
    · simp only []
      rw [pt_bind]
      have hsz2 : 0 + l * i.size + 0 + news.length ≤ cur.size := by
        rw [hs, hl, Nat.zero_add, Nat.add_zero, ← Nat.add_mul]; exact Nat.mul_le_mul_right _ hroom
      rw [add_none]
      refine pt_storeCells news 0 m cur hb hone hsz2 ?_
      simp only [pt_pure]
      refine h _ c _ ⟨by rw [List.length_append, ho.1, hl, Nat.add_mul], .inr ⟨b, _, rfl, set_same _ _ _, hroom, by rw [putCells_size, hs], ?_, hcm⟩⟩ ⟨?_, .inl rfl⟩
      · apply List.ext_getElem?
        intro j
        have hxl := ho.1
        have hlt : l * i.size + l2 * i.size ≤ cur.size := by rw [hs, ← Nat.add_mul]; exact Nat.mul_le_mul_right _ hroom
        rw [List.getElem?_take, Array.getElem?_toList, putCells_get _ _ _ _ hsz2, Nat.add_mul, List.getElem?_append, hxl]
        simp only [Nat.zero_add, Nat.add_zero, hl]
        by_cases h1 : j < l * i.size
        · rw [if_pos (by omega), if_neg (by omega), if_pos h1, ← ht, List.getElem?_take, if_pos h1]; simp
        · by_cases h2 : j < l * i.size + l2 * i.size
          · rw [if_pos h2, if_pos (by omega), if_neg h1]
          · rw [if_neg h2, if_neg h1]
            symm
            rw [List.getElem?_eq_none (by omega)]
      · exact (Chg.set _ _ _).mono (fun k e => by subst e; rfl)
  · rw [if_neg hroom]
    have hc0 : c < l + l2 := by omega
    have hmax : ¬ (((l + l2 : Nat) : Int) > IntKind.i64.max ∧ (False ∨ i.bytes = 0)) := by
      rintro ⟨h1, _⟩
      have : IntKind.i64.max = 9223372036854775807 := rfl
      rw [this] at h1; omega
    have hnext : ¬ Builtin.nextslicecap (l + l2) c * i.bytes > 2 ^ 48 := by
      have h1 := Nat.mul_le_mul_right i.bytes (nextcap_le (l + l2) c hc0)
      have : (2 : Nat) ^ 48 = 281474976710656 := rfl
      omega
    rw [pt_bind, pt_typeInfo hi]
    rw [pt_ite, if_neg hmax]
    rw [pt_bind, pt_typeInfo hi]
    rw [pt_ite, if_neg hnext]
    rw [pt_bind]
    intro tp
    have hge : l + l2 ≤ (Question.appendCap (l + l2) c e).cut tp := by simp [Question.cut]
    have hlt63 : (Question.appendCap (l + l2) c e).cut tp ≤ 9223372036854775807 := by
      have h1 : tp % (2 ^ 63 - (l + l2)) < 2 ^ 63 - (l + l2) := Nat.mod_lt _ (by omega)
      simp only [Question.cut]
      omega
    generalize (Question.appendCap (l + l2) c e).cut tp = nc at hge hlt63 ⊢
    show pt P (Sem.pure nc) _ _ m
    simp only [pt]
    rw [pt_bind, pt_typeInfo hi, pt_bind]
    have hask : ∀ n (Q : Unit → Mem → Prop) E, Q () m → pt P (askRoom n) Q E m := by
      intro n Q E hQ; unfold askRoom; split <;> exact hQ
    refine hask _ _ _ ?_
    rw [pt_bind]
    refine hfirst l a c xs m l _ _ ho.cells ho.1 ?_
    simp only [Bool.not_false, if_true]
    rw [pt_bind]
    refine hfirst l2 a2 c2 news m l2 _ _ hc hl ?_
    rw [pt_bind, pt_zero hi hzi, pt_bind, pt_newRow]
    intro b hb
    simp only [pt_pure]
    have hzc : (Builtin.zeroCells z.cells (nc - (l + l2))).size = (nc - (l + l2)) * i.size := by simp [Builtin.zeroCells, hE.hz]
    refine h _ nc _ ⟨by rw [List.length_append, ho.1, hl, Nat.add_mul], .inr ⟨b, _, rfl, set_same _ _ _, hge, ?_, ?_, hlt63⟩⟩ ⟨(Le.set hb _).chg _, .inr fun b' hb' => ?_⟩
    · rw [Array.size_append, Array.size_append, hzc]
      simp only [List.size_toArray, ho.1, hl, ← Nat.add_mul]
      congr 1; omega
    · have hx : (xs ++ news).length = (l + l2) * i.size := by rw [List.length_append, ho.1, hl, Nat.add_mul]
      simp only [Array.toList_append]
      rw [← hx]
      exact List.take_left
    · simp only [blk, Option.some.injEq] at hb'; subst hb'; exact hb

/-- 'make([]T, l, c)', elements of one cell. -/
theorem make_one {P : Program} {t e : TypeId} {z : Value} {bytes : Nat} (hE : ElemOK P t e z 1 bytes) (hz1 : z.cells = #[z]) {m : Mem} {kl kc : IntKind} {l c : Int} (h0 : 0 ≤ l) (h1 : l ≤ c) (h2 : c ≤ 1099511627776)
    (hby : bytes * c ≤ 281474976710656) {K : Value → Mem → Prop} {Pn : List PanicEntry → Mem → Prop}
    (h : ∀ b, m b = none → K (.slice (some ⟨b, 0, none⟩) l.toNat c.toNat) (m.set b (.cells (List.replicate c.toNat z).toArray e (0, 0)))) :
    MkS P m t (.int kl l) (.int kc c) K Pn := by
  obtain ⟨i, hi, hzi, his, rfl⟩ := hE.hi
  unfold MkS
  rw [pt_bind]
  unfold Instr.makeSlice
  rw [pt_bind, pt_under hE.ht]
  simp only [asInt, asIntOf, pt_bind, pt_pure, pt_typeInfo hi]
  have w1 : IntKind.i64.wrap l = l := by rw [IntKind.wrap_i64]; omega
  have w2 : IntKind.i64.wrap c = c := by rw [IntKind.wrap_i64]; omega
  rw [w1, w2]
  have hp : (2 : Int) ^ 48 = 281474976710656 := rfl
  have hno : ¬ ((decide (c < 0) || decide ((i.bytes : Int) * c > 2 ^ 48) || decide (l < 0) || decide (l > c)) = true) := by
    rw [hp]; simp only [Bool.or_eq_true, decide_eq_true_eq]; omega
  rw [if_neg hno]
  have hask : ∀ n (Q : Unit → Mem → Prop) E, Q () m → pt P (askRoom n) Q E m := by
    intro n Q E hQ; unfold askRoom; split <;> exact hQ
  rw [pt_bind]
  refine hask _ _ _ ?_
  rw [pt_bind, pt_sizeOf hi, his, Nat.mul_one]
  have hcells : (Array.range c.toNat).map (fun x => (#[z] : Array Value)[x % (#[z] : Array Value).size]!) = (List.replicate c.toNat z).toArray := by
    apply Array.ext
    · simp
    · intro j h1 h2
      simp [Nat.mod_one]
  have h0c : c.toNat = 0 → (Array.range c.toNat).map (fun x => (#[] : Array Value)[x % (#[] : Array Value).size]!) = (List.replicate c.toNat z).toArray := by
    intro hb; rw [hb]; simp
  split
  · rename_i hc0
    rw [pt_bind, pt_pure, pt_bind, pt_newRow]
    intro b hb
    rw [h0c hc0]
    exact h b hb
  · rw [pt_bind, pt_zero hi hzi, pt_bind, pt_pure, pt_bind, pt_newRow, hz1]
    intro b hb
    rw [hcells]
    exact h b hb

/-- 'copy' into a row at hand. -/
theorem copy_into {P : Program} {t t2 e : TypeId} {z : Value} {sz bytes : Nat} (hE : ElemOK P t e z sz bytes) {m : Mem} {ty : TypeId} {cs : Array Bool}
    {b o dl dc l2 c2 : Nat} {a2 : Option Addr} {cur : Array Value} (hb : m b = some (.cells cur e (0, 0))) {vs : List Value} (hc : CellsAt m a2 vs) (hl : vs.length = Nat.min l2 dl * sz)
    (hone : ∀ v ∈ vs, notOne v = false) (hfit : o + vs.length ≤ cur.size) {K : Value → Mem → Prop} {Pn : List PanicEntry → Mem → Prop}
    (h : K (.int .i64 (Nat.min l2 dl : Nat)) (m.set b (.cells (putCells cur o vs) e (0, 0)))) :
    BiN P .copy #[t, t2] ty cs #[.slice (some ⟨b, o, none⟩) dl dc, .slice a2 l2 c2] m K Pn := by
  obtain ⟨i, hi, hzi, rfl, rfl⟩ := hE.hi
  unfold BiN
  show pt P (do pure (Next.value (← Builtin.copy_ #[t, t2] ty #[.slice (some ⟨b, o, none⟩) dl dc, .slice a2 l2 c2])) : Sem Next) _ _ m
  rw [pt_bind]
  unfold Builtin.copy_
  simp only [List.getElem?_toArray, List.getElem?_cons_zero, List.getElem?_cons_succ]
  rw [pt_bind, pt_under hE.ht]
  simp only [Builtin.lenOf, pt_bind, pt_pure, pt_sizeOf hi]
  have hfirst : ∀ (Q : Array Value → Mem → Prop) (E : Value → Mem → Prop), Q vs.toArray m → pt P (Builtin.firstCells i.size (Nat.min l2 dl) (.slice a2 l2 c2)) Q E m := by
    intro Q E hQ
    rcases hc.cases with ⟨b, o, rfl, hx⟩ | ⟨rfl, _⟩
    · simp only [Builtin.firstCells, loadCells]
      rw [← hl]
      exact pt_loadCells vs 0 #[] (by simpa using hx) (by simpa using hQ)
    · cases a2 with
      | none => exact hQ
      | some a2 =>
        simp only [Builtin.firstCells, loadCells]
        rw [← hl]
        exact hQ
  refine hfirst _ _ ?_
  refine pt_storeCells vs 0 m cur hb hone (by simpa using hfit) ?_
  show K (goInt _) _
  simpa [goInt] using h

section
variable {P : Program} {m : Mem}
theorem pq_bind {α β : Type} (f : α → Sem β) {Q : β → Prop} : ∀ (s : Sem α), pq P (s >>= f) Q m = pq P s (fun a => pq P (f a) Q m) m := by
  intro s
  show pq P (s.bind f) Q m = _
  induction s with
  | pure a => rfl
  | halt x => rfl
  | sys => rfl
  | choose => rfl
  | store => rfl
  | new => rfl
  | freeze => rfl
  | setObj => rfl
  | _ => simp only [Sem.bind, pq, *]
theorem pq_pure {α : Type} (a : α) (Q : α → Prop) : pq P (pure a : Sem α) Q m = Q a := rfl
theorem pq_under {t : TypeId} {d : TypeDesc} (h : P.underlying t = some d) (Q : TypeDesc → Prop) : pq P (underlying t) Q m = Q d := by
  show pq P ((Sem.program .pure).bind _) Q m = _
  simp only [Sem.bind, pq, h]; rfl
theorem pq_zero {t : TypeId} {z : Value} (h : (P.info? t).bind (·.zero) = some z) (Q : Value → Prop) : pq P (zeroValue t) Q m = Q z := by
  obtain ⟨i, hi, hz⟩ := Option.bind_eq_some_iff.1 h
  show pq P (typeInfo t >>= _) Q m = _
  rw [pq_bind]
  have : ∀ (Q : TypeInfo → Prop), pq P (typeInfo t) Q m = Q i := by
    intro Q
    show pq P ((Sem.program .pure).bind _) _ m = _
    simp only [Sem.bind, pq, hi]; rfl
  rw [this, hz]; rfl
end

/-- A map from ints to 'true': which keys it has. -/
def KeysOf (es : Array MapEntry) (f : Int → Bool) : Prop :=
  (∀ e ∈ es.toList, ∃ k, e.key = .int .i64 k ∧ e.val = .bool true) ∧ ∀ k, f k = es.toList.any fun e => match e.key with | .int _ k' => k' == k | _ => false

theorem findNow_keys (k : Int) : ∀ (l : List MapEntry) (i : Nat), (∀ e ∈ l, ∃ k, e.key = .int .i64 k ∧ e.val = .bool true) →
    (l.any (fun e => match e.key with | .int _ k' => k' == k | _ => false) = true ∧ ∃ j, i ≤ j ∧ j < i + l.length ∧ (∃ e, l[j - i]? = some e ∧ e.key = .int .i64 k) ∧ Instr.findNow (.int .i64) (.int .i64 k) l i = some (some (j, .bool true))) ∨
    (l.any (fun e => match e.key with | .int _ k' => k' == k | _ => false) = false ∧ Instr.findNow (.int .i64) (.int .i64 k) l i = some none)
  | [], i, _ => .inr ⟨rfl, rfl⟩
  | e :: l, i, h => by
    obtain ⟨k', hk, hv⟩ := h e (by simp)
    by_cases hkk : k' = k
    · subst hkk
      refine .inl ⟨by simp [hk], i, Nat.le_refl _, by simp, ⟨e, by simp, hk⟩, by simp [Instr.findNow, Instr.sameNow, hk, hv]⟩
    · have hne : (k == k') = false := by simpa using fun e : k = k' => hkk e.symm
      rcases findNow_keys k l (i + 1) (fun e he => h e (by simp [he])) with ⟨h1, j, h2, h3, ⟨e', he', hek⟩, h4⟩ | ⟨h1, h2⟩
      · refine .inl ⟨by simp [hk, hkk]; simpa using h1, j, by omega, by simp; omega, ⟨e', by rw [show j - i = (j - (i + 1)) + 1 by omega]; simpa using he', hek⟩, by simp [Instr.findNow, Instr.sameNow, hk, hne, h4]⟩
      · refine .inr ⟨by simp [hk, hkk]; simpa using h1, by simp [Instr.findNow, Instr.sameNow, hk, hne, h2]⟩

structure MapIB (P : Program) (t : TypeId) : Prop where
  h : ∃ k e, P.underlying t = some (.map k e) ∧ P.underlying k = some (.int .i64) ∧ (P.info? e).bind (·.zero) = some (.bool false)

theorem look_nil {P : Program} {m : Mem} {t : TypeId} (hM : MapIB P t) (i : Int) {K : Value → Prop} (h : K (.bool false)) : LookN P m t (.map none) (.int .i64 i) false K := by
  obtain ⟨k, e, h1, h2, h3⟩ := hM.h
  unfold LookN
  rw [pq_bind]
  unfold Instr.lookup
  rw [pq_bind, pq_under h1]
  dsimp only
  rw [pq_bind, pq_pure, pq_bind]
  unfold Instr.checkKey
  rw [pq_bind, pq_under h2]
  dsimp only
  rw [pq_pure, pq_bind]
  unfold Instr.findKey
  rw [pq_bind, pq_under h2]
  simp only [Instr.findNow, pq_pure, pq_bind]
  rw [pq_zero h3]
  exact h
theorem look_keys {P : Program} {m : Mem} {t : TypeId} (hM : MapIB P t) {r : Nat} {es : Array MapEntry} {ck : Nat} (hr : m r = some (.map es ck)) {f : Int → Bool} (hf : KeysOf es f) (i : Int) {K : Value → Prop}
    (h : K (.bool (f i))) : LookN P m t (.map (some r)) (.int .i64 i) false K := by
  obtain ⟨k, e, h1, h2, h3⟩ := hM.h
  unfold LookN
  rw [pq_bind]
  unfold Instr.lookup
  rw [pq_bind, pq_under h1]
  dsimp only
  rw [pq_bind]
  refine ⟨_, hr, rfl, ?_⟩
  rw [show ∀ Q, pq P (Sem.pure (Obj.map es ck)) Q m = Q (Obj.map es ck) from fun _ => rfl]
  dsimp only
  rw [pq_bind, pq_pure, pq_bind]
  unfold Instr.checkKey
  rw [pq_bind, pq_under h2]
  dsimp only
  rw [pq_pure, pq_bind]
  unfold Instr.findKey
  rw [pq_bind, pq_under h2]
  rw [hf.2 i] at h
  rcases findNow_keys i es.toList 0 hf.1 with ⟨ha, j, _, _, _, hj⟩ | ⟨ha, hj⟩
  · rw [ha] at h
    simp only [hj, pq_pure, pq_bind]
    exact h
  · rw [ha] at h
    simp only [hj, pq_pure, pq_bind]
    rw [pq_zero h3]
    exact h

/-- 'm[k] = true'. -/
theorem update_keys {P : Program} {m : Mem} {t : TypeId} (hM : MapIB P t) {r : Nat} {es : Array MapEntry} {ck : Nat} (hr : m r = some (.map es ck)) {f : Int → Bool} (hf : KeysOf es f) (i : Int)
    {K : Mem → Prop} {Pn : List PanicEntry → Mem → Prop} (h : ∀ es' ck', KeysOf es' (fun k => f k || k == i) → K (m.set r (.map es' ck'))) : MapUpN P m t (.map (some r)) (.int .i64 i) (.bool true) K Pn := by
  obtain ⟨k, e, h1, h2, h3⟩ := hM.h
  unfold MapUpN
  rw [pt_bind]
  unfold Instr.mapUpdate
  rw [pt_bind, pt_under h1]
  dsimp only
  rw [pt_bind]
  refine ⟨_, hr, rfl, ?_⟩
  rw [show ∀ Q E, pt P (Sem.pure (Obj.map es ck)) Q E m = Q (Obj.map es ck) m from fun _ _ => rfl]
  dsimp only
  rw [pt_bind]
  unfold Instr.checkKey
  rw [pt_bind, pt_under h2]
  dsimp only
  rw [pt_pure, pt_bind]
  unfold Instr.findKey
  rw [pt_bind, pt_under h2]
  rcases findNow_keys i es.toList 0 hf.1 with ⟨ha, j, _, hj2, ⟨e', he', hek⟩, hj⟩ | ⟨ha, hj⟩
  · simp only [hj, pt_pure]
    have hjs : es[j]? = some e' := by simpa using he'
    have hkt : (Instr.keyThatStays (((es[j]?).map (·.key)).getD (.int .i64 i)) (.int .i64 i)) = pure (Value.int .i64 i) := by
      rw [hjs]
      simp [Instr.keyThatStays, hek, Instr.sameBits]
    rw [pt_bind, hkt, pt_pure]
    refine ⟨_, hr, rfl, ?_⟩
    have hjlt : j < es.size := by
      rcases Nat.lt_or_ge j es.size with h1 | h1
      · exact h1
      · rw [Array.getElem?_eq_none h1] at hjs; cases hjs
    have hget : ∀ x : Nat, (es.modify j fun e => { e with key := Value.int .i64 i, val := Value.bool true })[x]? = if j = x then some { e' with key := .int .i64 i, val := .bool true } else es[x]? := by
      intro x
      by_cases hx : j = x
      · subst hx; simp [Array.getElem?_modify, hjs]
      · simp [Array.getElem?_modify, hx]
    have hkeys : ∀ k, ((es.modify j fun e => { e with key := Value.int .i64 i, val := Value.bool true }).toList.any fun e => match e.key with | .int _ k' => k' == k | _ => false) =
        (es.toList.any fun e => match e.key with | .int _ k' => k' == k | _ => false) := by
      intro k
      rw [Bool.eq_iff_iff, List.any_eq_true, List.any_eq_true]
      constructor
      · rintro ⟨x, hx, hp⟩
        obtain ⟨y, hy⟩ := List.mem_iff_getElem?.1 hx
        rw [Array.getElem?_toList, hget] at hy
        split at hy
        · cases hy; exact ⟨e', List.mem_of_getElem? he', by rw [hek]; exact hp⟩
        · exact ⟨x, List.mem_of_getElem? (i := y) (by simpa using hy), hp⟩
      · rintro ⟨x, hx, hp⟩
        obtain ⟨y, hy⟩ := List.mem_iff_getElem?.1 hx
        by_cases hyj : j = y
        · subst hyj
          have : x = e' := by rw [Nat.sub_zero] at he'; rw [he'] at hy; exact (Option.some.inj hy).symm
          subst this
          exact ⟨_, List.mem_of_getElem? (i := j) (by rw [Array.getElem?_toList, hget, if_pos rfl]), by rw [hek] at hp; exact hp⟩
        · exact ⟨x, List.mem_of_getElem? (i := y) (by rw [Array.getElem?_toList, hget, if_neg hyj]; simpa using hy), hp⟩
    refine h _ _ ⟨fun x hx => ?_, fun k => ?_⟩
    · obtain ⟨y, hy⟩ := List.mem_iff_getElem?.1 hx
      rw [Array.getElem?_toList, hget] at hy
      split at hy
      · cases hy; exact ⟨i, rfl, rfl⟩
      · exact hf.1 x (List.mem_of_getElem? (i := y) (by simpa using hy))
    · rw [hkeys]
      show (f k || k == i) = _
      rw [hf.2 k]
      by_cases hk : k = i
      · subst hk; rw [ha]; rfl
      · have hkb : (k == i) = false := by simpa using hk
        rw [hkb, Bool.or_false]
  · simp only [hj, pt_pure]
    refine ⟨_, hr, rfl, ?_⟩
    refine h _ _ ⟨fun e he => ?_, fun k => ?_⟩
    · simp only [Array.toList_push, List.mem_append, List.mem_singleton] at he
      rcases he with he | rfl
      · exact hf.1 e he
      · exact ⟨i, rfl, rfl⟩
    · show (f k || k == i) = _
      rw [hf.2 k]
      simp only [Array.toList_push, List.any_append, List.any_cons, List.any_nil, Bool.or_false]
      have : (k == i) = (i == k) := by
        by_cases hk : k = i
        · subst hk; rfl
        · have hk' : ¬ i = k := fun e => hk e.symm
          have h1 : (k == i) = false := by simpa using hk
          have h2 : (i == k) = false := by simpa using hk'
          rw [h1, h2]
      rw [this]
end Go.H
