/- Small helps for the proofs over printed texts. -/
import Derived.Test.YtjdkdeekniephaaH8
import Derived.IntWalk
set_option linter.unusedVariables false
namespace Go.H

theorem wi {n : Int} (h1 : -9223372036854775808 ≤ n) (h2 : n ≤ 9223372036854775807) : IntKind.i64.wrap n = n := IntWalk.i64_in n ⟨h1, h2⟩
theorem wi_range (n : Int) : -9223372036854775808 ≤ IntKind.i64.wrap n ∧ IntKind.i64.wrap n ≤ 9223372036854775807 := by rw [IntKind.wrap_i64]; omega

/-- A test, its answer told as a proposition. -/
theorem BrD {p : Prop} [Decidable p] {A B : Prop} (h : p → A) (k : ¬ p → B) : Br (decide p) A B := by
  by_cases hp : p
  · rw [decide_eq_true hp]; exact h hp
  · rw [decide_eq_false hp]; exact k hp
theorem BrDt {p : Prop} [Decidable p] {A B : Prop} (hp : p) (h : A) : Br (decide p) A B := by rw [decide_eq_true hp]; exact h
theorem BrDf {p : Prop} [Decidable p] {A B : Prop} (hp : ¬ p) (h : B) : Br (decide p) A B := by rw [decide_eq_false hp]; exact h
/-- '==' and '!=' of numbers. -/
theorem BrE {x y : Int} {A B : Prop} (h : x = y → A) (k : x ≠ y → B) : Br (x == y) A B := by
  by_cases hp : x = y
  · rw [beq_iff_eq.mpr hp]; exact h hp
  · rw [beq_eq_false_iff_ne.mpr hp]; exact k hp
theorem BrEt {x y : Int} {A B : Prop} (hp : x = y) (h : A) : Br (x == y) A B := by rw [beq_iff_eq.mpr hp]; exact h
theorem BrEf {x y : Int} {A B : Prop} (hp : x ≠ y) (h : B) : Br (x == y) A B := by rw [beq_eq_false_iff_ne.mpr hp]; exact h
theorem BrN {x y : Int} {A B : Prop} (h : x ≠ y → A) (k : x = y → B) : Br (x != y) A B := by
  by_cases hp : x = y
  · have : (x != y) = false := by simp [hp]
    rw [this]; exact k hp
  · have : (x != y) = true := by simp [hp]
    rw [this]; exact h hp
theorem BrNt {x y : Int} {A B : Prop} (hp : x ≠ y) (h : A) : Br (x != y) A B := BrN (fun _ => h) (fun e => absurd e hp)
theorem BrNf {x y : Int} {A B : Prop} (hp : x = y) (h : B) : Br (x != y) A B := BrN (fun e => absurd hp e) (fun _ => h)

theorem cell_of {m : Mem} {b o : Nat} {c : Array Value} {e : TypeId} {x : Nat × Nat} {v : Value} (h : m b = some (.cells c e x)) (hv : c[o]? = some v) : m.cell b o = some v := by
  unfold Mem.cell; rw [h]; exact hv
theorem LdV.of {m : Mem} {b o : Nat} {c : Array Value} {e : TypeId} {x : Nat × Nat} {v : Value} {K : Value → Prop} (h : m b = some (.cells c e x)) (hv : c[o]? = some v) (k : K v) : LdV m b o K :=
  LdV.mk (cell_of h hv) k
theorem CellsAt.ld {m : Mem} {b o : Nat} {vs : List Value} (h : CellsAt m (some ⟨b, o, none⟩) vs) {j : Nat} {v : Value} (hv : vs[j]? = some v) : m.cell b (o + j) = some v := h j v hv
theorem St1.of {m : Mem} {b o : Nat} {c : Array Value} {e : TypeId} {v : Value} {K : Mem → Prop} (h : m b = some (.cells c e (0, 0))) (ho : o < c.size) (hv : notOne v = false)
    (k : K (m.set b (.cells (c.setIfInBounds o v) e (0, 0)))) : St1 m b o v K := by
  unfold St1; rw [h]; exact ⟨ho, hv, by simp, k⟩

theorem St1.to {m : Mem} {b o : Nat} {c : Array Value} {e : TypeId} {v : Value} (c' : Array Value) {K : Mem → Prop} (h : m b = some (.cells c e (0, 0))) (ho : o < c.size) (hv : notOne v = false)
    (hc : c.setIfInBounds o v = c') (k : K (m.set b (.cells c' e (0, 0)))) : St1 m b o v K := St1.of h ho hv (hc ▸ k)

def ints (xs : List Int) : List Value := xs.map fun x => Value.int .i64 x
theorem ints_len (xs : List Int) : (ints xs).length = xs.length := by simp [ints]
theorem u8s_len (xs : List UInt8) : (u8s xs).length = xs.length := by simp [u8s]
theorem ints_one (xs : List Int) : ∀ v ∈ ints xs, notOne v = false := by
  intro v hv
  simp only [ints, List.mem_map] at hv
  obtain ⟨x, _, rfl⟩ := hv
  rfl
theorem u8s_one (xs : List UInt8) : ∀ v ∈ u8s xs, notOne v = false := by
  intro v hv
  simp only [u8s, List.mem_map] at hv
  obtain ⟨x, _, rfl⟩ := hv
  rfl
theorem ints_get {xs : List Int} {i : Nat} (h : i < xs.length) : (ints xs)[i]? = some (.int .i64 xs[i]) := by simp [ints, h]
theorem u8s_get {xs : List UInt8} {i : Nat} (h : i < xs.length) : (u8s xs)[i]? = some (.int .u8 xs[i].toNat) := by simp [u8s, h]

/-- A block of one's own is apart from what is old. -/
def Fresh (m : Mem) (a : Option Addr) : Prop := ∀ b, blk a = some b → m b = none
theorem Fresh.none (m : Mem) : Fresh m none := fun _ h => by cases h
theorem Fresh.le {m m' : Mem} (h : Le m m') {a : Option Addr} (k : Fresh m' a) : Fresh m a := fun b hb => by
  have := k b hb
  cases hm : m b with
  | none => rfl
  | some o => rw [h b o hm] at this; cases this

/-- 'append' onto an own row: told as what is new. -/
theorem grown_le {m m1 m' : Mem} {a a' : Option Addr} (h1 : Le m m1) (h0 : Fresh m a) (hg : Grew m1 m' a a') : Le m m' ∧ Fresh m a' := by
  refine ⟨fun k o hk => hg.1.eq k o (h1 k o hk) (fun e => ?_), fun b hb => ?_⟩
  · rw [h0 k e] at hk; cases hk
  · rcases hg.2 with e | e
    · exact h0 b (by rw [← e]; exact hb)
    · exact Fresh.le h1 e b hb

/-- 'append(s[:0:0], s...)' and its kin: onto a row made for it. -/
theorem clone_gen {P : Program} {t e : TypeId} {z : Value} {sz bytes : Nat} (hE : ElemOK P t e z sz bytes) (hsz : 0 < sz) {m : Mem} {ty : TypeId} {cs : Array Bool} {a : Option Addr} {l c : Nat} {vs : List Value}
    (hc : CellsAt m a vs) (hl : vs.length = l * sz) (hone : ∀ v ∈ vs, notOne v = false) (hlen : l ≤ 1099511627776) (hby : (4 * l + 3000) * bytes ≤ 281474976710656) {K : Value → Mem → Prop} {Pn : List PanicEntry → Mem → Prop}
    (h : ∀ a' c' m', Le m m' → Own m' e sz a' l c' vs → Fresh m a' → K (.slice a' l c') m') :
    ∀ b5, m b5 = none → BiN P .append #[t, t] ty cs #[.slice (some ⟨b5, 0, none⟩) 0 0, .slice a l c] (m.set b5 (.cells #[] e (0, 0))) K Pn := by
  intro b5 hb
  have ho : Own (m.set b5 (.cells #[] e (0, 0))) e sz (some ⟨b5, 0, none⟩) 0 0 [] := by
    refine ⟨by simp, .inr ⟨b5, #[], rfl, set_same _ _ _, Nat.le_refl _, by simp, by simp, by omega⟩⟩
  refine append_own hE ho (hc.le (Le.set hb _)) hl hone hsz (by omega) (by simpa using hby) ?_
  intro a' c' m' ho' hg
  rw [Nat.zero_add, List.nil_append] at ho'
  rw [Nat.zero_add]
  have := grown_le (Le.set hb (.cells #[] e (0, 0))) (a := some ⟨b5, 0, none⟩) (by intro b e; cases e; exact hb) hg
  exact h a' c' m' this.1 ho' this.2

/-- A part of a slice's cells. -/
theorem CellsAt.part {m : Mem} {a : Option Addr} {vs : List Value} (h : CellsAt m a vs) (lo : Nat) {ws : List Value} (hw : ∀ j u, ws[j]? = some u → vs[lo + j]? = some u) (hn : vs = [] → ws = []) {c sz : Nat} (hs : sz = 1) (hz : c = lo → ws = []) : CellsAt m (shf a lo sz c) ws := by
  subst hs
  unfold shf
  split
  · rename_i hc
    rw [hz hc]
    exact CellsAt.empty _ _
  · rcases h.cases with ⟨b, o, rfl, hx⟩ | ⟨rfl, _⟩
    · simp only [Option.map_some, add_none]
      intro j u hu
      have := hx (lo + j) u (hw j u hu)
      rw [Nat.mul_one, Nat.add_assoc]; exact this
    · rw [hn rfl]
      exact CellsAt.empty _ _
theorem IxS.ld {m : Mem} {a : Option Addr} {len : Nat} {vs : List Value} (hc : CellsAt m a vs) (hl : vs.length = len) {i : Int} (h0 : 0 ≤ i) (h1 : i < len) {K : Value → Prop}
    (k : ∀ v, vs[i.toNat]? = some v → K v) : IxS a len i 1 (fun b o => LdV m b o K) := by
  refine ⟨h0, h1, ?_⟩
  have hlt : i.toNat < vs.length := by omega
  rcases hc.cases with ⟨b, o, rfl, hx⟩ | ⟨rfl, _⟩
  · have := hx i.toNat _ (List.getElem?_eq_getElem hlt)
    simp only [Nat.mul_one]
    exact LdV.mk this (k _ (List.getElem?_eq_getElem hlt))
  · simp at hl; omega
theorem IxS.ints {m : Mem} {a : Option Addr} {len : Nat} {xs : List Int} (hc : CellsAt m a (ints xs)) (hl : xs.length = len) {i : Int} (h0 : 0 ≤ i) (h1 : i < len) {K : Value → Prop}
    (k : ∀ x, xs[i.toNat]? = some x → K (.int .i64 x)) : IxS a len i 1 (fun b o => LdV m b o K) := by
  refine IxS.ld hc (by rw [ints_len]; exact hl) h0 h1 ?_
  intro v hv
  have hlt : i.toNat < xs.length := by omega
  rw [ints_get hlt] at hv
  cases hv
  exact k _ (List.getElem?_eq_getElem hlt)
theorem IxS.u8s {m : Mem} {a : Option Addr} {len : Nat} {xs : List UInt8} (hc : CellsAt m a (u8s xs)) (hl : xs.length = len) {i : Int} (h0 : 0 ≤ i) (h1 : i < len) {K : Value → Prop}
    (k : ∀ x, xs[i.toNat]? = some x → K (.int .u8 x.toNat)) : IxS a len i 1 (fun b o => LdV m b o K) := by
  refine IxS.ld hc (by rw [u8s_len]; exact hl) h0 h1 ?_
  intro v hv
  have hlt : i.toNat < xs.length := by omega
  rw [u8s_get hlt] at hv
  cases hv
  exact k _ (List.getElem?_eq_getElem hlt)

theorem CellsAt.left {m : Mem} {a : Option Addr} {xs ys : List Value} (h : CellsAt m a (xs ++ ys)) : CellsAt m a xs := by
  rcases h.cases with ⟨b, o, rfl, hx⟩ | ⟨hx, _⟩
  · intro j u hu
    refine hx j u ?_
    rw [List.getElem?_append_left]
    · exact hu
    · by_cases hlt : j < xs.length
      · exact hlt
      · rw [List.getElem?_eq_none (by omega)] at hu; cases hu
  · rw [List.append_eq_nil_iff] at hx
    rw [hx.1]
    exact CellsAt.empty _ _
/-- The given world's cells, as the frame tells them. -/
theorem CellsAt.given {w : World} {a : Addr} {vs : List Value} (h : ∀ j u, vs[j]? = some u → w.cell? (a.add j) = some u) : CellsAt (fun b => w.heap[b]?) (some a) vs := by
  obtain ⟨b, o, sp⟩ := a
  cases vs with
  | nil => exact CellsAt.empty _ _
  | cons v vs =>
    have h0 := h 0 v rfl
    cases sp with
    | some s =>
      have : w.cell? (Addr.add ⟨b, o, some s⟩ 0) = none := by
        simp only [Addr.add, if_true, World.cell?]
        split <;> simp
      rw [this] at h0; cases h0
    | none =>
      intro j u hu
      have := h j u hu
      rw [add_none] at this
      unfold Mem.cell
      unfold World.cell? at this
      split at this
      · rename_i c e x hb
        simp only [hb]
        simpa using this
      · cases this

theorem IxS.st {m : Mem} {b : Nat} {cur : Array Value} {e : TypeId} (h : m b = some (.cells cur e (0, 0))) {len : Nat} {i : Int} (h0 : 0 ≤ i) (h1 : i < len) (hl : len ≤ cur.size) {v : Value} (hv : notOne v = false) {K : Mem → Prop}
    (k : K (m.set b (.cells (cur.setIfInBounds i.toNat v) e (0, 0)))) : IxS (some ⟨b, 0, none⟩) len i 1 (fun b o => St1 m b o v K) := by
  refine ⟨h0, h1, ?_⟩
  show St1 m b (0 + i.toNat * 1) v K
  rw [Nat.zero_add, Nat.mul_one]
  exact St1.of h (by omega) hv k

theorem shf_zero (b c : Nat) : shf (some ⟨b, 0, none⟩) (0 : Int).toNat 1 c = some ⟨b, 0, none⟩ := by
  unfold shf; split
  · rfl
  · simp [add_none]

theorem Chg.to_le {F : Nat → Prop} {m m1 m2 : Mem} (h : Chg F m1 m2) (hle : Le m m1) (hF : ∀ b, F b → m b = none) : Le m m2 := fun b o hb =>
  h.eq b o (hle b o hb) (fun hx => by rw [hF b hx] at hb; cases hb)
theorem Le.new {m m' : Mem} (h : Le m m') {b : Nat} (hb : m' b = none) : m b = none := (h.chg fun _ => False).new hb
theorem cells_at {m : Mem} {b : Nat} {c : Array Value} {e : TypeId} {x : Nat × Nat} (h : m b = some (.cells c e x)) {vs : List Value} (hv : c.toList = vs) : CellsAt m (some ⟨b, 0, none⟩) vs := by
  intro j u hu
  rw [Nat.zero_add]
  refine cell_of h ?_
  rw [← hv] at hu
  simpa using hu

/-- A memory without some blocks. -/
noncomputable def Mem.wo (m : Mem) (F : Nat → Prop) : Mem := fun b => open Classical in if F b then none else m b
theorem wo_le (m : Mem) (F : Nat → Prop) : Le (m.wo F) m := fun b o h => by
  unfold Mem.wo at h
  split at h
  · cases h
  · exact h
theorem wo_in {m : Mem} {F : Nat → Prop} {b : Nat} (h : ¬ F b) : m.wo F b = m b := by
  unfold Mem.wo; rw [if_neg h]
theorem wo_out {m : Mem} {F : Nat → Prop} {b : Nat} (h : F b) : m.wo F b = none := by
  unfold Mem.wo; rw [if_pos h]
theorem le_wo {m m' : Mem} {F : Nat → Prop} (h : Le m m') (hF : ∀ b, F b → m b = none) : Le m (m'.wo F) := fun b o hb => by
  rw [wo_in (fun hx => by rw [hF b hx] at hb; cases hb)]; exact h b o hb
theorem CellsAt.wo {m : Mem} {F : Nat → Prop} {a : Option Addr} {vs : List Value} (h : CellsAt m a vs) (hn : ∀ b, blk a = some b → ¬ F b) : CellsAt (m.wo F) a vs := by
  rcases h.cases with ⟨b, o, rfl, hx⟩ | ⟨rfl, _⟩
  · intro j u hu
    have := hx j u hu
    unfold Mem.cell at *
    rw [wo_in (hn b rfl)]; exact this
  · exact CellsAt.empty _ _

/-- Writing one element of an own row. -/
theorem Own.st {m : Mem} {e : TypeId} {a : Option Addr} {l c : Nat} {xs : List Value} (h : Own m e 1 a l c xs) {i : Int} (h0 : 0 ≤ i) (h1 : i < l) {v : Value} (hv : notOne v = false) {K : Mem → Prop}
    (k : ∀ m', Chg (fun b => blk a = some b) m m' → Own m' e 1 a l c (xs.set i.toNat v) → K m') : IxS a l i 1 (fun b o => St1 m b o v K) := by
  obtain ⟨hl, hx⟩ := h
  rcases hx with ⟨rfl, rfl, rfl⟩ | ⟨b, cur, rfl, hb, hlc, hs, ht, hcm⟩
  · omega
  · refine IxS.st hb h0 h1 (by omega) hv ?_
    refine k _ ((Chg.set _ _ _).mono (fun k e => by subst e; rfl)) ⟨by simpa using hl, .inr ⟨b, _, rfl, set_same _ _ _, hlc, by simp [hs], ?_, hcm⟩⟩
    rw [Array.toList_setIfInBounds, List.take_set, ht]

/-- 'append(xs, i)' onto an own row of numbers. -/
theorem push_one {P : Program} {t e : TypeId} {z : Value} {bytes : Nat} (hE : ElemOK P t e z 1 bytes) {m : Mem} {ty : TypeId} {cs : Array Bool} {a : Option Addr} {l c : Nat} {xs : List Value} (ho : Own m e 1 a l c xs) {v : Value} (hv : notOne v = false)
    (hlen : l ≤ 1000000000) (hby : bytes ≤ 64) {K : Value → Mem → Prop} {Pn : List PanicEntry → Mem → Prop}
    (h : ∀ a' c' m', Chg (fun b => blk a = some b) m m' → Own m' e 1 a' (l + 1) c' (xs ++ [v]) → (blk a' = blk a ∨ Fresh m a') → K (.slice a' (l + 1) c') m') :
    ∀ b, m b = none → BiN P .append #[t, t] ty cs #[.slice a l c, .slice (some ⟨b, 0, none⟩) 1 1] (m.set b (.cells #[v] e (0, 0))) K Pn := by
  intro b hb
  refine append_own hE (Own.le (Le.set hb _) ho) (news := [v]) (cells_at (set_same _ _ _) rfl) rfl (by intro u hu; simp at hu; subst hu; exact hv) (by decide) (by omega) ?_ ?_
  · exact Nat.le_trans (Nat.mul_le_mul_left (4 * (l + 1) + 3000) hby) (by omega)
  intro a' c' m' ho' hg
  refine h a' c' m' (((Le.set hb _).chg _).trans hg.1 (fun _ _ e => e)) ho' ?_
  rcases hg.2 with e | e
  · exact .inl e
  · exact .inr (Fresh.le (Le.set hb _) e)

/-- 'append(xs, x)' onto an own row, elements of several cells. -/
theorem push_row {P : Program} {t e : TypeId} {z : Value} {sz bytes : Nat} (hE : ElemOK P t e z sz bytes) (hsz : 0 < sz) {m : Mem} {ty : TypeId} {cs : Array Bool} {a : Option Addr} {l c : Nat} {xs : List Value} (ho : Own m e sz a l c xs) {news : Array Value} (hn : news.size = sz)
    (hv : ∀ v ∈ news.toList, notOne v = false) (hlen : l ≤ 1000000000) (hby : bytes ≤ 640) {K : Value → Mem → Prop} {Pn : List PanicEntry → Mem → Prop}
    (h : ∀ a' c' m', Chg (fun b => blk a = some b) m m' → Own m' e sz a' (l + 1) c' (xs ++ news.toList) → (blk a' = blk a ∨ Fresh m a') → K (.slice a' (l + 1) c') m') :
    ∀ b, m b = none → BiN P .append #[t, t] ty cs #[.slice a l c, .slice (some ⟨b, 0, none⟩) 1 1] (m.set b (.cells news e (0, 0))) K Pn := by
  intro b hb
  refine append_own hE (Own.le (Le.set hb _) ho) (news := news.toList) (cells_at (set_same _ _ _) rfl) (by simpa using hn) hv hsz (by omega) ?_ ?_
  · exact Nat.le_trans (Nat.mul_le_mul_left (4 * (l + 1) + 3000) hby) (by omega)
  intro a' c' m' ho' hg
  refine h a' c' m' (((Le.set hb _).chg _).trans hg.1 (fun _ _ e => e)) ho' ?_
  rcases hg.2 with e | e
  · exact .inl e
  · exact .inr (Fresh.le (Le.set hb _) e)
/-- Writing one cell of an element of an own row. -/
theorem Own.stN {m : Mem} {e : TypeId} {sz : Nat} {a : Option Addr} {l c : Nat} {xs : List Value} (h : Own m e sz a l c xs) {i : Int} (h0 : 0 ≤ i) (h1 : i < l) {j : Nat} (hj : j < sz) {v : Value} (hv : notOne v = false) {K : Mem → Prop}
    (k : ∀ m', Chg (fun b => blk a = some b) m m' → Own m' e sz a l c (xs.set (i.toNat * sz + j) v) → K m') : IxS a l i sz (fun b o => St1 m b (o + j) v K) := by
  obtain ⟨hl, hx⟩ := h
  rcases hx with ⟨rfl, rfl, rfl⟩ | ⟨b, cur, rfl, hb, hlc, hs, ht, hcm⟩
  · omega
  · refine ⟨h0, h1, ?_⟩
    have hin : i.toNat * sz + j < cur.size := by
      rw [hs]
      have : (i.toNat + 1) * sz ≤ c * sz := Nat.mul_le_mul_right _ (by omega)
      rw [Nat.add_mul, Nat.one_mul] at this
      omega
    show St1 m b (0 + i.toNat * sz + j) v K
    rw [Nat.zero_add]
    refine St1.of hb hin hv ?_
    refine k _ ((Chg.set _ _ _).mono (fun k e => by subst e; rfl)) ⟨by simpa using hl, .inr ⟨b, _, rfl, set_same _ _ _, hlc, by simp [hs], ?_, hcm⟩⟩
    rw [Array.toList_setIfInBounds, List.take_set, ht]

theorem ElemOK.of {P : Program} {t e : TypeId} {z : Value} {sz bytes : Nat} (h0 : P.underlying t = some (.slice e)) (h : (P.info? e).map (fun i => (i.zero, i.size, i.bytes)) = some (some z, sz, bytes)) (hz : z.cells.size = sz) : ElemOK P t e z sz bytes := by
  cases hi : P.info? e with
  | none => rw [hi] at h; cases h
  | some i =>
    rw [hi] at h
    simp only [Option.map_some, Option.some.injEq, Prod.mk.injEq] at h
    exact ⟨h0, ⟨i, hi, h.1, h.2.1, h.2.2⟩, hz⟩
theorem MapIB.of {P : Program} {t : TypeId} (h : (match P.underlying t with | some (.map k e) => (P.underlying k, (P.info? e).bind (·.zero)) | _ => (none, none)) = (some (.int .i64), some (.bool false))) : MapIB P t := by
  split at h
  · rename_i k e hm
    simp only [Prod.mk.injEq] at h
    exact ⟨k, e, hm, h.1, h.2⟩
  · cases h
/-- A part of a row of elements. -/
theorem CellsAt.sub {m : Mem} {a : Option Addr} {vs : List Value} {sz lo hi c : Nat} (h : CellsAt m a vs) (hh : hi * sz ≤ vs.length) (hc : hi ≤ c) : CellsAt m (shf a lo sz c) ((vs.take (hi * sz)).drop (lo * sz)) := by
  unfold shf
  split
  · rename_i e
    have hlt : hi * sz ≤ lo * sz := Nat.mul_le_mul_right _ (by omega)
    rw [List.drop_of_length_le (by rw [List.length_take]; omega)]
    exact CellsAt.empty _ _
  · rcases h.cases with ⟨b, o, rfl, hx⟩ | ⟨rfl, _⟩
    · simp only [Option.map_some, add_none]
      intro j u hu
      rw [List.getElem?_drop, List.getElem?_take] at hu
      split at hu
      · have := hx _ u hu
        rw [Nat.add_assoc]; exact this
      · cases hu
    · simp only [List.take_nil, List.drop_nil]; exact CellsAt.empty _ _
theorem Own.cap {m : Mem} {e : TypeId} {sz : Nat} {a : Option Addr} {l c : Nat} {xs : List Value} (h : Own m e sz a l c xs) : l ≤ c := by
  obtain ⟨_, hx⟩ := h
  rcases hx with ⟨_, q, r⟩ | ⟨_, _, _, _, q, _⟩ <;> omega
/-- Both cells of a block are written. -/
theorem St1.two {m : Mem} {b : Nat} {x y u v : Value} {e : TypeId} {K : Mem → Prop} (h : m b = some (.cells #[x, y] e (0, 0))) (hu : notOne u = false) (hv : notOne v = false)
    (k : K (m.set b (.cells #[u, v] e (0, 0)))) : St1 m b 0 u fun m' => St1 m' b (0 + 1) v K := by
  refine St1.to #[u, y] (o := 0) h (by simp) hu rfl ?_
  refine St1.to #[u, v] (o := 0 + 1) (set_same _ _ _) (by simp) hv rfl ?_
  rw [set_set]; exact k
/-- Rows of other kinds lie elsewhere. -/
theorem own_ne {m : Mem} {e e2 : TypeId} {sz : Nat} {a : Option Addr} {l c : Nat} {xs : List Value} {b : Nat} {cur : Array Value} {x : Nat × Nat} (h : Own m e sz a l c xs) (hb : m b = some (.cells cur e2 x)) (hne : e ≠ e2) : blk a ≠ some b := by
  intro hb2
  obtain ⟨_, hx⟩ := h
  rcases hx with ⟨rfl, _, _⟩ | ⟨b2, cur2, rfl, h2, _⟩
  · cases hb2
  · cases hb2; rw [hb] at h2; cases h2; exact hne rfl
/-- What is not of G, nor new, is not of G. -/
theorem sep_step {F F' G : Nat → Prop} {m : Mem} (hd : ∀ b, F b → ¬ G b) (hn : ∀ b, F' b → F b ∨ m b = none) (lv : ∀ b, G b → m b ≠ none) : ∀ b, F' b → ¬ G b := fun b hb hg => by
  rcases hn b hb with h | h
  · exact hd b h hg
  · exact lv b hg h
theorem sep_fresh {m : Mem} {a : Option Addr} {G : Nat → Prop} (hf : Fresh m a) (lv : ∀ b, G b → m b ≠ none) : ∀ b, blk a = some b → ¬ G b := fun b hb hg => lv b hg (hf b hb)
/-- Cells of a literal block. -/
theorem LdV.s0 {m : Mem} {b : Nat} {x : Value} {r : List Value} {e : TypeId} {fr : Nat × Nat} {K : Value → Prop} (h : m b = some (.cells (x :: r).toArray e fr)) (k : K x) : LdV m b 0 K := LdV.of h rfl k
theorem LdV.s1 {m : Mem} {b : Nat} {x0 x : Value} {r : List Value} {e : TypeId} {fr : Nat × Nat} {K : Value → Prop} (h : m b = some (.cells (x0 :: x :: r).toArray e fr)) (k : K x) : LdV m b 1 K := LdV.of h rfl k
theorem LdV.s2 {m : Mem} {b : Nat} {x0 x1 x : Value} {r : List Value} {e : TypeId} {fr : Nat × Nat} {K : Value → Prop} (h : m b = some (.cells (x0 :: x1 :: x :: r).toArray e fr)) (k : K x) : LdV m b 2 K := LdV.of h rfl k
theorem LdV.s3 {m : Mem} {b : Nat} {x0 x1 x2 x : Value} {r : List Value} {e : TypeId} {fr : Nat × Nat} {K : Value → Prop} (h : m b = some (.cells (x0 :: x1 :: x2 :: x :: r).toArray e fr)) (k : K x) : LdV m b 3 K := LdV.of h rfl k
theorem LdV.s4 {m : Mem} {b : Nat} {x0 x1 x2 x3 x : Value} {r : List Value} {e : TypeId} {fr : Nat × Nat} {K : Value → Prop} (h : m b = some (.cells (x0 :: x1 :: x2 :: x3 :: x :: r).toArray e fr)) (k : K x) : LdV m b 4 K := LdV.of h rfl k
theorem LdV.s5 {m : Mem} {b : Nat} {x0 x1 x2 x3 x4 x : Value} {r : List Value} {e : TypeId} {fr : Nat × Nat} {K : Value → Prop} (h : m b = some (.cells (x0 :: x1 :: x2 :: x3 :: x4 :: x :: r).toArray e fr)) (k : K x) : LdV m b 5 K := LdV.of h rfl k
theorem UnS.mk {a : Option Addr} {l c : Nat} {K : Option Addr → Nat → Nat → Prop} (h : K a l c) : UnS (.slice a l c) K := h
theorem UnB.mk {b : Bool} {K : Bool → Prop} (h : K b) : UnB (.bool b) K := h
theorem UnP.mk {a : Option Addr} {K : Option Addr → Prop} (h : K a) : UnP (.pointer a) K := h
theorem UnStr.mk {a : ByteArray} {K : ByteArray → Prop} (h : K a) : UnStr (.string a) K := h
theorem UnTup.mk {l : List Value} {K : List Value → Prop} (h : K l) : UnTup (.tuple l.toArray) K := h
theorem UnAgg.mk {l : List Value} {K : List Value → Prop} (h : K l) : UnAgg (.agg l.toArray) K := h
theorem UnCons.mk {x : Value} {l : List Value} {K : Value → List Value → Prop} (h : K x l) : UnCons (x :: l) K := h
theorem UnNil.mk {K : Prop} (h : K) : UnNil [] K := h
end Go.H
