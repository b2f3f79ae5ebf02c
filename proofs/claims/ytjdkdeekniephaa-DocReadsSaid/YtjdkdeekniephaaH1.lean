/- A memory without a tape: what a piece of an operation's meaning ('Sem') asks of the heap as a map, and that the machine's own run meets it. -/
import Derived.Calls
import Derived.OrdersHeld
import Derived.KernelRfl
namespace Go.H

/-- The heap as a map; not every block is told. -/
abbrev Mem := Nat → Option Obj

def Mem.set (m : Mem) (b : Nat) (o : Obj) : Mem := fun k => if k = b then some o else m k

/-- What the map says of the world's heap is so. -/
def Fit (m : Mem) (w : World) : Prop := ∀ b o, m b = some o → w.heap[b]? = some o

/-- From w to w': what the map m does not speak of stays; m' speaks of no old block that m does not speak of. -/
structure Fr (m m' : Mem) (w w' : World) : Prop where
  os : w'.os = w.os
  tape : w'.tape = w.tape
  output : w'.output = w.output
  size : w.heap.size ≤ w'.heap.size
  block : ∀ b, b < w.heap.size → m b = none → w'.heap[b]? = w.heap[b]?
  dom : ∀ b, b < w.heap.size → m b = none → m' b = none

theorem Fr.refl (m : Mem) (w : World) : Fr m m w w := ⟨rfl, rfl, rfl, Nat.le_refl _, fun _ _ _ => rfl, fun _ _ h => h⟩
theorem Fr.trans {m m1 m2 : Mem} {w w1 w2 : World} (h : Fr m m1 w w1) (k : Fr m1 m2 w1 w2) : Fr m m2 w w2 :=
  ⟨k.os.trans h.os, k.tape.trans h.tape, k.output.trans h.output, Nat.le_trans h.size k.size,
   fun b hb hm => (k.block b (Nat.lt_of_lt_of_le hb h.size) (h.dom b hb hm)).trans (h.block b hb hm),
   fun b hb hm => k.dom b (Nat.lt_of_lt_of_le hb h.size) (h.dom b hb hm)⟩

theorem Fit.lt {m : Mem} {w : World} (h : Fit m w) {b : Nat} {o : Obj} (hb : m b = some o) : b < w.heap.size := by
  have := h b o hb
  rcases Nat.lt_or_ge b w.heap.size with h1 | h1
  · exact h1
  · rw [Array.getElem?_eq_none h1] at this; cases this

theorem Fit.fresh {m : Mem} {w : World} (h : Fit m w) : m w.heap.size = none := by
  cases hm : m w.heap.size with
  | none => rfl
  | some o => exact absurd (h.lt hm) (Nat.lt_irrefl _)

/-- The cell of a block. -/
def Mem.cell (m : Mem) (b o : Nat) : Option Value :=
  match m b with
  | some (.cells c _ _) => c[o]?
  | _ => none

def shapeOf : Obj → Option (TypeId × Nat)
  | .cells c e _ => some (e, c.size)
  | _ => none
def frozenOf (o : Obj) (i : Nat) : Bool :=
  match o with
  | .cells _ _ (lo, hi) => lo ≤ i && i < hi
  | _ => false
/-- A block behind a 'freeze'. -/
def freezeObj (a : Addr) (n : Nat) : Obj → Obj
  | .cells c e (lo, hi) => .cells c e (if lo == hi then (a.off, a.off + n) else (min lo a.off, max hi (a.off + n)))
  | o => o
def isCells : Obj → Bool
  | .cells .. => true
  | _ => false

def notOne : Value → Bool
  | .agg _ | .tuple _ => true
  | _ => false

/-- What 'Sem' asks of the map: Q at its value, E at a panic; what it halts by besides is refused. -/
def pt (P : Program) {α : Type} : Sem α → (α → Mem → Prop) → (Value → Mem → Prop) → Mem → Prop
  | .pure a, Q, _, m => Q a m
  | .load _ a k, Q, E, m => a.spot = none ∧ ∃ v, m.cell a.block a.off = some v ∧ pt P (k v) Q E m
  | .store _ a v k, Q, E, m => a.spot = none ∧ notOne v = false ∧ ∃ c e lo hi, m a.block = some (.cells c e (lo, hi)) ∧ a.off < c.size ∧ (lo ≤ a.off && a.off < hi) = false ∧
      pt P k Q E (m.set a.block (.cells (c.setIfInBounds a.off v) e (lo, hi)))
  | .new o k, Q, E, m => ∀ b, m b = none → pt P (k b) Q E (m.set b o)
  | .shape r k, Q, E, m => ∃ o, m r = some o ∧ pt P (k (shapeOf o)) Q E m
  | .freeze a n k, Q, E, m => if n = 0 then pt P k Q E m else ∃ o, m a.block = some o ∧ pt P k Q E (m.set a.block (freezeObj a n o))
  | .frozen a k, Q, E, m => ∃ o, m a.block = some o ∧ pt P (k (frozenOf o a.off)) Q E m
  | .getObj r k, Q, E, m => ∃ o, m r = some o ∧ isCells o = false ∧ pt P (k o) Q E m
  | .setObj r o' k, Q, E, m => ∃ o, m r = some o ∧ isCells o = false ∧ pt P k Q E (m.set r o')
  | .choose q k, Q, E, m => if q.forced then pt P (k 0) Q E m else ∀ t, pt P (k (q.cut t)) Q E m
  | .sys _ _, _, _, _ => False
  | .program k, Q, E, m => pt P (k P) Q E m
  | .mark _ k, Q, E, m => pt P k Q E m
  | .halt (.panic v), _, E, m => E v m
  | .halt _, _, _, _ => False

def Out {α : Type} (Q : α → Mem → Prop) (E : Value → Mem → Prop) (m : Mem) (w : World) : Result α → Prop
  | .ok a w' => ∃ m', Q a m' ∧ Fit m' w' ∧ Fr m m' w w'
  | .halt (.panic v) w' => ∃ m', E v m' ∧ Fit m' w' ∧ Fr m m' w w'
  | .halt _ _ => False

theorem Out.of {α : Type} {Q : α → Mem → Prop} {E : Value → Mem → Prop} {m m1 : Mem} {w w1 : World} {r : Result α} (f : Fr m m1 w w1) (h : Out Q E m1 w1 r) : Out Q E m w r := by
  unfold Out at *
  split at h
  · obtain ⟨m', q, a, b⟩ := h; exact ⟨m', q, a, f.trans b⟩
  · obtain ⟨m', q, a, b⟩ := h; exact ⟨m', q, a, f.trans b⟩
  · exact h.elim

theorem cell?_of {m : Mem} {w : World} (hf : Fit m w) {a : Addr} {v : Value} (hs : a.spot = none) (h : m.cell a.block a.off = some v) : w.cell? a = some v := by
  unfold Mem.cell at h
  cases hb : m a.block with
  | none => simp [hb] at h
  | some o =>
    have hw := hf _ _ hb
    simp only [hb] at h
    cases o <;> simp_all [World.cell?]

theorem fit_set {m : Mem} {w : World} (hf : Fit m w) {b : Nat} {o' o : Obj} (hb : m b = some o') :
    Fit (m.set b o) { w with heap := w.heap.setIfInBounds b o } ∧ Fr m (m.set b o) w { w with heap := w.heap.setIfInBounds b o } := by
  have hlt := hf.lt hb
  refine ⟨fun k o1 hk => ?_, rfl, rfl, rfl, by simp, fun k hk hm => ?_, fun k hk hm => ?_⟩
  · simp only [Mem.set] at hk
    split at hk
    · rename_i e; subst e; simp at hk; subst hk; simp [hlt]
    · rename_i e; simp [Ne.symm e, hf _ _ hk]
  · have : b ≠ k := fun e => by subst e; rw [hm] at hb; cases hb
    simp [this]
  · have : k ≠ b := fun e => by subst e; rw [hm] at hb; cases hb
    simp [Mem.set, this, hm]

theorem setCell_eq {w : World} {a : Addr} {c : Array Value} {e : TypeId} {fr : Nat × Nat} {v : Value} (hs : a.spot = none) (h : w.heap[a.block]? = some (.cells c e fr)) :
    w.setCell a v = { w with heap := w.heap.setIfInBounds a.block (.cells (c.setIfInBounds a.off v) e fr) } := by
  unfold World.setCell
  congr 1
  apply Array.ext_getElem?
  intro i
  by_cases hi : a.block = i
  · subst hi
    have hlt : a.block < w.heap.size := by
      rcases Nat.lt_or_ge a.block w.heap.size with h1 | h1
      · exact h1
      · rw [Array.getElem?_eq_none h1] at h; cases h
    have hg : w.heap[a.block] = .cells c e fr := by simpa [Array.getElem?_eq_getElem hlt] using h
    simp [hs, hlt, hg, Array.getElem_modify]
  · simp [Array.getElem?_modify, hi]

theorem freeze_eq {w : World} {a : Addr} {n : Nat} {o : Obj} (hn : n ≠ 0) (h : w.heap[a.block]? = some o) :
    w.freeze a n = { w with heap := w.heap.setIfInBounds a.block (freezeObj a n o) } := by
  unfold World.freeze
  rw [if_neg hn]
  congr 1
  apply Array.ext_getElem?
  intro i
  by_cases hi : a.block = i
  · subst hi
    have hlt : a.block < w.heap.size := by
      rcases Nat.lt_or_ge a.block w.heap.size with h1 | h1
      · exact h1
      · rw [Array.getElem?_eq_none h1] at h; cases h
    have hg : w.heap[a.block] = o := by simpa [Array.getElem?_eq_getElem hlt] using h
    cases o <;> simp [hlt, hg, Array.getElem_modify, freezeObj]
  · simp [Array.getElem?_modify, hi]

theorem fit_new {m : Mem} {w : World} (hf : Fit m w) (o : Obj) :
    Fit (m.set w.heap.size o) { w with heap := w.heap.push o } ∧ Fr m (m.set w.heap.size o) w { w with heap := w.heap.push o } := by
  refine ⟨fun k o1 hk => ?_, rfl, rfl, rfl, by simp, fun k hk hm => ?_, fun k hk hm => ?_⟩
  · simp only [Mem.set] at hk
    split at hk
    · rename_i e; subst e; simp at hk; subst hk; simp
    · have := hf _ _ hk
      have hl := hf.lt hk
      simp [Array.getElem?_push, Nat.ne_of_lt hl, this]
  · simp [Array.getElem?_push, Nat.ne_of_lt hk]
  · simp [Mem.set, Nat.ne_of_lt hk, hm]

theorem pt_sound (P : Program) {α : Type} {Q : α → Mem → Prop} {E : Value → Mem → Prop} :
    ∀ (s : Sem α) (m : Mem) (w : World), Fit m w → pt P s Q E m → Out Q E m w (s.run P w) := by
  intro s
  induction s with
  | pure a => intro m w hf h; exact ⟨m, h, hf, Fr.refl _ _⟩
  | load md a k ih =>
    intro m w hf h
    obtain ⟨hs, v, hv, hk⟩ := h
    simp only [Sem.run, cell?_of hf hs hv]
    exact ih v m w hf hk
  | store md a v k ih =>
    intro m w hf h
    obtain ⟨hs, hn, c, e, lo, hi, hb, ho, hz, hk⟩ := h
    have hw := hf _ _ hb
    have hc : w.cell? a = some c[a.off] := by simp [World.cell?, hw, hs, ho]
    have hfz : w.frozen? a = false := by simpa [World.frozen?, hw] using hz
    have hrun : (Sem.store md a v k).run P w = k.run P (w.setCell a v) := by
      cases v <;> simp_all [Sem.run, notOne]
    rw [hrun, setCell_eq hs hw]
    obtain ⟨h1, h2⟩ := fit_set (o := .cells (c.setIfInBounds a.off v) e (lo, hi)) hf hb
    exact Out.of h2 (ih _ _ h1 hk)
  | new o k ih =>
    intro m w hf h
    obtain ⟨h1, h2⟩ := fit_new hf o
    exact Out.of h2 (ih _ _ _ h1 (h _ hf.fresh))
  | shape r k ih =>
    intro m w hf h
    obtain ⟨o, hb, hk⟩ := h
    have hw := hf _ _ hb
    have : w.shape? r = shapeOf o := by
      cases o <;> simp [World.shape?, hw, shapeOf]
    simp only [Sem.run, this]
    exact ih _ m w hf hk
  | freeze a n k ih =>
    intro m w hf h
    simp only [pt] at h
    simp only [Sem.run]
    by_cases hn : n = 0
    · rw [if_pos hn] at h
      have : w.freeze a n = w := by simp [World.freeze, hn]
      rw [this]; exact ih m w hf h
    · rw [if_neg hn] at h
      obtain ⟨o, hb, hk⟩ := h
      obtain ⟨h1, h2⟩ := fit_set (o := freezeObj a n o) hf hb
      rw [freeze_eq hn (hf _ _ hb)]
      exact Out.of h2 (ih _ _ h1 hk)
  | frozen a k ih =>
    intro m w hf h
    obtain ⟨o, hb, hk⟩ := h
    have hw := hf _ _ hb
    have : w.frozen? a = frozenOf o a.off := by
      cases o <;> simp [World.frozen?, hw, frozenOf]
    simp only [Sem.run, this]
    exact ih _ m w hf hk
  | getObj r k ih =>
    intro m w hf h
    obtain ⟨o, hb, hc, hk⟩ := h
    have hw := hf _ _ hb
    cases o <;> first | (simp [isCells] at hc; done) | (simp only [Sem.run, hw]; exact ih _ m w hf hk)
  | setObj r o' k ih =>
    intro m w hf h
    obtain ⟨o, hb, hc, hk⟩ := h
    have hw := hf _ _ hb
    obtain ⟨h1, h2⟩ := fit_set (o := o') hf hb
    cases o <;> first | (simp [isCells] at hc; done) | (simp only [Sem.run, hw]; exact Out.of h2 (ih _ _ h1 hk))
  | choose q k ih =>
    intro m w hf h
    simp only [pt] at h
    simp only [Sem.run]
    split
    · rename_i hq; simp only [hq, if_true] at h; exact ih _ m w hf h
    · rename_i hq
      simp only [hq] at h
      have h1 : Fit m { w with drawn := w.drawn + 1 } := hf
      have h2 : Fr m m w { w with drawn := w.drawn + 1 } := ⟨rfl, rfl, rfl, Nat.le_refl _, fun _ _ _ => rfl, fun _ _ h => h⟩
      exact Out.of h2 (ih _ _ _ h1 (h _))
  | sys c k ih => intro m w hf h; exact h.elim
  | program k ih => intro m w hf h; exact ih _ m w hf h
  | mark mk k ih => intro m w hf h; exact ih m w hf h
  | halt x =>
    intro m w hf h
    cases x <;> first | exact h.elim | exact ⟨m, h, hf, Fr.refl _ _⟩

/-- The same for what only reads, and answers one value: whatever world bears the map. -/
def pq (P : Program) {α : Type} : Sem α → (α → Prop) → Mem → Prop
  | .pure a, Q, _ => Q a
  | .load _ a k, Q, m => a.spot = none ∧ ∃ v, m.cell a.block a.off = some v ∧ pq P (k v) Q m
  | .shape r k, Q, m => ∃ o, m r = some o ∧ pq P (k (shapeOf o)) Q m
  | .frozen a k, Q, m => ∃ o, m a.block = some o ∧ pq P (k (frozenOf o a.off)) Q m
  | .getObj r k, Q, m => ∃ o, m r = some o ∧ isCells o = false ∧ pq P (k o) Q m
  | .program k, Q, m => pq P (k P) Q m
  | .mark _ k, Q, m => pq P k Q m
  | _, _, _ => False

theorem pq_sound (P : Program) {α : Type} {Q : α → Prop} {m : Mem} :
    ∀ (s : Sem α), pq P s Q m → ∃ a, Q a ∧ ∀ w, Fit m w → s.run P w = .ok a w := by
  intro s
  induction s with
  | pure a => intro h; exact ⟨a, h, fun _ _ => rfl⟩
  | load md a k ih =>
    intro h
    obtain ⟨hs, v, hv, hk⟩ := h
    obtain ⟨x, hx, hr⟩ := ih v hk
    exact ⟨x, hx, fun w hf => by simp only [Sem.run, cell?_of hf hs hv]; exact hr w hf⟩
  | shape r k ih =>
    intro h
    obtain ⟨o, hb, hk⟩ := h
    obtain ⟨x, hx, hr⟩ := ih _ hk
    refine ⟨x, hx, fun w hf => ?_⟩
    have hw := hf _ _ hb
    have : w.shape? r = shapeOf o := by cases o <;> simp [World.shape?, hw, shapeOf]
    simp only [Sem.run, this]; exact hr w hf
  | frozen a k ih =>
    intro h
    obtain ⟨o, hb, hk⟩ := h
    obtain ⟨x, hx, hr⟩ := ih _ hk
    refine ⟨x, hx, fun w hf => ?_⟩
    have hw := hf _ _ hb
    have : w.frozen? a = frozenOf o a.off := by cases o <;> simp [World.frozen?, hw, frozenOf]
    simp only [Sem.run, this]; exact hr w hf
  | getObj r k ih =>
    intro h
    obtain ⟨o, hb, hc, hk⟩ := h
    obtain ⟨x, hx, hr⟩ := ih _ hk
    refine ⟨x, hx, fun w hf => ?_⟩
    have hw := hf _ _ hb
    cases o <;> first | (simp [isCells] at hc; done) | (simp only [Sem.run, hw]; exact hr w hf)
  | program k ih => intro h; obtain ⟨x, hx, hr⟩ := ih _ h; exact ⟨x, hx, fun w hf => hr w hf⟩
  | mark mk k ih => intro h; obtain ⟨x, hx, hr⟩ := ih h; exact ⟨x, hx, fun w hf => hr w hf⟩
  | store => intro h; exact h.elim
  | new => intro h; exact h.elim
  | freeze => intro h; exact h.elim
  | setObj => intro h; exact h.elim
  | choose => intro h; exact h.elim
  | sys => intro h; exact h.elim
  | halt => intro h; exact h.elim

theorem pt_bind (P : Program) {α β : Type} (f : α → Sem β) {Q : β → Mem → Prop} {E : Value → Mem → Prop} :
    ∀ (s : Sem α) (m : Mem), pt P (s >>= f) Q E m = pt P s (fun a m' => pt P (f a) Q E m') E m := by
  intro s
  show ∀ m, pt P (s.bind f) Q E m = _
  induction s with
  | pure a => intro m; rfl
  | halt x => intro m; cases x <;> rfl
  | sys => intro m; rfl
  | choose q k ih => intro m; simp only [Sem.bind, pt, ih]
  | _ => intro m; simp only [Sem.bind, pt, *]

theorem pt_mono (P : Program) {α : Type} {Q Q' : α → Mem → Prop} {E E' : Value → Mem → Prop} (hQ : ∀ a m, Q a m → Q' a m) (hE : ∀ v m, E v m → E' v m) :
    ∀ (s : Sem α) (m : Mem), pt P s Q E m → pt P s Q' E' m := by
  intro s
  induction s with
  | pure a => exact fun m h => hQ _ _ h
  | load md a k ih => exact fun m ⟨h, v, hv, hk⟩ => ⟨h, v, hv, ih _ _ hk⟩
  | store md a v k ih => exact fun m ⟨h1, h2, c, e, lo, hi, h3, h4, h5, hk⟩ => ⟨h1, h2, c, e, lo, hi, h3, h4, h5, ih _ hk⟩
  | new o k ih => exact fun m h b hb => ih _ _ (h b hb)
  | shape r k ih => exact fun m ⟨o, ho, hk⟩ => ⟨o, ho, ih _ _ hk⟩
  | freeze a n k ih =>
    intro m h
    simp only [pt] at h ⊢
    split
    · rename_i hn; rw [if_pos hn] at h; exact ih _ h
    · rename_i hn; rw [if_neg hn] at h; obtain ⟨o, ho, hk⟩ := h; exact ⟨o, ho, ih _ hk⟩
  | frozen a k ih => exact fun m ⟨o, ho, hk⟩ => ⟨o, ho, ih _ _ hk⟩
  | getObj r k ih => exact fun m ⟨o, ho, hc, hk⟩ => ⟨o, ho, hc, ih _ _ hk⟩
  | setObj r o k ih => exact fun m ⟨o, ho, hc, hk⟩ => ⟨o, ho, hc, ih _ hk⟩
  | choose q k ih =>
    intro m h
    simp only [pt] at h ⊢
    split
    · rename_i hn; rw [if_pos hn] at h; exact ih _ _ h
    · rename_i hn; rw [if_neg hn] at h; exact fun t => ih _ _ (h t)
  | sys => exact fun _ h => h.elim
  | program k ih => exact fun m h => ih _ _ h
  | mark mk k ih => exact fun m h => ih _ h
  | halt x => intro m h; cases x <;> first | exact h.elim | exact hE _ _ h

end Go.H
