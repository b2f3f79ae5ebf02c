/- This project's own logic, printed forms and lemmas, as far as this claim needs them (part 1). -/
import Derived.Tactics
import Derived.Calls
import Derived.OrdersHeld
import Derived.KernelRfl
import Derived.Laws.StructEq
import Derived.IntWalk
import Derived.Below
import Derived.RowKit
import Derived.ChangeArms
import Derived.OpenShut
import Derived.WideShapes
import Derived.DataElems
import Derived.Recover
import Derived.Test.YtigbchimmpjneaaProg
import Derived.Shelf.SlSortCmp.WholeK
import Derived.Shelf.SlGeneric
import Derived.Ground.SlsfProg
import Derived.WalkKit
import Derived.ProofKit
namespace Go.H
/-- The heap as a map; not every block is told. -/
abbrev Mem := Nat → Option Obj
def Mem.set (m : Mem) (b : Nat) (o : Obj) : Mem := fun k => if k = b then some o else m k
/-- What the map says of the world's heap is so. -/
def Fit (m : Mem) (w : World) : Prop := ∀ b o, m b = some o → w.heap[b]? = some o
/-- From w to w': what the map m does not speak of stays; m' speaks of no old block that m does not speak of. -/
structure Fr (m m' : Mem) (w w' : World) : Prop where
  os : w'.os = w.os
  tape : w'.tape = w.tape
  output : w'.output = w.output
  size : w.heap.size ≤ w'.heap.size
  block : ∀ b, b < w.heap.size → m b = none → w'.heap[b]? = w.heap[b]?
  dom : ∀ b, b < w.heap.size → m b = none → m' b = none
theorem Fr.refl (m : Mem) (w : World) : Fr m m w w := ⟨rfl, rfl, rfl, Nat.le_refl _, fun _ _ _ => rfl, fun _ _ h => h⟩
theorem Fr.trans {m m1 m2 : Mem} {w w1 w2 : World} (h : Fr m m1 w w1) (k : Fr m1 m2 w1 w2) : Fr m m2 w w2 :=
  ⟨k.os.trans h.os, k.tape.trans h.tape, k.output.trans h.output, Nat.le_trans h.size k.size,
   fun b hb hm => (k.block b (Nat.lt_of_lt_of_le hb h.size) (h.dom b hb hm)).trans (h.block b hb hm),
   fun b hb hm => k.dom b (Nat.lt_of_lt_of_le hb h.size) (h.dom b hb hm)⟩
theorem Fit.lt {m : Mem} {w : World} (h : Fit m w) {b : Nat} {o : Obj} (hb : m b = some o) : b < w.heap.size := by
  have := h b o hb
  rcases Nat.lt_or_ge b w.heap.size with h1 | h1
  · exact h1
  · rw [Array.getElem?_eq_none h1] at this; cases this
theorem Fit.fresh {m : Mem} {w : World} (h : Fit m w) : m w.heap.size = none := by
  cases hm : m w.heap.size with
  | none => rfl
  | some o => exact absurd (h.lt hm) (Nat.lt_irrefl _)
/-- The cell of a block. -/
def Mem.cell (m : Mem) (b o : Nat) : Option Value :=
  match m b with
  | some (.cells c _ _) => c[o]?
  | _ => none
def shapeOf : Obj → Option (TypeId × Nat)
  | .cells c e _ => some (e, c.size)
  | _ => none
def frozenOf (o : Obj) (i : Nat) : Bool :=
  match o with
  | .cells _ _ (lo, hi) => lo ≤ i && i < hi
  | _ => false
/-- A block behind a 'freeze'. -/
def freezeObj (a : Addr) (n : Nat) : Obj → Obj
  | .cells c e (lo, hi) => .cells c e (if lo == hi then (a.off, a.off + n) else (min lo a.off, max hi (a.off + n)))
  | o => o
def isCells : Obj → Bool
  | .cells .. => true
  | _ => false
def notOne : Value → Bool
  | .agg _ | .tuple _ => true
  | _ => false
/-- What 'Sem' asks of the map: Q at its value, E at a panic; what it halts by besides is refused. -/
def pt (P : Program) {α : Type} : Sem α → (α → Mem → Prop) → (Value → Mem → Prop) → Mem → Prop
  | .pure a, Q, _, m => Q a m
  | .load _ a k, Q, E, m => a.spot = none ∧ ∃ v, m.cell a.block a.off = some v ∧ pt P (k v) Q E m
  | .store _ a v k, Q, E, m => a.spot = none ∧ notOne v = false ∧ ∃ c e lo hi, m a.block = some (.cells c e (lo, hi)) ∧ a.off < c.size ∧ (lo ≤ a.off && a.off < hi) = false ∧
      pt P k Q E (m.set a.block (.cells (c.setIfInBounds a.off v) e (lo, hi)))
  | .new o k, Q, E, m => ∀ b, m b = none → pt P (k b) Q E (m.set b o)
  | .shape r k, Q, E, m => ∃ o, m r = some o ∧ pt P (k (shapeOf o)) Q E m
  | .freeze a n k, Q, E, m => if n = 0 then pt P k Q E m else ∃ o, m a.block = some o ∧ pt P k Q E (m.set a.block (freezeObj a n o))
  | .frozen a k, Q, E, m => ∃ o, m a.block = some o ∧ pt P (k (frozenOf o a.off)) Q E m
  | .getObj r k, Q, E, m => ∃ o, m r = some o ∧ isCells o = false ∧ pt P (k o) Q E m
  | .setObj r o' k, Q, E, m => ∃ o, m r = some o ∧ isCells o = false ∧ pt P k Q E (m.set r o')
  | .choose q k, Q, E, m => if q.forced then pt P (k 0) Q E m else ∀ t, pt P (k (q.cut t)) Q E m
  | .sys _ _, _, _, _ => False
  | .program k, Q, E, m => pt P (k P) Q E m
  | .mark _ k, Q, E, m => pt P k Q E m
  | .halt (.panic v), _, E, m => E v m
  | .halt _, _, _, _ => False
def Out {α : Type} (Q : α → Mem → Prop) (E : Value → Mem → Prop) (m : Mem) (w : World) : Result α → Prop
  | .ok a w' => ∃ m', Q a m' ∧ Fit m' w' ∧ Fr m m' w w'
  | .halt (.panic v) w' => ∃ m', E v m' ∧ Fit m' w' ∧ Fr m m' w w'
  | .halt _ _ => False
theorem Out.of {α : Type} {Q : α → Mem → Prop} {E : Value → Mem → Prop} {m m1 : Mem} {w w1 : World} {r : Result α} (f : Fr m m1 w w1) (h : Out Q E m1 w1 r) : Out Q E m w r := by
  unfold Out at *
  split at h
  · obtain ⟨m', q, a, b⟩ := h; exact ⟨m', q, a, f.trans b⟩
  · obtain ⟨m', q, a, b⟩ := h; exact ⟨m', q, a, f.trans b⟩
  · exact h.elim
theorem cell?_of {m : Mem} {w : World} (hf : Fit m w) {a : Addr} {v : Value} (hs : a.spot = none) (h : m.cell a.block a.off = some v) : w.cell? a = some v := by
  unfold Mem.cell at h
  cases hb : m a.block with
  | none => simp [hb] at h
  | some o =>
    have hw := hf _ _ hb
    simp only [hb] at h
    cases o <;> simp_all [World.cell?]
theorem fit_set {m : Mem} {w : World} (hf : Fit m w) {b : Nat} {o' o : Obj} (hb : m b = some o') :
    Fit (m.set b o) { w with heap := w.heap.setIfInBounds b o } ∧ Fr m (m.set b o) w { w with heap := w.heap.setIfInBounds b o } := by
  have hlt := hf.lt hb
  refine ⟨fun k o1 hk => ?_, rfl, rfl, rfl, by simp, fun k hk hm => ?_, fun k hk hm => ?_⟩
  · simp only [Mem.set] at hk
    split at hk
    · rename_i e; subst e; simp at hk; subst hk; simp [hlt]
    · rename_i e; simp [Ne.symm e, hf _ _ hk]
  · have : b ≠ k := fun e => by subst e; rw [hm] at hb; cases hb
    simp [this]
  · have : k ≠ b := fun e => by subst e; rw [hm] at hb; cases hb
    simp [Mem.set, this, hm]
theorem setCell_eq {w : World} {a : Addr} {c : Array Value} {e : TypeId} {fr : Nat × Nat} {v : Value} (hs : a.spot = none) (h : w.heap[a.block]? = some (.cells c e fr)) :
    w.setCell a v = { w with heap := w.heap.setIfInBounds a.block (.cells (c.setIfInBounds a.off v) e fr) } := by
  unfold World.setCell
  congr 1
  apply Array.ext_getElem?
  intro i
  by_cases hi : a.block = i
  · subst hi
    have hlt : a.block < w.heap.size := by
      rcases Nat.lt_or_ge a.block w.heap.size with h1 | h1
      · exact h1
      · rw [Array.getElem?_eq_none h1] at h; cases h
    have hg : w.heap[a.block] = .cells c e fr := by simpa [Array.getElem?_eq_getElem hlt] using h
    simp [hs, hlt, hg, Array.getElem_modify]
  · simp [Array.getElem?_modify, hi]
theorem freeze_eq {w : World} {a : Addr} {n : Nat} {o : Obj} (hn : n ≠ 0) (h : w.heap[a.block]? = some o) :
    w.freeze a n = { w with heap := w.heap.setIfInBounds a.block (freezeObj a n o) } := by
  unfold World.freeze
  rw [if_neg hn]
  congr 1
  apply Array.ext_getElem?
  intro i
  by_cases hi : a.block = i
  · subst hi
    have hlt : a.block < w.heap.size := by
      rcases Nat.lt_or_ge a.block w.heap.size with h1 | h1
      · exact h1
      · rw [Array.getElem?_eq_none h1] at h; cases h
    have hg : w.heap[a.block] = o := by simpa [Array.getElem?_eq_getElem hlt] using h
    cases o <;> simp [hlt, hg, Array.getElem_modify, freezeObj]
  · simp [Array.getElem?_modify, hi]
theorem fit_new {m : Mem} {w : World} (hf : Fit m w) (o : Obj) :
    Fit (m.set w.heap.size o) { w with heap := w.heap.push o } ∧ Fr m (m.set w.heap.size o) w { w with heap := w.heap.push o } := by
  refine ⟨fun k o1 hk => ?_, rfl, rfl, rfl, by simp, fun k hk hm => ?_, fun k hk hm => ?_⟩
  · simp only [Mem.set] at hk
    split at hk
    · rename_i e; subst e; simp at hk; subst hk; simp
    · have := hf _ _ hk
      have hl := hf.lt hk
      simp [Array.getElem?_push, Nat.ne_of_lt hl, this]
  · simp [Array.getElem?_push, Nat.ne_of_lt hk]
  · simp [Mem.set, Nat.ne_of_lt hk, hm]
theorem pt_sound (P : Program) {α : Type} {Q : α → Mem → Prop} {E : Value → Mem → Prop} :
    ∀ (s : Sem α) (m : Mem) (w : World), Fit m w → pt P s Q E m → Out Q E m w (s.run P w) := by
  intro s
  induction s with
  | pure a => intro m w hf h; exact ⟨m, h, hf, Fr.refl _ _⟩
  | load md a k ih =>
    intro m w hf h
    obtain ⟨hs, v, hv, hk⟩ := h
    simp only [Sem.run, cell?_of hf hs hv]
    exact ih v m w hf hk
  | store md a v k ih =>
    intro m w hf h
    obtain ⟨hs, hn, c, e, lo, hi, hb, ho, hz, hk⟩ := h
    have hw := hf _ _ hb
    have hc : w.cell? a = some c[a.off] := by simp [World.cell?, hw, hs, ho]
    have hfz : w.frozen? a = false := by simpa [World.frozen?, hw] using hz
    have hrun : (Sem.store md a v k).run P w = k.run P (w.setCell a v) := by
      cases v <;> simp_all [Sem.run, notOne]
    rw [hrun, setCell_eq hs hw]
    obtain ⟨h1, h2⟩ := fit_set (o := .cells (c.setIfInBounds a.off v) e (lo, hi)) hf hb
    exact Out.of h2 (ih _ _ h1 hk)
  | new o k ih =>
    intro m w hf h
    obtain ⟨h1, h2⟩ := fit_new hf o
    exact Out.of h2 (ih _ _ _ h1 (h _ hf.fresh))
  | shape r k ih =>
    intro m w hf h
    obtain ⟨o, hb, hk⟩ := h
    have hw := hf _ _ hb
    have : w.shape? r = shapeOf o := by
      cases o <;> simp [World.shape?, hw, shapeOf]
    simp only [Sem.run, this]
    exact ih _ m w hf hk
  | freeze a n k ih =>
    intro m w hf h
    simp only [pt] at h
    simp only [Sem.run]
    by_cases hn : n = 0
    · rw [if_pos hn] at h
      have : w.freeze a n = w := by simp [World.freeze, hn]
      rw [this]; exact ih m w hf h
    · rw [if_neg hn] at h
      obtain ⟨o, hb, hk⟩ := h
      obtain ⟨h1, h2⟩ := fit_set (o := freezeObj a n o) hf hb
      rw [freeze_eq hn (hf _ _ hb)]
      exact Out.of h2 (ih _ _ h1 hk)
  | frozen a k ih =>
    intro m w hf h
    obtain ⟨o, hb, hk⟩ := h
    have hw := hf _ _ hb
    have : w.frozen? a = frozenOf o a.off := by
      cases o <;> simp [World.frozen?, hw, frozenOf]
    simp only [Sem.run, this]
    exact ih _ m w hf hk
  | getObj r k ih =>
    intro m w hf h
    obtain ⟨o, hb, hc, hk⟩ := h
    have hw := hf _ _ hb
    cases o <;> first | (simp [isCells] at hc; done) | (simp only [Sem.run, hw]; exact ih _ m w hf hk)
  | setObj r o' k ih =>
    intro m w hf h
    obtain ⟨o, hb, hc, hk⟩ := h
    have hw := hf _ _ hb
    obtain ⟨h1, h2⟩ := fit_set (o := o') hf hb
    cases o <;> first | (simp [isCells] at hc; done) | (simp only [Sem.run, hw]; exact Out.of h2 (ih _ _ h1 hk))
  | choose q k ih =>
    intro m w hf h
    simp only [pt] at h
    simp only [Sem.run]
    split
    · rename_i hq; simp only [hq, if_true] at h; exact ih _ m w hf h
    · rename_i hq
      simp only [hq] at h
      have h1 : Fit m { w with drawn := w.drawn + 1 } := hf
      have h2 : Fr m m w { w with drawn := w.drawn + 1 } := ⟨rfl, rfl, rfl, Nat.le_refl _, fun _ _ _ => rfl, fun _ _ h => h⟩
      exact Out.of h2 (ih _ _ _ h1 (h _))
  | sys c k ih => intro m w hf h; exact h.elim
  | program k ih => intro m w hf h; exact ih _ m w hf h
  | mark mk k ih => intro m w hf h; exact ih m w hf h
  | halt x =>
    intro m w hf h
    cases x <;> first | exact h.elim | exact ⟨m, h, hf, Fr.refl _ _⟩
/-- The same for what only reads, and answers one value: whatever world bears the map. -/
def pq (P : Program) {α : Type} : Sem α → (α → Prop) → Mem → Prop
  | .pure a, Q, _ => Q a
  | .load _ a k, Q, m => a.spot = none ∧ ∃ v, m.cell a.block a.off = some v ∧ pq P (k v) Q m
  | .shape r k, Q, m => ∃ o, m r = some o ∧ pq P (k (shapeOf o)) Q m
  | .frozen a k, Q, m => ∃ o, m a.block = some o ∧ pq P (k (frozenOf o a.off)) Q m
  | .getObj r k, Q, m => ∃ o, m r = some o ∧ isCells o = false ∧ pq P (k o) Q m
  | .program k, Q, m => pq P (k P) Q m
  | .mark _ k, Q, m => pq P k Q m
  | _, _, _ => False
theorem pq_sound (P : Program) {α : Type} {Q : α → Prop} {m : Mem} :
    ∀ (s : Sem α), pq P s Q m → ∃ a, Q a ∧ ∀ w, Fit m w → s.run P w = .ok a w := by
  intro s
  induction s with
  | pure a => intro h; exact ⟨a, h, fun _ _ => rfl⟩
  | load md a k ih =>
    intro h
    obtain ⟨hs, v, hv, hk⟩ := h
    obtain ⟨x, hx, hr⟩ := ih v hk
    exact ⟨x, hx, fun w hf => by simp only [Sem.run, cell?_of hf hs hv]; exact hr w hf⟩
  | shape r k ih =>
    intro h
    obtain ⟨o, hb, hk⟩ := h
    obtain ⟨x, hx, hr⟩ := ih _ hk
    refine ⟨x, hx, fun w hf => ?_⟩
    have hw := hf _ _ hb
    have : w.shape? r = shapeOf o := by cases o <;> simp [World.shape?, hw, shapeOf]
    simp only [Sem.run, this]; exact hr w hf
  | frozen a k ih =>
    intro h
    obtain ⟨o, hb, hk⟩ := h
    obtain ⟨x, hx, hr⟩ := ih _ hk
    refine ⟨x, hx, fun w hf => ?_⟩
    have hw := hf _ _ hb
    have : w.frozen? a = frozenOf o a.off := by cases o <;> simp [World.frozen?, hw, frozenOf]
    simp only [Sem.run, this]; exact hr w hf
  | getObj r k ih =>
    intro h
    obtain ⟨o, hb, hc, hk⟩ := h
    obtain ⟨x, hx, hr⟩ := ih _ hk
    refine ⟨x, hx, fun w hf => ?_⟩
    have hw := hf _ _ hb
    cases o <;> first | (simp [isCells] at hc; done) | (simp only [Sem.run, hw]; exact hr w hf)
  | program k ih => intro h; obtain ⟨x, hx, hr⟩ := ih _ h; exact ⟨x, hx, fun w hf => hr w hf⟩
  | mark mk k ih => intro h; obtain ⟨x, hx, hr⟩ := ih h; exact ⟨x, hx, fun w hf => hr w hf⟩
  | store => intro h; exact h.elim
  | new => intro h; exact h.elim
  | freeze => intro h; exact h.elim
  | setObj => intro h; exact h.elim
  | choose => intro h; exact h.elim
  | sys => intro h; exact h.elim
  | halt => intro h; exact h.elim
theorem pt_bind (P : Program) {α β : Type} (f : α → Sem β) {Q : β → Mem → Prop} {E : Value → Mem → Prop} :
    ∀ (s : Sem α) (m : Mem), pt P (s >>= f) Q E m = pt P s (fun a m' => pt P (f a) Q E m') E m := by
  intro s
  show ∀ m, pt P (s.bind f) Q E m = _
  induction s with
  | pure a => intro m; rfl
  | halt x => intro m; cases x <;> rfl
  | sys => intro m; rfl
  | choose q k ih => intro m; simp only [Sem.bind, pt, ih]
  | _ => intro m; simp only [Sem.bind, pt, *]
theorem pt_mono (P : Program) {α : Type} {Q Q' : α → Mem → Prop} {E E' : Value → Mem → Prop} (hQ : ∀ a m, Q a m → Q' a m) (hE : ∀ v m, E v m → E' v m) :
    ∀ (s : Sem α) (m : Mem), pt P s Q E m → pt P s Q' E' m := by
  intro s
  induction s with
  | pure a => exact fun m h => hQ _ _ h
  | load md a k ih => exact fun m ⟨h, v, hv, hk⟩ => ⟨h, v, hv, ih _ _ hk⟩
  | store md a v k ih => exact fun m ⟨h1, h2, c, e, lo, hi, h3, h4, h5, hk⟩ => ⟨h1, h2, c, e, lo, hi, h3, h4, h5, ih _ hk⟩
  | new o k ih => exact fun m h b hb => ih _ _ (h b hb)
  | shape r k ih => exact fun m ⟨o, ho, hk⟩ => ⟨o, ho, ih _ _ hk⟩
  | freeze a n k ih =>
    intro m h
    simp only [pt] at h ⊢
    split
    · rename_i hn; rw [if_pos hn] at h; exact ih _ h
    · rename_i hn; rw [if_neg hn] at h; obtain ⟨o, ho, hk⟩ := h; exact ⟨o, ho, ih _ hk⟩
  | frozen a k ih => exact fun m ⟨o, ho, hk⟩ => ⟨o, ho, ih _ _ hk⟩
  | getObj r k ih => exact fun m ⟨o, ho, hc, hk⟩ => ⟨o, ho, hc, ih _ _ hk⟩
  | setObj r o k ih => exact fun m ⟨o, ho, hc, hk⟩ => ⟨o, ho, hc, ih _ hk⟩
  | choose q k ih =>
    intro m h
    simp only [pt] at h ⊢
    split
    · rename_i hn; rw [if_pos hn] at h; exact ih _ _ h
    · rename_i hn; rw [if_neg hn] at h; exact fun t => ih _ _ (h t)
  | sys => exact fun _ h => h.elim
  | program k ih => exact fun m h => ih _ _ h
  | mark mk k ih => exact fun m h => ih _ h
  | halt x => intro m h; cases x <;> first | exact h.elim | exact hE _ _ h
end Go.H
namespace Go.H
abbrev Env := Nat → Value
def upd (ρ : Env) (t : Nat) (v : Value) : Env := fun s => bif Nat.beq s t then v else ρ s
def putE (ρ : Env) : Option Tmp → Value → Env
  | some d, v => upd ρ d v
  | none, _ => ρ
def evr (ρ : Env) : Operand → Value
  | .tmp t => ρ t
  | .const v => v
  | .global g => .pointer (some ⟨g, 0, none⟩)
  | .func f => .func (.func f) #[] #[]
theorem upd_self {ρ : Env} {t : Nat} {v : Value} (h : ρ t = v) : upd ρ t v = ρ := by
  funext s
  unfold upd
  cases hb : Nat.beq s t with
  | true => simp [Nat.eq_of_beq_eq_true hb, h]
  | false => simp
/-- What stays as it is while a function's code runs: what it has deferred, and the temporaries below a bound. -/
structure DS where
  l : List Deferred
  lo : Nat
  z : Nat → Value
structure Ag (n : Nat) (ds : DS) (ρ : Env) (a : Act) : Prop where
  size : a.tmps.size = n
  get : ∀ t, a.tmps.getD t undef = ρ t
  defers : a.defers = ds.l
  keep : ∀ t, t < ds.lo → ρ t = ds.z t
theorem Ag.pan {n : Nat} {ds : DS} {ρ : Env} {a : Act} (h : Ag n ds ρ a) : a.defers = ds.l ∧ ∀ t, t < ds.lo → a.tmps.getD t undef = ds.z t :=
  ⟨h.defers, fun t ht => (h.get t).trans (h.keep t ht)⟩
def dstOk (lo n : Nat) (o : Oper) : Bool :=
  match o.dst with
  | some d => Nat.ble lo d && Nat.blt d n
  | none => true
section
variable {n : Nat} {ds : DS} {ρ : Env} {a : Act}
theorem Ag.eval (h : Ag n ds ρ a) : a.eval = evr ρ := by
  funext x
  cases x <;> simp [Act.eval, evr, h.get]
theorem Ag.put (h : Ag n ds ρ a) {dst : Option Tmp} (hd : ∀ d, dst = some d → ds.lo ≤ d ∧ d < n) (v : Value) : Ag n ds (putE ρ dst v) (a.put dst v) := by
  cases dst with
  | none => exact h
  | some d =>
    obtain ⟨hlo, hlt⟩ := hd d rfl
    refine ⟨by simp [Act.put, h.size], fun t => ?_, by simp [Act.put, h.defers], fun t ht => ?_⟩
    rotate_left
    · have : Nat.beq t d = false := by
        cases hb : Nat.beq t d with
        | false => rfl
        | true => exact absurd (Nat.eq_of_beq_eq_true hb) (by omega)
      simp only [putE, upd, this, cond_false]
      exact h.keep t ht
    simp only [Act.put, putE, upd]
    have hsz := h.size
    by_cases e : t = d
    · subst e
      simp [hsz, hlt]
    · have : Nat.beq t d = false := by
        cases hb : Nat.beq t d with
        | false => rfl
        | true => exact absurd (Nat.eq_of_beq_eq_true hb) e
      have e' : ¬ d = t := fun x => e x.symm
      rw [this]
      show _ = ρ t
      rw [← h.get t]
      simp [e']
theorem dst_lt {o : Oper} (h : dstOk ds.lo n o = true) : ∀ d, o.dst = some d → ds.lo ≤ d ∧ d < n := by
  intro d hd
  simpa [dstOk, hd] using h
end
inductive Kd where
  | bool | int (k : IntKind) | str | ptr | sl | map | any
abbrev UnB (v : Value) (K : Bool → Prop) : Prop := match v with | .bool b => K b | _ => False
abbrev UnI (v : Value) (k : IntKind) (K : Int → Prop) : Prop := match v with | .int k' x => (match decEq k' k with | isTrue _ => K x | isFalse _ => False) | _ => False
abbrev UnStr (v : Value) (K : ByteArray → Prop) : Prop := match v with | .string s => K s | _ => False
abbrev UnP (v : Value) (K : Option Addr → Prop) : Prop := match v with | .pointer a => K a | _ => False
abbrev UnS (v : Value) (K : Option Addr → Nat → Nat → Prop) : Prop := match v with | .slice a l c => K a l c | _ => False
abbrev UnM (v : Value) (K : Option Nat → Prop) : Prop := match v with | .map r => K r | _ => False
abbrev UnAgg (v : Value) (K : List Value → Prop) : Prop := match v with | .agg cs => K cs.toList | _ => False
abbrev UnTup (v : Value) (K : List Value → Prop) : Prop := match v with | .tuple cs => K cs.toList | _ => False
abbrev UnCons (l : List Value) (K : Value → List Value → Prop) : Prop := match l with | x :: r => K x r | [] => False
abbrev UnNil (l : List Value) (K : Prop) : Prop := match l with | [] => K | _ :: _ => False
def un1 (kd : Kd) (v : Value) (K : Value → Prop) : Prop :=
  match kd with
  | .bool => UnB v fun x => K (.bool x)
  | .int k => UnI v k fun x => K (.int k x)
  | .str => UnStr v fun x => K (.string x)
  | .ptr => UnP v fun a => K (.pointer a)
  | .sl => UnS v fun a l c => K (.slice a l c)
  | .map => UnM v fun r => K (.map r)
  | .any => K v
theorem un1_sound {kd : Kd} {v : Value} {K : Value → Prop} (h : un1 kd v K) : K v := by
  cases kd <;> simp only [un1] at h
  case bool => cases v <;> first | exact h | exact h.elim
  case int k =>
    cases v <;> try exact h.elim
    case int k' x =>
      simp only [UnI] at h
      split at h
      · rename_i e _; subst e; exact h
      · exact h.elim
  case str => cases v <;> first | exact h | exact h.elim
  case ptr => cases v <;> first | exact h | exact h.elim
  case sl => cases v <;> first | exact h | exact h.elim
  case map => cases v <;> first | exact h | exact h.elim
  case any => exact h
def unL : List Kd → List Value → (List Value → Prop) → Prop
  | [], l, K => UnNil l (K [])
  | kd :: r, l, K => UnCons l fun v t => un1 kd v fun v' => unL r t fun vs => K (v' :: vs)
theorem unL_sound : ∀ (ks : List Kd) (l : List Value) (K : List Value → Prop), unL ks l K → K l
  | [], l, K, h => by cases l <;> first | exact h | exact h.elim
  | kd :: r, l, K, h => by
    cases l with
    | nil => exact h.elim
    | cons v t => exact unL_sound r t (fun vs => K (v :: vs)) (un1_sound (K := fun v' => unL r t fun vs => K (v' :: vs)) h)
def kd1 : TypeDesc → Kd
  | .bool => .bool
  | .int k => .int k
  | .string => .str
  | .pointer _ => .ptr
  | .slice _ => .sl
  | .map _ _ => .map
  | _ => .any
def isAggD : TypeDesc → Bool
  | .struct _ | .array _ _ => true
  | _ => false
/-- The cells of a type, kind by kind. -/
def kds (P : Program) : Nat → TypeId → List Kd
  | 0, _ => []
  | f + 1, t =>
    match P.underlying t with
    | some (.struct fs) => fs.toList.flatMap fun fd => kds P f fd.type
    | some (.array n e) => (List.replicate n (kds P f e)).flatten
    | some d => [kd1 d]
    | none => []
def szOf (P : Program) (t : TypeId) : Nat := ((P.info? t).map (·.size)).getD 0
def infoOk (P : Program) (t : TypeId) (n : Nat) : Bool :=
  match P.info? t with
  | some i => Nat.beq i.size n
  | none => false
/-- A result, typed. -/
def unT (P : Program) (f : Nat) (t : TypeId) (v : Value) (K : Value → Prop) : Prop :=
  match P.underlying t with
  | some d => bif isAggD d then UnAgg v fun l => unL (kds P f t) l fun vs => K (.agg vs.toArray) else un1 (kd1 d) v K
  | none => False
theorem unT_sound {P : Program} {f : Nat} {t : TypeId} {v : Value} {K : Value → Prop} (h : unT P f t v K) : K v := by
  unfold unT at h
  split at h
  · rename_i d _
    cases hd : isAggD d with
    | true =>
      simp only [hd, cond_true] at h
      cases v <;> try exact h.elim
      case agg cs => simpa using unL_sound _ _ _ h
    | false => simp only [hd, cond_false] at h; exact un1_sound h
  · exact h.elim
def unTs (P : Program) : List TypeId → List Value → (List Value → Prop) → Prop
  | [], l, K => UnNil l (K [])
  | t :: r, l, K => UnCons l fun v s => unT P 20 t v fun v' => unTs P r s fun vs => K (v' :: vs)
theorem unTs_sound {P : Program} : ∀ (ts : List TypeId) (l : List Value) (K : List Value → Prop), unTs P ts l K → K l
  | [], l, K, h => by cases l <;> first | exact h | exact h.elim
  | t :: r, l, K, h => by
    cases l with
    | nil => exact h.elim
    | cons v s => exact unTs_sound r s (fun vs => K (v :: vs)) (unT_sound (K := fun v' => unTs P r s fun vs => K (v' :: vs)) h)
/-- What a call hands back, of the operation's type. -/
def unR (P : Program) (t : TypeId) (v : Value) (K : Value → Prop) : Prop :=
  match P.underlying t with
  | some (.tuple ts) => UnTup v fun l => unTs P ts.toList l fun vs => K (.tuple vs.toArray)
  | _ => unT P 20 t v K
theorem unR_sound {P : Program} {t : TypeId} {v : Value} {K : Value → Prop} (h : unR P t v K) : K v := by
  unfold unR at h
  split at h
  · cases v <;> try exact h.elim
    case tuple cs => simpa using unTs_sound _ _ _ h
  · exact unT_sound h
def LdV (m : Mem) (b o : Nat) (K : Value → Prop) : Prop := match m.cell b o with | some v => K v | none => False
def ldL (m : Mem) (b o : Nat) : Nat → List Kd → (List Value → Prop) → Prop
  | _, [], K => K []
  | i, kd :: r, K => LdV m b (o + i) fun v => un1 kd v fun v' => ldL m b o (i + 1) r fun vs => K (v' :: vs)
def ldT (P : Program) (t : TypeId) (m : Mem) (b o : Nat) (K : Value → Prop) : Prop :=
  match P.underlying t with
  | some d =>
    bif isAggD d then
      bif infoOk P t (kds P 20 t).length then ldL m b o 0 (kds P 20 t) fun vs => K (.agg vs.toArray) else False
    else LdV m b o fun v => un1 (kd1 d) v K
  | none => False
theorem LdV.get {m : Mem} {b o : Nat} {K : Value → Prop} (h : LdV m b o K) : ∃ v, m.cell b o = some v ∧ K v := by
  unfold LdV at h
  split at h
  · rename_i v hv; exact ⟨v, hv, h⟩
  · exact h.elim
theorem LdV.mk {m : Mem} {b o : Nat} {K : Value → Prop} {v : Value} (hv : m.cell b o = some v) (h : K v) : LdV m b o K := by
  unfold LdV; rw [hv]; exact h
theorem ldL_sound {m : Mem} {b o : Nat} : ∀ (ks : List Kd) (i : Nat) (K : List Value → Prop), ldL m b o i ks K →
    ∃ vs, K vs ∧ vs.length = ks.length ∧ ∀ j u, vs[j]? = some u → m.cell b (o + (i + j)) = some u
  | [], i, K, h => ⟨[], h, rfl, fun j u hu => by simp at hu⟩
  | kd :: r, i, K, h => by
    obtain ⟨v, hv, h⟩ := LdV.get h
    obtain ⟨vs, hK, hl, hc⟩ := ldL_sound r (i + 1) _ (un1_sound h)
    refine ⟨v :: vs, hK, by simp [hl], fun j u hu => ?_⟩
    cases j with
    | zero => simp at hu; subst hu; exact hv
    | succ j =>
      have := hc j u (by simpa using hu)
      rw [show o + (i + (j + 1)) = o + (i + 1 + j) by omega]; exact this
theorem loadCells_run {P : Program} {w : World} {m : Mem} (hf : Fit m w) {b o : Nat} : ∀ (vs : List Value) (i : Nat) (acc : Array Value),
    (∀ j u, vs[j]? = some u → m.cell b (o + (i + j)) = some u) → (loadCellsFrom ⟨b, o, none⟩ i vs.length acc).run P w = .ok (acc ++ vs.toArray) w
  | [], i, acc, _ => by simp [loadCellsFrom]
  | v :: vs, i, acc, h => by
    have h0 : w.cell? ((⟨b, o, none⟩ : Addr).add i) = some v := by
      have hc := h 0 v (by simp)
      have e : (⟨b, o, none⟩ : Addr).add i = ⟨b, o + i, none⟩ := by
        unfold Addr.add; split <;> simp_all
      rw [e]
      exact cell?_of hf rfl (by simpa using hc)
    have ih := loadCells_run (P := P) hf vs (i + 1) (acc.push v) (fun j u hu => by
      have := h (j + 1) u (by simpa using hu)
      rw [show o + (i + 1 + j) = o + (i + (j + 1)) by omega]; exact this)
    simp only [List.length_cons, loadCellsFrom]
    rw [Sem.run_bind]
    simp only [run_load, h0, Result.andThen_ok, ih]
    simp
theorem isAgg_run {P : Program} {t : TypeId} {d : TypeDesc} (h : P.underlying t = some d) (w : World) : (isAgg t).run P w = .ok (isAggD d) w := by
  have : (underlying t).run P w = .ok d w := by
    show (Sem.program _).run P w = _
    simp [Sem.run, h, Sem.bind, pure]
  unfold isAgg
  rw [Sem.run_bind, this]
  simp only [Result.andThen_ok]
  cases d <;> rfl
theorem typeInfo_run {P : Program} {t : TypeId} {i : TypeInfo} (h : P.info? t = some i) (w : World) : (typeInfo t).run P w = .ok i w := by
  show (Sem.program _).run P w = _
  simp [Sem.run, h, Sem.bind, pure]
theorem sizeOf_run {P : Program} {t : TypeId} {n : Nat} (h : infoOk P t n = true) (w : World) : (Go.sizeOf t).run P w = .ok n w := by
  unfold infoOk at h
  cases hi : P.info? t with
  | none => simp [hi] at h
  | some i =>
    rw [hi] at h
    have : i.size = n := Nat.eq_of_beq_eq_true h
    unfold Go.sizeOf
    rw [Sem.run_bind, typeInfo_run hi]
    simp [this]
theorem ldT_sound {P : Program} {t : TypeId} {m : Mem} {b o : Nat} {K : Value → Prop} (h : ldT P t m b o K) :
    ∃ v, K v ∧ ∀ w, Fit m w → (loadVar t ⟨b, o, none⟩).run P w = .ok v w := by
  unfold ldT at h
  split at h
  · rename_i d hd
    cases ha : isAggD d with
    | false =>
      simp only [ha, cond_false] at h
      obtain ⟨v, hv, h⟩ := LdV.get h
      refine ⟨v, un1_sound h, fun w hf => ?_⟩
      unfold loadVar
      rw [Sem.run_bind, isAgg_run hd, ha]
      simp only [Result.andThen_ok]
      have : w.cell? ⟨b, o, none⟩ = some v := cell?_of hf rfl hv
      simp [run_load, this]
    | true =>
      simp only [ha, cond_true] at h
      cases hi : infoOk P t (kds P 20 t).length with
      | false => rw [hi] at h; exact h.elim
      | true =>
        rw [hi] at h; simp only [cond_true] at h
        obtain ⟨vs, hK, hl, hc⟩ := ldL_sound _ _ _ h
        refine ⟨.agg vs.toArray, hK, fun w hf => ?_⟩
        unfold loadVar
        rw [Sem.run_bind, isAgg_run hd, ha]
        simp only [Result.andThen_ok, if_true]
        have hsz : (Go.sizeOf t).run P w = .ok vs.length w := by
          rw [hl]; exact sizeOf_run hi w
        rw [Sem.run_bind, hsz, Result.andThen_ok, Sem.run_bind]
        simp only [loadCells]
        rw [loadCells_run hf vs 0 #[] (by simpa using hc)]
        simp
  · exact h.elim
/-- One cell is written. -/
def St1 (m : Mem) (b o : Nat) (v : Value) (K : Mem → Prop) : Prop :=
  match m b with
  | some (.cells c e (lo, hi)) => o < c.size ∧ notOne v = false ∧ (lo ≤ o && o < hi) = false ∧ K (m.set b (.cells (c.setIfInBounds o v) e (lo, hi)))
  | _ => False
def stL (b o : Nat) : Nat → List Value → (Mem → Prop) → Mem → Prop
  | _, [], K, m => K m
  | i, v :: r, K, m => St1 m b (o + i) v (stL b o (i + 1) r K)
end Go.H
namespace Go.H
/-- Either way by a Bool; written out where the Bool is. -/
def Br (b : Bool) (A B : Prop) : Prop := match b with | true => A | false => B
theorem Br.mk {b : Bool} {A B : Prop} (h : b = true → A) (k : b = false → B) : Br b A B := by
  cases b
  · exact k rfl
  · exact h rfl
theorem Br.t {b : Bool} {A B : Prop} (hb : b = true) (h : A) : Br b A B := by subst hb; exact h
theorem Br.f {b : Bool} {A B : Prop} (hb : b = false) (h : B) : Br b A B := by subst hb; exact h
abbrev NilC (a : Option Addr) (K : Nat → Nat → Prop) (N : Prop) : Prop := match a with | some ⟨b, o, none⟩ => K b o | none => N | _ => False
def IxS (a : Option Addr) (len : Nat) (i : Int) (sz : Nat) (K : Nat → Nat → Prop) : Prop :=
  0 ≤ i ∧ i < len ∧ match a with | some ⟨b, o, none⟩ => K b (o + i.toNat * sz) | _ => False
def bt (s : ByteArray) (i : Int) : Int := ((s.data.getD i.toNat 0).toNat : Int)
def IxB (s : ByteArray) (i : Int) (K : Int → Prop) : Prop := 0 ≤ i ∧ i < s.size ∧ K (bt s i)
def SlB (s : ByteArray) (l h : Int) (K : ByteArray → Prop) : Prop := 0 ≤ l ∧ l ≤ h ∧ h ≤ s.size ∧ K (s.extract l.toNat h.toNat)
def shf (a : Option Addr) (l sz cap : Nat) : Option Addr := if cap = l then a else a.map (·.add (l * sz))
def SlS (a : Option Addr) (cap : Nat) (l h : Int) (sz : Nat) (K : Option Addr → Nat → Nat → Prop) : Prop :=
  0 ≤ l ∧ l ≤ h ∧ h ≤ cap ∧ K (shf a l.toNat sz cap) (h.toNat - l.toNat) (cap - l.toNat)
def NzI (b : Int) (A : Prop) : Prop := match b with | .ofNat 0 => False | _ => A
def NnI (b : Int) (A : Prop) : Prop := match b with | .negSucc _ => False | _ => A
def CatB (x y : ByteArray) (A : Prop) : Prop := x.size + y.size ≤ 9223372036854775807 ∧ A
theorem NzI.mk {b : Int} {A : Prop} (h : b ≠ 0) (hA : A) : NzI b A := by
  unfold NzI; split <;> first | (exact absurd rfl h) | exact hA
theorem NzI.ne {b : Int} {A : Prop} (h : NzI b A) : b ≠ 0 ∧ A := by
  unfold NzI at h
  split at h
  · exact h.elim
  · rename_i hn; exact ⟨fun e => hn (by subst e; rfl), h⟩
theorem NnI.mk {b : Int} {A : Prop} (h : 0 ≤ b) (hA : A) : NnI b A := by
  unfold NnI; split <;> first | (exact absurd h (by omega)) | exact hA
theorem NnI.nn {b : Int} {A : Prop} (h : NnI b A) : 0 ≤ b ∧ A := by
  unfold NnI at h
  split at h
  · exact h.elim
  · rename_i hn
    refine ⟨?_, h⟩
    cases b with
    | ofNat k => exact Int.natCast_nonneg k
    | negSucc k => exact absurd rfl (hn k)
/-- Cells that lie where a slice's address says. -/
def CellsAt (m : Mem) (a : Option Addr) (vs : List Value) : Prop :=
  match a with
  | some ⟨b, o, none⟩ => ∀ j u, vs[j]? = some u → m.cell b (o + j) = some u
  | _ => vs = []
theorem CellsAt.cases {m : Mem} {a : Option Addr} {vs : List Value} (h : CellsAt m a vs) : (∃ b o, a = some ⟨b, o, none⟩ ∧ ∀ j u, vs[j]? = some u → m.cell b (o + j) = some u) ∨ (vs = [] ∧ (∀ b o, a ≠ some ⟨b, o, none⟩)) := by
  unfold CellsAt at h
  split at h
  · rename_i b o; exact .inl ⟨b, o, rfl, h⟩
  · rename_i hn; exact .inr ⟨h, fun b o e => hn b o e⟩
theorem CellsAt.empty (m : Mem) (a : Option Addr) : CellsAt m a [] := by
  unfold CellsAt
  split
  · intro j u hu; simp at hu
  · rfl
def u8s (bs : List UInt8) : List Value := bs.map fun b => Value.int .u8 b.toNat
/-- 'string(bytes)'. -/
def B2S (m : Mem) (a : Option Addr) (len : Nat) (K : ByteArray → Prop) : Prop :=
  ∃ bs : List UInt8, bs.length = len ∧ CellsAt m a (u8s bs) ∧ K ⟨bs.toArray⟩
/-- '[]byte(string)'. -/
def S2B (m : Mem) (e : TypeId) (s : ByteArray) (K : Value → Mem → Prop) : Prop :=
  ∀ cap b, s.size ≤ cap → m b = none → K (.slice (some ⟨b, 0, none⟩) s.size cap) (m.set b (.cells ((u8s s.data.toList ++ List.replicate (cap - s.size) (Value.int .u8 0)).toArray) e (cap, cap + 1)))
def isU8 (P : Program) (t : TypeId) : Bool := match P.underlying t with | some (.int .u8) => true | _ => false
def isPtrT (P : Program) (t : TypeId) : Bool := match P.underlying t with | some (.pointer _) => true | _ => false
def isSlT (P : Program) (t : TypeId) : Bool := match P.underlying t with | some (.slice _) => true | _ => false
def isMapT (P : Program) (t : TypeId) : Bool := match P.underlying t with | some (.map _ _) => true | _ => false
def sameK (k k' : IntKind) (A : Prop) : Prop := match decEq k k' with | isTrue _ => A | isFalse _ => False
theorem sameK.eq {k k' : IntKind} {A : Prop} (h : sameK k k' A) : k = k' ∧ A := by
  unfold sameK at h; split at h
  · rename_i e _; exact ⟨e, h⟩
  · exact h.elim
/-- An operand that names an int, or none: what stands for it. -/
def oInt (ρ : Env) (x : Option Operand) (d : Int) (K : Int → Prop) : Prop :=
  match x with
  | none => K d
  | some x => match evr ρ x with | .int _ i => K i | _ => False
def isValue (K : Value → Prop) : Next → Prop
  | .value v => K v
  | _ => False
def eqV : Value → Value → Bool
  | .bool a, .bool b => a == b
  | .int _ a, .int _ b => a == b
  | .string a, .string b => a.toList == b.toList
  | _, _ => false
def eqL : List Value → List Value → Bool
  | x :: xs, y :: ys => eqV x y && eqL xs ys
  | _, _ => true
/-- Two cells of the plain type t. -/
def eqC (P : Program) (t : TypeId) (x y : Value) : Bool :=
  match P.underlying t, x, y with
  | some .bool, .bool _, .bool _ => true
  | some (.int _), .int k _, .int k' _ => decide (k = k')
  | some .string, .string _, .string _ => true
  | _, _, _ => false
def eqF (P : Program) : List Field → Nat → List Value → List Value → Bool
  | [], _, [], [] => true
  | f :: fs, i, x :: xs, y :: ys => (f.name != "_") && Nat.beq f.offset i && eqC P f.type x y && eqF P fs (i + 1) xs ys
  | _, _, _, _ => false
def eqA (P : Program) (e : TypeId) : List Value → List Value → Bool
  | [], [] => true
  | x :: xs, y :: ys => eqC P e x y && eqA P e xs ys
  | _, _ => false
def eqOk (P : Program) (t : TypeId) (xs ys : List Value) : Bool :=
  !(P.eqGuardType P.depth t) && match P.underlying t with
  | some (.struct _) => !(P.stoodInHeld t) && eqF P (P.fieldsOf t).toList 0 xs ys
  | some (.array len e) => infoOk P e 1 && Nat.beq xs.length len && eqA P e xs ys
  | _ => false
section
variable (P : Program)
/-- An array's cells that are all integers of one kind. -/
def allI (k : IntKind) : List Value → (List Int → Prop) → Prop
  | [], f => f []
  | v :: r, f => UnI v k fun x => allI k r fun xs => f (x :: xs)
abbrev IxI (l : List Int) (i : Int) (K : Int → Prop) : Prop := 0 ≤ i ∧ i < (l.length : Nat) ∧ K (l.getD i.toNat 0)
/-- An array's part by a variable index. -/
def IxV (i : Operand) (len : Nat) (e : TypeId) (cs : List Value) (j : Int) (K : Value → Prop) (other : Prop) : Prop :=
  match i with
  | .tmp _ =>
    match P.underlying e with
    | some (.int k) => bif infoOk P e 1 then allI k cs fun l => bif Nat.beq l.length len then IxI l j fun x => K (.int k x) else False else False
    | _ => False
  | _ => other
theorem allI_sound {k : IntKind} : ∀ {l : List Value} {f : List Int → Prop}, allI k l f → ∃ xs : List Int, l = xs.map (fun x => Value.int k x) ∧ f xs
  | [], f, h => ⟨[], rfl, h⟩
  | v :: r, f, h => by
    unfold allI UnI at h
    split at h
    · split at h
      · rename_i k' x _ e _
        subst e
        obtain ⟨xs, hr, hf⟩ := allI_sound h
        exact ⟨x :: xs, by rw [hr]; rfl, hf⟩
      · exact h.elim
    · exact h.elim
theorem allI_mono {k : IntKind} : ∀ {l : List Value} {f f' : List Int → Prop}, (∀ xs, f xs → f' xs) → allI k l f → allI k l f'
  | [], f, f', g, h => g _ h
  | v :: r, f, f', g, h => by
    unfold allI UnI at h ⊢
    split at h
    · split at h
      · exact allI_mono (fun xs => g _) h
      · exact h.elim
    · exact h.elim
/-- A quiet operation: it reads, and answers one value. -/
def qval (ρ : Env) (m : Mem) (o : Oper) (K : Value → Prop) (N : Prop) : Prop :=
  match o.op with
  | .load t x => match evr ρ x with | .pointer (some ⟨b, i, none⟩) => ldT P t m b i K | _ => False
  | .nilCheck x => match evr ρ x with | .pointer a => NilC a (fun b i => K (.pointer (some ⟨b, i, none⟩))) N | _ => False
  | .indexAddr t x i =>
    match evr ρ i with
    | .int _ i =>
      match P.underlying t, evr ρ x with
      | some (.slice e), .slice a len _ => bif infoOk P e (szOf P e) then IxS a len i (szOf P e) fun b j => K (.pointer (some ⟨b, j, none⟩)) else False
      | some (.array len e), .pointer (some ⟨b, o, none⟩) => bif infoOk P e (szOf P e) then 0 ≤ i ∧ i < len ∧ K (.pointer (some ⟨b, o + i.toNat * szOf P e, none⟩)) else False
      | _, _ => False
    | _ => False
  | .index t x i =>
    match evr ρ x, evr ρ i, P.underlying t with
    | .string s, .int _ i, some .string => IxB s i fun v => K (.int .u8 v)
    | .agg cs, .int _ j, some (.array len e) => IxV P i len e cs.toList j K (pq P (execOp (evr ρ) o) (isValue K) m)
    | _, _, _ => pq P (execOp (evr ρ) o) (isValue K) m
  | .slice t x lo hi none =>
    match P.underlying t, evr ρ x with
    | some .string, .string s => oInt ρ lo 0 fun l => oInt ρ hi s.size fun h => SlB s l h fun r => K (.string r)
    | some (.slice e), .slice a len cap => bif infoOk P e (szOf P e) then oInt ρ lo 0 fun l => oInt ρ hi len fun h => SlS a cap l h (szOf P e) fun a l c => K (.slice a l c) else False
    | _, _ => False
  | .binOp op ty x y _ =>
    match op, evr ρ x, evr ρ y with
    | .quo, .int k a, .int k' b => sameK k k' (NzI b (K (.int k (k.wrap (a.tdiv b)))))
    | .rem, .int k a, .int k' b => sameK k k' (NzI b (K (.int k (a.tmod b))))
    | .shl, .int k a, .int _ b => NnI b (K (.int k (k.wrap (a * 2 ^ min b.toNat k.bits))))
    | .shr, .int k a, .int _ b => NnI b (K (.int k (a.fdiv (2 ^ min b.toNat k.bits))))
    | .add, .string a, .string b => CatB a b (K (.string (a ++ b)))
    | .eql, .pointer a, .pointer none => bif isPtrT P ty then K (.bool a.isNone) else False
    | .neq, .pointer a, .pointer none => bif isPtrT P ty then K (.bool (!a.isNone)) else False
    | .eql, .slice a _ _, .slice none _ _ => bif isSlT P ty then K (.bool a.isNone) else False
    | .neq, .slice a _ _, .slice none _ _ => bif isSlT P ty then K (.bool (!a.isNone)) else False
    | .eql, .map a, .map none => bif isMapT P ty then K (.bool a.isNone) else False
    | .neq, .map a, .map none => bif isMapT P ty then K (.bool (!a.isNone)) else False
    | .eql, .agg xs, .agg ys => bif eqOk P ty xs.toList ys.toList then K (.bool (eqL xs.toList ys.toList)) else False
    | .neq, .agg xs, .agg ys => bif eqOk P ty xs.toList ys.toList then K (.bool (!(eqL xs.toList ys.toList))) else False
    | _, _, _ => pq P (execOp (evr ρ) o) (isValue K) m
  | .lookup .. => pq P (execOp (evr ρ) o) (isValue fun v => unR P o.type v K) m
  | .convert src dst x =>
    match P.underlying src, P.underlying dst, evr ρ x with
    | some (.slice e), some .string, .slice a len _ => bif isU8 P e then B2S m a len (fun s => K (.string s)) else False
    | _, _, _ => pq P (execOp (evr ρ) o) (isValue K) m
  | _ => pq P (execOp (evr ρ) o) (isValue K) m
/-- A call that enters function f. -/
def HE (f : FuncId) (args : Array Value) (m : Mem) (R : Ending → Mem → Prop) : Prop :=
  (∀ w, (callFunc f args).run P w = .ok (.enter f args) w) ∧
  ∀ w, Fit m w → Calls P f args w fun e w' => ∃ m', e ≠ .outgrown ∧ R e m' ∧ Fit m' w' ∧ Fr m m' w w'
/-- A call of function f: it is entered, or has no body and answers at once. -/
def HC (f : FuncId) (args : Array Value) (m : Mem) (R : Ending → Mem → Prop) : Prop :=
  HE P f args m R ∨ pt P (callFunc f args) (fun nx m' => match nx with | .value v => R (.returned v) m' | _ => False) (fun v m' => R (.panicked [{ v := v, recovered := false }]) m') m
end
/-- What goes on behind a call. -/
abbrev Cont (K : Value → Mem → Prop) (Pn : List PanicEntry → Mem → Prop) : Ending → Mem → Prop
  | .returned v, m => K v m
  | .panicked c, m => Pn c m
  | .outgrown, _ => False
abbrev nextP (P : Program) (K : Value → Mem → Prop) (Pn : List PanicEntry → Mem → Prop) : Next → Mem → Prop
  | .value v, m => K v m
  | .skip, m => K undef m
  | .enter f args, m => HE P f args m (Cont K Pn)
  | _, _ => False
def nilPanic (P : Program) : List PanicEntry := [{ v := .iface P.rt.errorString (strVal "invalid memory address or nil pointer dereference"), recovered := false }]
section
variable (P : Program)
/-- A loud operation: it writes, makes memory, or calls. -/
def nval (ρ : Env) (m : Mem) (o : Oper) (K : Value → Mem → Prop) (Pn : List PanicEntry → Mem → Prop) : Prop :=
  match o.op with
  | .store t x y =>
    match evr ρ x with
    | .pointer (some ⟨b, i, none⟩) => bif infoOk P t (evr ρ y).cells.size then stL b i 0 (evr ρ y).cells.toList (K undef) m else False
    | _ => False
  | .call { callee := .value f, args, .. } =>
    match evr ρ f with
    | .func (.func g) first cap => HC P g (first ++ args.map (evr ρ) ++ cap) m (Cont (fun v m' => unR P o.type v fun v' => K v' m') Pn)
    | _ => False
  | .convert src dst x =>
    match P.underlying src, P.underlying dst, evr ρ x with
    | some .string, some (.slice e), .string s => bif isU8 P e then S2B m e s (fun v m' => unR P dst v fun v' => K v' m') else False
    | _, _, _ => pt P (execOp (evr ρ) o) (nextP P (fun v m' => unR P dst v fun v' => K v' m') Pn) (fun v m' => Pn [{ v := v, recovered := false }] m') m
  | .makeSlice t _ _ => pt P (execOp (evr ρ) o) (nextP P (fun v m' => unR P t v fun v' => K v' m') Pn) (fun v m' => Pn [{ v := v, recovered := false }] m') m
  | .call { callee := .builtin _, .. } => pt P (execOp (evr ρ) o) (nextP P (fun v m' => unR P o.type v fun v' => K v' m') Pn) (fun v m' => Pn [{ v := v, recovered := false }] m') m
  | _ => pt P (execOp (evr ρ) o) (nextP P K Pn) (fun v m' => Pn [{ v := v, recovered := false }] m') m
def quietB : Builtin → Bool
  | .len | .cap | .min | .max => true
  | _ => false
def quietOp (o : Op) : Bool :=
  match o with
  | .move _ | .assign _ | .pick .. | .build .. | .load .. | .nilCheck _ | .binOp .. | .unOp .. | .makeInterface .. | .makeFunc .. | .slice .. | .fieldAddr .. | .field .. | .indexAddr .. | .index .. | .extract .. | .lookup .. | .typeAssert .. => true
  | .convert _ dst _ => match P.underlying dst with | some (.slice _) => false | _ => true
  | .call { callee := .builtin b, .. } => quietB b
  | _ => false
/-- 'pick c a b': by the Bool, which is written out behind. -/
def pickP (ρ : Env) (d : Option Tmp) (c : Operand) (a b : Operand) (K : Env → Prop) : Prop :=
  match c with
  | .tmp t => match ρ t with
    | .bool x => Br x (K (putE (upd ρ t (.bool true)) d (evr ρ a))) (K (putE (upd ρ t (.bool false)) d (evr ρ b)))
    | _ => False
  | _ => False
/-- The guard: by the Bool, which is written out behind. -/
def guardP (ops : Array Oper) (ρ : Env) (o : Oper) (K : Env → Prop) (Sk : Env → Prop) : Prop :=
  match o.guard with
  | none => K ρ
  | some (j, want) =>
    match (ops[j]?).bind (·.dst) with
    | some d => match ρ d with
      | .bool b => match want with
        | true => Br b (K (upd ρ d (.bool true))) (Sk (upd ρ d (.bool false)))
        | false => Br b (Sk (upd ρ d (.bool true))) (K (upd ρ d (.bool false)))
      | .tuple _ => Sk ρ
      | _ => False
    | none => False
/-- One operation in the order of the text. -/
def oneP (ρ : Env) (m : Mem) (o : Oper) (K : Env → Mem → Prop) (Pn : List PanicEntry → Mem → Prop) : Prop :=
  match o.op with
  | .pick c a b => pickP ρ o.dst c a b fun ρ' => K ρ' m
  | _ => bif quietOp P o.op then qval P ρ m o (fun v => K (putE ρ o.dst v) m) (Pn (nilPanic P) m)
         else nval P ρ m o (fun v m' => K (putE ρ o.dst v) m') Pn
def hops (ops : Array Oper) (K : Env → Mem → Prop) (Pn : List PanicEntry → Mem → Prop) : List Oper → Env → Mem → Prop
  | [], ρ, m => K ρ m
  | o :: r, ρ, m => guardP ops ρ o (fun ρ' => oneP P ρ' m o (hops ops K Pn r) Pn) (fun ρ' => hops ops K Pn r (putE ρ' o.dst undef) m)
end
theorem under_run {P : Program} {t : TypeId} {d : TypeDesc} (h : P.underlying t = some d) (w : World) : (underlying t).run P w = .ok d w := by
  show (Sem.program _).run P w = _
  simp [Sem.run, h, Sem.bind, pure]
theorem infoOk_szOf {P : Program} {t : TypeId} (h : infoOk P t (szOf P t) = true) (w : World) : (Go.sizeOf t).run P w = .ok (szOf P t) w := sizeOf_run h w
theorem add_none (b o n : Nat) : (⟨b, o, none⟩ : Addr).add n = ⟨b, o + n, none⟩ := by
  unfold Addr.add; split <;> simp_all
def QOut (P : Program) (ρ : Env) (m : Mem) (o : Oper) (K : Value → Prop) (N : Prop) : Prop :=
  (∃ v, K v ∧ ∀ w, Fit m w → (execOp (evr ρ) o).run P w = .ok (.value v) w) ∨
  (N ∧ ∀ w, (execOp (evr ρ) o).run P w = .halt (.panic (.iface P.rt.errorString (strVal "invalid memory address or nil pointer dereference"))) w)
theorem oInt_some {ρ : Env} {x : Option Operand} {d : Int} {K : Int → Prop} (h : oInt ρ x d K) :
    ∃ i, K i ∧ ((x = none ∧ i = d) ∨ ∃ y k, x = some y ∧ evr ρ y = .int k i) := by
  unfold oInt at h
  split at h
  · exact ⟨d, h, .inl ⟨rfl, rfl⟩⟩
  · rename_i y
    split at h
    · rename_i k i hi; exact ⟨i, h, .inr ⟨y, k, rfl, hi⟩⟩
    · exact h.elim
theorem pq_val {P : Program} {ρ : Env} {m : Mem} {o : Oper} {K : Value → Prop} {N : Prop} (h : pq P (execOp (evr ρ) o) (isValue K) m) : QOut P ρ m o K N := by
  obtain ⟨nx, hK, hr⟩ := pq_sound P _ h
  cases nx <;> try exact hK.elim
  case value v => exact .inl ⟨v, hK, hr⟩
theorem run_v {P : Program} {s : Sem Value} {v : Value} {w : World} (h : s.run P w = .ok v w) : (do pure (Next.value (← s)) : Sem Next).run P w = .ok (.value v) w := by
  rw [Sem.run_bind, h]; rfl
theorem bt_get {s : ByteArray} {i : Int} (h : i.toNat < s.size) : bt s i = ((s[i.toNat]).toNat : Int) := by
  have h' : i.toNat < s.data.size := h
  unfold bt
  rw [Array.getD_eq_getD_getElem?, Array.getElem?_eq_getElem h']
  rfl
theorem sliceBound_ok {P : Program} {k : IntKind} {i : Int} {y : Nat} {c : BoundsCode} (h0 : 0 ≤ i) (h1 : i ≤ y) (w : World) : (Instr.sliceBound (.int k i) y c).run P w = .ok i.toNat w := by
  simp [Instr.sliceBound, asIntOf, h0, h1]
theorem sliceBounds_ok {P : Program} {isS : Bool} {len cap : Nat} {ρ : Env} {lo hi : Option Operand} {l h : Int}
    (hl : (lo = none ∧ l = 0) ∨ ∃ y k, lo = some y ∧ evr ρ y = .int k l) (hh : (hi = none ∧ h = len) ∨ ∃ y k, hi = some y ∧ evr ρ y = .int k h)
    (h0 : 0 ≤ l) (h1 : l ≤ h) (h2 : h ≤ cap) (w : World) :
    (Instr.sliceBounds isS len cap (lo.map (evr ρ)) (hi.map (evr ρ)) none).run P w = .ok (l.toNat, h.toNat, cap) w := by
  have hh0 : 0 ≤ h := Int.le_trans h0 h1
  have h1' : l ≤ (h.toNat : Int) := by omega
  unfold Instr.sliceBounds
  rcases hl with ⟨rfl, rfl⟩ | ⟨y, k, rfl, hy⟩ <;> rcases hh with ⟨rfl, rfl⟩ | ⟨y', k', rfl, hy'⟩
  · simp
  · simp [hy', sliceBound_ok hh0 h2]
  · have h1'' : l ≤ (len : Int) := h1
    simp [hy, sliceBound_ok h0 h1'']
  · simp [hy, hy', sliceBound_ok hh0 h2, sliceBound_ok h0 h1']
theorem eqIn_ptr {P : Program} {w : World} (d : Nat) {t e : TypeId} (a : Option Addr) (h : P.underlying t = some (.pointer e)) : (Op.equalIn (d + 1) t (.pointer a) (.pointer none)).run P w = .ok a.isNone w := by
  cases a <;> simp [Op.equalIn, under_run h]
theorem eqIn_sl {P : Program} {w : World} (d : Nat) {t e : TypeId} (a : Option Addr) (l c l' c' : Nat) (h : P.underlying t = some (.slice e)) : (Op.equalIn (d + 1) t (.slice a l c) (.slice none l' c')).run P w = .ok a.isNone w := by
  cases a <;> simp [Op.equalIn, under_run h]
theorem eqIn_map {P : Program} {w : World} (d : Nat) {t k e : TypeId} (a : Option Nat) (h : P.underlying t = some (.map k e)) : (Op.equalIn (d + 1) t (.map a) (.map none)).run P w = .ok a.isNone w := by
  cases a <;> simp [Op.equalIn, under_run h]
theorem eql_ptr_nil {P : Program} {t e : TypeId} {a : Option Addr} (h : P.underlying t = some (.pointer e)) (w : World) : (binOp .eql t (.pointer a) (.pointer none)).run P w = .ok (.bool (a.isNone)) w := by
  simp only [binOp]
  simp [Op.equal, Op.maxDepth, eqIn_ptr 9999 a h]
theorem neq_ptr_nil {P : Program} {t e : TypeId} {a : Option Addr} (h : P.underlying t = some (.pointer e)) (w : World) : (binOp .neq t (.pointer a) (.pointer none)).run P w = .ok (.bool (!a.isNone)) w := by
  simp only [binOp]
  simp [Op.equal, Op.maxDepth, eqIn_ptr 9999 a h]
theorem eql_sl_nil {P : Program} {t e : TypeId} {a : Option Addr} {l c l' c' : Nat} (h : P.underlying t = some (.slice e)) (w : World) : (binOp .eql t (.slice a l c) (.slice none l' c')).run P w = .ok (.bool (a.isNone)) w := by
  simp only [binOp]
  simp [Op.equal, Op.maxDepth, eqIn_sl 9999 a l c l' c' h]
theorem neq_sl_nil {P : Program} {t e : TypeId} {a : Option Addr} {l c l' c' : Nat} (h : P.underlying t = some (.slice e)) (w : World) : (binOp .neq t (.slice a l c) (.slice none l' c')).run P w = .ok (.bool (!a.isNone)) w := by
  simp only [binOp]
  simp [Op.equal, Op.maxDepth, eqIn_sl 9999 a l c l' c' h]
theorem eql_map_nil {P : Program} {t k e : TypeId} {a : Option Nat} (h : P.underlying t = some (.map k e)) (w : World) : (binOp .eql t (.map a) (.map none)).run P w = .ok (.bool (a.isNone)) w := by
  simp only [binOp]
  simp [Op.equal, Op.maxDepth, eqIn_map 9999 a h]
theorem neq_map_nil {P : Program} {t k e : TypeId} {a : Option Nat} (h : P.underlying t = some (.map k e)) (w : World) : (binOp .neq t (.map a) (.map none)).run P w = .ok (.bool (!a.isNone)) w := by
  simp only [binOp]
  simp [Op.equal, Op.maxDepth, eqIn_map 9999 a h]
theorem cond_ok {b : Bool} {A : Prop} (h : bif b then A else False) : b = true ∧ A := by
  cases b with
  | true => exact ⟨rfl, h⟩
  | false => exact h.elim
theorem forIn_bytes {P : Program} {w : World} {f : Value → ByteArray → Sem (ForInStep ByteArray)} (hf : ∀ (b : UInt8) s, f (.int .u8 b.toNat) s = pure (.yield (s.push b))) : ∀ (bs : List UInt8) (acc : ByteArray),
    (forIn (m := Sem) (u8s bs) acc f).run P w = .ok ⟨acc.data ++ bs.toArray⟩ w
  | [], acc => by simp [u8s]
  | b :: r, acc => by
    have ih := forIn_bytes (P := P) (w := w) hf r (acc.push b)
    simp only [u8s, List.map_cons, List.forIn_cons, hf]
    rw [Sem.run_bind]
    simp only [Sem.run_pure, Result.andThen_ok]
    refine ih.trans ?_
    congr 2
    simp [ByteArray.push]
theorem b2s_run {P : Program} {w : World} {m : Mem} (hf : Fit m w) {a : Option Addr} {len cap : Nat} {bs : List UInt8} (hl : bs.length = len) (hc : CellsAt m a (u8s bs)) :
    (Conv.bytesToString (.slice a len cap)).run P w = .ok (.string ⟨bs.toArray⟩) w := by
  rcases hc.cases with ⟨b, o, rfl, hx⟩ | ⟨hx, _⟩
  · have hlen : (u8s bs).length = len := by simp [u8s, hl]
    simp only [Conv.bytesToString]
    rw [Sem.run_bind, loadCells, ← hlen, loadCells_run (P := P) hf (u8s bs) 0 #[] (by simpa using hx), Result.andThen_ok]
    rw [Sem.run_bind, Array.empty_append]
    rw [List.forIn_toArray, forIn_bytes (P := P) (fun b s => by simp) bs ByteArray.empty]
    simp
  · have : bs = [] := by simpa [u8s] using hx
    subst this
    subst hl
    cases a <;> rfl
theorem eqC_run {P : Program} {t : TypeId} {x y : Value} (h : eqC P t x y = true) (d : Nat) (w : World) : (Op.equalIn (d + 1) t x y).run P w = .ok (eqV x y) w ∧ (∀ xs : Array Value, ∀ i, xs[i]? = some x → (part t xs i).run P w = .ok x w) ∧ ∀ xs : Array Value, ∀ i, xs[i]? = some y → (part t xs i).run P w = .ok y w := by
  unfold eqC at h
  have hp : ∀ {D : TypeDesc}, P.underlying t = some D → isAggD D = false → ∀ v : Value, ∀ xs : Array Value, ∀ i, xs[i]? = some v → (part t xs i).run P w = .ok v w := by
    intro D hD hg v xs i hv
    unfold part
    rw [Sem.run_bind, isAgg_run hD, hg]
    simp [hv]
  split at h
  · rename_i a b hu
    exact ⟨run_equalIn_bool' w d t _ _ hu, hp hu rfl _, hp hu rfl _⟩
  · rename_i k a k' b hu
    have hk := of_decide_eq_true h
    subst hk
    exact ⟨run_equalIn_int w d t _ _ _ _ hu, hp hu rfl _, hp hu rfl _⟩
  · rename_i a b hu
    exact ⟨run_equalIn_string w d t _ _ hu, hp hu rfl _, hp hu rfl _⟩
  · cases h
theorem eqF_run {P : Program} {w : World} (d : Nat) (xs ys : Array Value) : ∀ (fs : List Field) (i : Nat) (us vs : List Value), eqF P fs i us vs = true → xs.toList.drop i = us → ys.toList.drop i = vs →
    (Op.eqFields (d + 1) xs ys fs).run P w = .ok (eqL us vs) w
  | [], _, [], [], _, _, _ => by simp [Op.eqFields, eqL]
  | f :: fs, i, u :: us, v :: vs, h, hx, hy => by
    simp only [eqF, Bool.and_eq_true, bne_iff_ne, ne_eq] at h
    obtain ⟨⟨⟨h1, h2⟩, h3⟩, h4⟩ := h
    have hi := Nat.eq_of_beq_eq_true h2
    obtain ⟨r1, r2, r3⟩ := eqC_run h3 d w
    have gx : xs[i]? = some u := by
      have := congrArg (·[0]?) hx
      simpa [List.getElem?_drop] using this
    have gy : ys[i]? = some v := by
      have := congrArg (·[0]?) hy
      simpa [List.getElem?_drop] using this
    have ih := eqF_run (P := P) (w := w) d xs ys fs (i + 1) us vs h4 (by rw [← List.drop_drop, hx]; rfl) (by rw [← List.drop_drop, hy]; rfl)
    simp only [Op.eqFields, eqL]
    rw [if_pos h1, Sem.run_bind, hi, r2 xs i gx, Result.andThen_ok, Sem.run_bind, r3 ys i gy, Result.andThen_ok, Sem.run_bind, r1, Result.andThen_ok]
    cases he : eqV u v with
    | true => simpa using ih
    | false => simp
  | [], _, _ :: _, _, h, _, _ => by simp [eqF] at h
  | [], _, [], _ :: _, h, _, _ => by simp [eqF] at h
  | _ :: _, _, [], _, h, _, _ => by simp [eqF] at h
  | _ :: _, _, _ :: _, [], h, _, _ => by simp [eqF] at h
def eqElems (d : Nat) (e : TypeId) (n : Nat) (xs ys : Array Value) : List Nat → Sem Bool
  | [] => pure true
  | i :: is => do
    let a ← part e xs (i * n)
    let b ← part e ys (i * n)
    let r ← Op.equalIn d e a b
    if (!r) = true then pure false else eqElems d e n xs ys is
theorem run_equalIn_array {P : Program} {w : World} (d : Nat) (t e : TypeId) (len n : Nat) (xs ys : Array Value) (ht : P.underlying t = some (.array len e)) (hn : ∀ w, (Go.sizeOf e).run P w = .ok n w) :
    (Op.equalIn (d + 1) t (.agg xs) (.agg ys)).run P w = (eqElems d e n xs ys (List.range' 0 len)).run P w := by
  simp only [Op.equalIn, Sem.run_bind, under_run ht, Result.andThen_ok, hn]
  simp only [Std.Legacy.Range.forIn_eq_forIn_range', Std.Legacy.Range.size, Nat.sub_zero, Nat.add_sub_cancel, Nat.div_one]
  generalize List.range' 0 len = is
  induction is generalizing w with
  | nil => simp [eqElems]
  | cons i is ih =>
    simp only [List.forIn_cons, eqElems, Sem.run_bind]
    generalize (part e xs (i * n)).run P w = r1
    cases r1 with
    | ok a w1 =>
      simp only [Result.andThen_ok]
      generalize (part e ys (i * n)).run P w1 = r2
      cases r2 with
      | ok b w2 =>
        simp only [Result.andThen_ok]
        generalize (Op.equalIn d e a b).run P w2 = r3
        cases r3 with
        | ok r w3 =>
          cases r
          · simp only [Result.andThen_ok, Bool.not_false, if_true, Sem.run_pure]
          · simp only [Result.andThen_ok, Bool.not_true, Bool.false_eq_true, if_false, Sem.run_pure]
            exact ih
        | halt x w3 => simp [Result.andThen]
      | halt x w2 => simp [Result.andThen]
    | halt x w1 => simp [Result.andThen]
theorem eqA_run {P : Program} {w : World} {e : TypeId} (d : Nat) (xs ys : Array Value) : ∀ (n i : Nat) (us vs : List Value), us.length = n → eqA P e us vs = true → xs.toList.drop i = us → ys.toList.drop i = vs →
    (eqElems (d + 1) e 1 xs ys (List.range' i n)).run P w = .ok (eqL us vs) w
  | n, i, [], [], hl, _, _, _ => by
    subst hl
    simp [eqElems, eqL]
  | n, i, u :: us, v :: vs, hl, h, hx, hy => by
    subst hl
    simp only [eqA, Bool.and_eq_true] at h
    obtain ⟨h3, h4⟩ := h
    obtain ⟨r1, r2, r3⟩ := eqC_run h3 d w
    have gx : xs[i]? = some u := by
      have := congrArg (·[0]?) hx
      simpa [List.getElem?_drop] using this
    have gy : ys[i]? = some v := by
      have := congrArg (·[0]?) hy
      simpa [List.getElem?_drop] using this
    have ih := eqA_run (P := P) (w := w) (e := e) d xs ys us.length (i + 1) us vs rfl h4 (by rw [← List.drop_drop, hx]; rfl) (by rw [← List.drop_drop, hy]; rfl)
    simp only [List.length_cons, List.range'_succ, eqElems, eqL, Nat.mul_one]
    rw [Sem.run_bind, r2 xs i gx, Result.andThen_ok, Sem.run_bind, r3 ys i gy, Result.andThen_ok, Sem.run_bind, r1, Result.andThen_ok]
    cases he : eqV u v with
    | true => simpa using ih
    | false => simp
  | _, _, [], _ :: _, _, h, _, _ => by simp [eqA] at h
  | _, _, _ :: _, [], _, h, _, _ => by simp [eqA] at h
theorem eqOk_run {P : Program} {t : TypeId} {xs ys : Array Value} (h : eqOk P t xs.toList ys.toList = true) (w : World) :
    (∀ op x y, (eqGuard op t x y (.agg xs) (.agg ys)).run P w = .ok () w) ∧ (binOp .eql t (.agg xs) (.agg ys)).run P w = .ok (.bool (eqL xs.toList ys.toList)) w ∧ (binOp .neq t (.agg xs) (.agg ys)).run P w = .ok (.bool (!(eqL xs.toList ys.toList))) w := by
  unfold eqOk at h
  simp only [Bool.and_eq_true, Bool.not_eq_true'] at h
  obtain ⟨hg, h⟩ := h
  have key : (Op.equalIn 10000 t (.agg xs) (.agg ys)).run P w = .ok (eqL xs.toList ys.toList) w := by
    split at h
    · rename_i fs hu
      simp only [Bool.and_eq_true, Bool.not_eq_true'] at h
      have hf : P.underlying t = some (.struct (P.fieldsOf t)) := by simp [Program.fieldsOf, hu]
      rw [run_equalIn_struct w 9999 t xs ys hf h.1]
      exact eqF_run 9998 xs ys _ 0 _ _ h.2 rfl rfl
    · rename_i len e hu
      simp only [Bool.and_eq_true] at h
      rw [run_equalIn_array 9999 t e len 1 xs ys hu (fun w => sizeOf_run h.1.1 w)]
      exact eqA_run 9998 xs ys len 0 _ _ (Nat.eq_of_beq_eq_true h.1.2) h.2 rfl rfl
    · cases h
  refine ⟨fun op x y => run_eqGuard_agg w op t x y xs ys hg, ?_, ?_⟩
  · rw [run_eql_struct, key]; rfl
  · rw [run_neq_struct, key]; rfl
theorem qval_sound {P : Program} {ρ : Env} {m : Mem} {o : Oper} {K : Value → Prop} {N : Prop} (h : qval P ρ m o K N) : QOut P ρ m o K N := by
  obtain ⟨dst, op, ty, pos, aft, gd⟩ := o
  unfold qval at h
  cases op with
  | load t x =>
    simp only at h
    split at h
    · rename_i b i hx
      obtain ⟨v, hK, hr⟩ := ldT_sound h
      refine .inl ⟨v, hK, fun w hf => ?_⟩
      simp only [execOp]
      refine run_v ?_
      simp [Instr.loadAt, Instr.sureAddr, hx, hr w hf]
    · exact h.elim
  | nilCheck x =>
    simp only at h
    split at h
    · rename_i a hx
      unfold NilC at h
      split at h
      · rename_i b i
        exact .inl ⟨_, h, fun w _ => by simp [execOp, hx]⟩
      · exact .inr ⟨h, fun w => by simp [execOp, hx, runtimePanic, goPanic, program, Sem.run]⟩
      · exact h.elim
    · exact h.elim
  | indexAddr t x i =>
    simp only at h
    split at h
    · rename_i k i' hi
      split at h
      · rename_i e a len cap hu hx
        cases hinf : infoOk P e (szOf P e) with
        | false => rw [hinf] at h; exact h.elim
        | true =>
          rw [hinf] at h; simp only [cond_true, IxS] at h
          obtain ⟨h0, h1, h⟩ := h
          split at h
          · rename_i b j
            refine .inl ⟨_, h, fun w hf => ?_⟩
            simp only [execOp]
            refine run_v ?_
            simp [Instr.indexAt, hi, asIntOf, under_run hu, hx, h0, h1, infoOk_szOf hinf, add_none]
          · exact h.elim
      · rename_i len e b j hu hx
        cases hinf : infoOk P e (szOf P e) with
        | false => rw [hinf] at h; exact h.elim
        | true =>
          rw [hinf] at h; simp only [cond_true] at h
          obtain ⟨h0, h1, h⟩ := h
          refine .inl ⟨_, h, fun w hf => ?_⟩
          simp only [execOp]
          refine run_v ?_
          simp [Instr.indexAt, Instr.sureAddr, hi, asIntOf, under_run hu, hx, h0, h1, infoOk_szOf hinf, add_none]
      · exact h.elim
    · exact h.elim
  | index t x i =>
    dsimp only at h
    split at h
    · rename_i s k i' hx hi hu
      obtain ⟨h0, h1, h⟩ := h
      refine .inl ⟨_, h, fun w hf => ?_⟩
      simp only [execOp]
      refine run_v ?_
      have hlt : i'.toNat < s.size := by omega
      have hg : s[i'.toNat]? = some s[i'.toNat] := by simp [hlt]
      simp [Instr.index, hi, asIntOf, under_run hu, hx, h0, hg, bt_get hlt]
    · rename_i cs k' j len e hx hi hu
      unfold IxV at h
      split at h
      · split at h
        · rename_i kk hk
          cases hinf : infoOk P e 1 with
          | false => rw [hinf] at h; exact h.elim
          | true =>
            rw [hinf] at h; simp only [cond_true] at h
            obtain ⟨l, hl, h⟩ := allI_sound h
            cases hb : Nat.beq l.length len with
            | false => rw [hb] at h; exact h.elim
            | true =>
              rw [hb] at h; simp only [cond_true] at h
              obtain ⟨h0, h1, h⟩ := h
              have hb := Nat.eq_of_beq_eq_true hb
              refine .inl ⟨_, h, fun w hf => ?_⟩
              simp only [execOp]
              refine run_v ?_
              have hlt : j.toNat < l.length := by omega
              have hcs : cs[j.toNat]? = some (.int kk (l.getD j.toNat 0)) := by
                have : cs = (l.map (fun x => Value.int kk x)).toArray := by rw [← hl]
                rw [this]; simp [hlt]
              simp [Instr.index, hi, asIntOf, under_run hu, hx, h0, ← hb, h1, sizeOf_run hinf, part, isAgg, under_run hk, hcs]
        · exact h.elim
      · exact pq_val h
    · exact pq_val h
  | slice t x lo hi mx =>
    cases mx with
    | some _ => exact pq_val h
    | none =>
      simp only at h
      split at h
      · rename_i s hu hx
        obtain ⟨l, h, hl⟩ := oInt_some h
        obtain ⟨hh, h, hhi⟩ := oInt_some h
        obtain ⟨h0, h1, h2, h⟩ := h
        refine .inl ⟨_, h, fun w hf => ?_⟩
        simp only [execOp]
        refine run_v ?_
        simp only [Instr.sliceAt]
        rw [Sem.run_bind, under_run hu, Result.andThen_ok]
        simp only [Instr.slice]
        rw [Sem.run_bind, under_run hu, Result.andThen_ok]
        simp [hx, sliceBounds_ok hl hhi h0 h1 h2]
      · rename_i e a len cap hu hx
        cases hinf : infoOk P e (szOf P e) with
        | false => rw [hinf] at h; exact h.elim
        | true =>
          rw [hinf] at h; simp only [cond_true] at h
          obtain ⟨l, h, hl⟩ := oInt_some h
          obtain ⟨hh, h, hhi⟩ := oInt_some h
          obtain ⟨h0, h1, h2, h⟩ := h
          refine .inl ⟨_, h, fun w hf => ?_⟩
          simp only [execOp]
          refine run_v ?_
          simp only [Instr.sliceAt]
          rw [Sem.run_bind, under_run hu, Result.andThen_ok]
          simp only [Instr.slice]
          rw [Sem.run_bind, under_run hu, Result.andThen_ok]
          simp [hx, sliceBounds_ok hl hhi h0 h1 h2, infoOk_szOf hinf, shf]
      · exact h.elim
  | binOp bop t x y t' =>
    simp only at h
    split at h
    · rename_i k a k' b hx hy
      have h' := sameK.eq h
      obtain ⟨e, h2⟩ := h'
      subst e
      obtain ⟨hb, h3⟩ := NzI.ne h2
      refine .inl ⟨_, h3, fun w hf => ?_⟩
      simp only [execOp]
      refine run_v ?_
      simp [eqGuard, hx, hy, binOp, Op.intDiv, hb]
    · rename_i k a k' b hx hy
      have h' := sameK.eq h
      obtain ⟨e, h2⟩ := h'
      subst e
      obtain ⟨hb, h3⟩ := NzI.ne h2
      refine .inl ⟨_, h3, fun w hf => ?_⟩
      simp only [execOp]
      refine run_v ?_
      simp [eqGuard, hx, hy, binOp, Op.intDiv, hb]
    · rename_i k a k' b hx hy
      obtain ⟨hb, h⟩ := h.nn
      have hb' : ¬ b < 0 := by omega
      refine .inl ⟨_, h, fun w hf => ?_⟩
      simp only [execOp]
      refine run_v ?_
      simp [eqGuard, hx, hy, binOp, Op.shift, hb']
    · rename_i k a k' b hx hy
      obtain ⟨hb, h⟩ := h.nn
      have hb' : ¬ b < 0 := by omega
      refine .inl ⟨_, h, fun w hf => ?_⟩
      simp only [execOp]
      refine run_v ?_
      simp [eqGuard, hx, hy, binOp, Op.shift, hb']
    · rename_i a b hx hy
      obtain ⟨hs, h⟩ := h
      refine .inl ⟨_, h, fun w hf => ?_⟩
      simp only [execOp]
      refine run_v ?_
      have : ¬ ((a.size + b.size : Nat) : Int) > IntKind.i64.max := by
        have : IntKind.i64.max = 9223372036854775807 := by rfl
        rw [this]; omega
      simp only [eqGuard, hx, hy, binOp, Op.stringOp]
      rw [if_neg this]
      simp
    · rename_i a hx hy
      obtain ⟨hT, h⟩ := cond_ok h
      unfold isPtrT at hT
      split at hT
      · rename_i el hu
        refine .inl ⟨_, h, fun w hf => ?_⟩
        simp only [execOp]
        refine run_v ?_
        rw [hx, hy]
        simp only [eqGuard]
        exact eql_ptr_nil hu _
      · cases hT
    · rename_i a hx hy
      obtain ⟨hT, h⟩ := cond_ok h
      unfold isPtrT at hT
      split at hT
      · rename_i el hu
        refine .inl ⟨_, h, fun w hf => ?_⟩
        simp only [execOp]
        refine run_v ?_
        rw [hx, hy]
        simp only [eqGuard]
        exact neq_ptr_nil hu _
      · cases hT
    · rename_i a l c l' c' hx hy
      obtain ⟨hT, h⟩ := cond_ok h
      unfold isSlT at hT
      split at hT
      · rename_i el hu
        refine .inl ⟨_, h, fun w hf => ?_⟩
        simp only [execOp]
        refine run_v ?_
        rw [hx, hy]
        simp only [eqGuard]
        exact eql_sl_nil hu _
      · cases hT
    · rename_i a l c l' c' hx hy
      obtain ⟨hT, h⟩ := cond_ok h
      unfold isSlT at hT
      split at hT
      · rename_i el hu
        refine .inl ⟨_, h, fun w hf => ?_⟩
        simp only [execOp]
        refine run_v ?_
        rw [hx, hy]
        simp only [eqGuard]
        exact neq_sl_nil hu _
      · cases hT
    · rename_i a hx hy
      obtain ⟨hT, h⟩ := cond_ok h
      unfold isMapT at hT
      split at hT
      · rename_i kt et hu
        refine .inl ⟨_, h, fun w hf => ?_⟩
        simp only [execOp]
        refine run_v ?_
        rw [hx, hy]
        simp only [eqGuard]
        exact eql_map_nil hu _
      · cases hT
    · rename_i a hx hy
      obtain ⟨hT, h⟩ := cond_ok h
      unfold isMapT at hT
      split at hT
      · rename_i kt et hu
        refine .inl ⟨_, h, fun w hf => ?_⟩
        simp only [execOp]
        refine run_v ?_
        rw [hx, hy]
        simp only [eqGuard]
        exact neq_map_nil hu _
      · cases hT
    · rename_i xs ys hx hy
      obtain ⟨hT, h⟩ := cond_ok h
      refine .inl ⟨_, h, fun w hf => ?_⟩
      obtain ⟨r1, r2, r3⟩ := eqOk_run hT w
      simp only [execOp]
      refine run_v ?_
      rw [hx, hy, Sem.run_bind, r1, Result.andThen_ok]
      exact r2
    · rename_i xs ys hx hy
      obtain ⟨hT, h⟩ := cond_ok h
      refine .inl ⟨_, h, fun w hf => ?_⟩
      obtain ⟨r1, r2, r3⟩ := eqOk_run hT w
      simp only [execOp]
      refine run_v ?_
      rw [hx, hy, Sem.run_bind, r1, Result.andThen_ok]
      exact r3
    · exact pq_val h
  | lookup t x i ok =>
    obtain ⟨nx, hK, hr⟩ := pq_sound P _ h
    cases nx <;> try exact hK.elim
    case value v => exact .inl ⟨v, unR_sound (K := K) hK, hr⟩
  | convert src dst x =>
    dsimp only at h
    split at h
    · rename_i e a len cap hs hd hx
      obtain ⟨hT, h⟩ := cond_ok h
      unfold isU8 at hT
      split at hT
      · rename_i hu
        obtain ⟨bs, hl, hc, h⟩ := h
        refine .inl ⟨_, h, fun w hf => ?_⟩
        simp only [execOp]
        refine run_v ?_
        simp only [convert]
        rw [Sem.run_bind, under_run hs, Result.andThen_ok, Sem.run_bind, under_run hd, Result.andThen_ok]
        simp only [hx]
        rw [Sem.run_bind, under_run hu, Result.andThen_ok]
        exact b2s_run hf hl hc
      · cases hT
    · exact pq_val h
  | _ => exact pq_val h
end Go.H
namespace Go.H
def UpA (n : Nat) (ds : DS) (K : Env → Mem → Prop) (m : Mem) (w : World) : Act → World → Prop :=
  fun a' w' => ∃ ρ' m', K ρ' m' ∧ Ag n ds ρ' a' ∧ Fit m' w' ∧ Fr m m' w w'
def UpQ (n : Nat) (ds : DS) (Q : Exit → Env → Mem → Prop) (Pn : List PanicEntry → Mem → Prop) (m : Mem) (w : World) : Exit → Act → World → Prop :=
  fun e a' w' => match e with
    | .panic c => (a'.defers = ds.l ∧ ∀ t, t < ds.lo → a'.tmps.getD t undef = ds.z t) ∧ ∃ m', Pn c m' ∧ Fit m' w' ∧ Fr m m' w w'
    | .outgrown => False
    | e => UpA n ds (Q e) m w a' w'
section
variable {n : Nat} {ds : DS} {m m1 : Mem} {w w1 : World}
theorem UpA.of {K : Env → Mem → Prop} (f : Fr m m1 w w1) {a : Act} {w' : World} (h : UpA n ds K m1 w1 a w') : UpA n ds K m w a w' := by
  obtain ⟨ρ', m', hK, hA, hF, hf⟩ := h
  exact ⟨ρ', m', hK, hA, hF, f.trans hf⟩
theorem UpA.mono {K K' : Env → Mem → Prop} (hk : ∀ ρ m, K ρ m → K' ρ m) {a : Act} {w' : World} (h : UpA n ds K m w a w') : UpA n ds K' m w a w' := by
  obtain ⟨ρ', m', hK, rest⟩ := h
  exact ⟨ρ', m', hk _ _ hK, rest⟩
theorem UpQ.of {Q : Exit → Env → Mem → Prop} {Pn : List PanicEntry → Mem → Prop} (f : Fr m m1 w w1) {e : Exit} {a : Act} {w' : World} (h : UpQ n ds Q Pn m1 w1 e a w') : UpQ n ds Q Pn m w e a w' := by
  cases e with
  | panic c => obtain ⟨hd, m', hp, hF, hf⟩ := h; exact ⟨hd, m', hp, hF, f.trans hf⟩
  | outgrown => exact h
  | _ => exact UpA.of f h
end
theorem callFunc_enters {P : Program} {f : FuncId} {fn : Func} (hf : P.funcs[f]? = some fn) (hn : (fn.name == "runtime.NumGoroutine") = false) (hb : fn.body.isNone = false)
    (args : Array Value) (w : World) : (callFunc f args).run P w = .ok (.enter f args) w := by
  unfold callFunc
  rw [Sem.run_bind]
  show ((Sem.pure P).run P w |>.andThen _) = _
  simp only [Sem.run, Result.andThen_ok, hf, hn, hb]
  rfl
theorem stL_sound {P : Program} {b o : Nat} {K : Mem → Prop} : ∀ (vs : List Value) (i : Nat) (m : Mem) (w : World), Fit m w → stL b o i vs K m →
    ∃ m' w', K m' ∧ (storeCells ⟨b, o, none⟩ vs i).run P w = .ok () w' ∧ Fit m' w' ∧ Fr m m' w w'
  | [], i, m, w, hf, h => ⟨m, w, h, rfl, hf, Fr.refl _ _⟩
  | v :: r, i, m, w, hf, h => by
    simp only [stL, St1] at h
    split at h
    · rename_i c e lo hi hb
      obtain ⟨ho, hno, hz, h⟩ := h
      have hw := hf _ _ hb
      obtain ⟨h1, h2⟩ := fit_set (o := .cells (c.setIfInBounds (o + i) v) e (lo, hi)) hf hb
      obtain ⟨m', w', hK, hr, hF, hFr⟩ := stL_sound (P := P) r (i + 1) _ _ h1 h
      refine ⟨m', w', hK, ?_, hF, h2.trans hFr⟩
      have hc : w.cell? ⟨b, o + i, none⟩ = some c[o + i] := by simp [World.cell?, hw, ho]
      have hfz : w.frozen? ⟨b, o + i, none⟩ = false := by simpa [World.frozen?, hw] using hz
      have hs := setCell_eq (v := v) (a := ⟨b, o + i, none⟩) rfl hw
      simp only [storeCells, add_none]
      rw [Sem.run_bind]
      have hrun : (store ⟨b, o + i, none⟩ v).run P w = .ok () (w.setCell ⟨b, o + i, none⟩ v) := by
        cases v <;> first | (simp [notOne] at hno; done) | simp_all [store, Sem.run]
      rw [hrun, Result.andThen_ok, hs]
      exact hr
    · exact h.elim
theorem Calls_up {P : Program} {f : FuncId} {args : Array Value} {m m1 : Mem} {w w1 : World} {n : Nat} {ds : DS} {ρ : Env} {a : Act} {o : Oper}
    {K : Env → Mem → Prop} {Q : Exit → Env → Mem → Prop} {Pn : List PanicEntry → Mem → Prop} {R : Ending → Mem → Prop}
    (hA : Ag n ds ρ a) (hd : ∀ d, o.dst = some d → ds.lo ≤ d ∧ d < n) (hFr : Fr m m1 w w1)
    (hR : ∀ e m', R e m' → Cont (fun v m' => K (putE ρ o.dst v) m') Pn e m')
    (h : Calls P f args w1 fun e w' => ∃ m', e ≠ .outgrown ∧ R e m' ∧ Fit m' w' ∧ Fr m1 m' w1 w') :
    Calls P f args w1 fun
      | .returned v, w'' => UpA n ds K m w (a.put o.dst v) w''
      | .panicked chain, w'' => UpQ n ds Q Pn m w (.panic chain) a w''
      | .outgrown, _ => LetsOut (UpQ n ds Q Pn m w) := by
  refine h.mono fun e w'' ⟨m', hne, hRm, hF, hf⟩ => ?_
  have hc := hR _ _ hRm
  cases e with
  | returned v => exact ⟨_, m', hc, hA.put hd v, hF, hFr.trans hf⟩
  | panicked ch => exact ⟨hA.pan, m', hc, hF, hFr.trans hf⟩
  | outgrown => exact absurd rfl hne
theorem out_upon {P : Program} {m : Mem} {w : World} {n : Nat} {ds : DS} {ρ : Env} {a : Act} {o : Oper}
    {K : Env → Mem → Prop} {Q : Exit → Env → Mem → Prop} {Pn : List PanicEntry → Mem → Prop} {r : Result Next}
    (hA : Ag n ds ρ a) (hd : ∀ d, o.dst = some d → ds.lo ≤ d ∧ d < n)
    (h : Out (nextP P (fun v m' => K (putE ρ o.dst v) m') Pn) (fun v m' => Pn [{ v := v, recovered := false }] m') m w r) :
    o.upon P a (UpA n ds K m w) (UpQ n ds Q Pn m w) r := by
  unfold Out at h
  split at h
  · rename_i nx w'
    obtain ⟨m', hq, hF, hf⟩ := h
    cases nx <;> try exact hq.elim
    case value v => exact ⟨_, m', hq, hA.put hd v, hF, hf⟩
    case skip => exact ⟨_, m', hq, hA.put hd undef, hF, hf⟩
    case enter f args => exact Calls_up hA hd hf (fun _ _ h => h) (hq.2 _ hF)
  · obtain ⟨m', hq, hF, hf⟩ := h
    exact ⟨hA.pan, m', hq, hF, hf⟩
  · exact h.elim
theorem run_v' {P : Program} {s : Sem Value} {v : Value} {w w' : World} (h : s.run P w = .ok v w') : (do pure (Next.value (← s)) : Sem Next).run P w = .ok (.value v) w' := by
  rw [Sem.run_bind, h]; rfl
theorem s2b_run {P : Program} (e : TypeId) (s : ByteArray) (w : World) : ∃ cap, s.size ≤ cap ∧ (Conv.stringToBytes e s).run P w =
    .ok (.slice (some ⟨w.heap.size, 0, none⟩) s.size cap) { w with drawn := w.drawn + 1, heap := w.heap.push (.cells ((u8s s.data.toList ++ List.replicate (cap - s.size) (Value.int .u8 0)).toArray) e (cap, cap + 1)) } := by
  refine ⟨(Question.appendCap s.size 0 e).cut (w.tape w.drawn (.appendCap s.size 0 e)), by simp [Question.cut], ?_⟩
  generalize hc : (Question.appendCap s.size 0 e).cut (w.tape w.drawn (.appendCap s.size 0 e)) = cap
  have hge : s.size ≤ cap := by rw [← hc]; simp [Question.cut]
  have hsz : s.data.size = s.size := rfl
  have hcells : (s.data.map (fun b => Value.int .u8 b.toNat) ++ Array.replicate (cap - s.size) (Value.int .u8 0)) = (u8s s.data.toList ++ List.replicate (cap - s.size) (Value.int .u8 0)).toArray := by
    simp [u8s]
  have hch : (choose (.appendCap s.size 0 e)).run P w = .ok cap { w with drawn := w.drawn + 1 } := by
    simp [choose, Sem.run, Question.forced, hc]
  simp only [Conv.stringToBytes]
  rw [Sem.run_bind, hch, Result.andThen_ok, Sem.run_bind]
  have hnew : ∀ c, (newRow e c).run P { w with drawn := w.drawn + 1 } = .ok ⟨w.heap.size, 0, none⟩ { w with drawn := w.drawn + 1, heap := w.heap.push (.cells c e) } := by
    intro c; simp [newRow, newObj, Sem.run, Result.andThen]; exact ⟨rfl, rfl, rfl⟩
  rw [hnew, Result.andThen_ok, hcells, Sem.run_bind]
  have hsize : (u8s s.data.toList ++ List.replicate (cap - s.size) (Value.int .u8 0)).toArray.size = cap := by
    simp [u8s, hsz]; omega
  have hmark : (markStringish ⟨w.heap.size, 0, none⟩).run P { w with drawn := w.drawn + 1, heap := w.heap.push (.cells ((u8s s.data.toList ++ List.replicate (cap - s.size) (Value.int .u8 0)).toArray) e) } =
      .ok () { w with drawn := w.drawn + 1, heap := w.heap.push (.cells ((u8s s.data.toList ++ List.replicate (cap - s.size) (Value.int .u8 0)).toArray) e (cap, cap + 1)) } := by
    generalize hcs : (u8s s.data.toList ++ List.replicate (cap - s.size) (Value.int .u8 0)).toArray = cs at hsize ⊢
    generalize hw1 : ({ w with drawn := w.drawn + 1, heap := w.heap.push (.cells cs e) } : World) = w1
    have hb : w1.heap[w.heap.size]? = some (.cells cs e (0, 0)) := by subst hw1; simp
    have hsh : w1.shape? w.heap.size = some (e, cap) := by simp [World.shape?, hb, hsize]
    have hrun : (markStringish ⟨w.heap.size, 0, none⟩).run P w1 = .ok () (w1.freeze { block := w.heap.size, off := cap } 1) := by
      unfold markStringish
      rw [Sem.run_bind]
      have : (shape w.heap.size).run P w1 = .ok (some (e, cap)) w1 := by simp [shape, Sem.run, hsh]
      rw [this]
      rfl
    rw [hrun, freeze_eq (by decide) hb]
    subst hw1
    congr 2
    apply Array.ext_getElem?
    intro i
    simp only [freezeObj, Array.getElem?_setIfInBounds, Array.getElem?_push]
    by_cases hi : w.heap.size = i
    · subst hi; simp
    · have : ¬ i = w.heap.size := fun e => hi e.symm
      simp [hi, this]
  rw [hmark]
  simp
theorem nextP_un {P : Program} (t : TypeId) {K : Value → Mem → Prop} {Pn : List PanicEntry → Mem → Prop} : ∀ nx m, nextP P (fun v m' => unR P t v fun v' => K v' m') Pn nx m → nextP P K Pn nx m := by
  intro nx m h
  cases nx <;> try exact h
  case value v => exact unR_sound (K := fun v' => K v' m) h
  case skip => exact unR_sound (K := fun v' => K v' m) h
  case enter f args =>
    refine ⟨h.1, fun w hF => (h.2 w hF).mono fun e w' he => ?_⟩
    obtain ⟨m', h1, h2, h3⟩ := he
    refine ⟨m', h1, ?_, h3⟩
    cases e with
    | returned v => exact unR_sound (K := fun v' => K v' m') h2
    | panicked c => exact h2
    | outgrown => exact h2
/-- The loud specials. -/
theorem nval_sound {P : Program} {m : Mem} {w : World} {n : Nat} {ds : DS} {ρ : Env} {a : Act} {o : Oper}
    {K : Env → Mem → Prop} {Q : Exit → Env → Mem → Prop} {Pn : List PanicEntry → Mem → Prop}
    (hA : Ag n ds ρ a) (hF : Fit m w) (hd : ∀ d, o.dst = some d → ds.lo ≤ d ∧ d < n) (h : nval P ρ m o (fun v m' => K (putE ρ o.dst v) m') Pn) :
    o.wp P a w (UpA n ds K m w) (UpQ n ds Q Pn m w) := by
  unfold Oper.wp
  rw [hA.eval]
  unfold nval at h
  split at h
  · rename_i t x y hop
    split at h
    · rename_i b i hx
      cases hinf : infoOk P t (evr ρ y).cells.size with
      | false => rw [hinf] at h; exact h.elim
      | true =>
        rw [hinf] at h; simp only [cond_true] at h
        obtain ⟨m', w', hK, hr, hF', hf'⟩ := stL_sound (P := P) _ _ _ _ hF h
        have hrun : (execOp (evr ρ) o).run P w = .ok .skip w' := by
          unfold execOp
          rw [hop]
          simp only [Instr.storeAt, hx, Instr.sureAddr, storeVar]
          have h2 : (storeCells ⟨b, i, none⟩ (evr ρ y).cells.toList).run P w = .ok () w' := hr
          simp [sizeOf_run hinf, h2]
        rw [hrun]
        exact ⟨_, m', hK, hA.put hd undef, hF', hf'⟩
    · exact h.elim
  · rename_i f args aty hop
    split at h
    · rename_i g first cap hf
      have hrun0 : (execOp (evr ρ) o).run P w = (callFunc g (first ++ args.map (evr ρ) ++ cap)).run P w := by
        unfold execOp
        rw [hop]
        simp only [resolve, hf, Deferred.ofValue]
        rw [Sem.run_bind]
        simp only [Sem.run_pure, Result.andThen_ok, invoke]
      rcases h with h | h
      · have hrun : (execOp (evr ρ) o).run P w = .ok (.enter g (first ++ args.map (evr ρ) ++ cap)) w := hrun0.trans (h.1 w)
        rw [hrun]
        refine Calls_up hA hd (Fr.refl _ _) (fun e m' hc => ?_) (h.2 w hF)
        cases e with
        | returned v => exact unR_sound (K := fun v' => K (putE ρ o.dst v') m') hc
        | panicked c => exact hc
        | outgrown => exact hc
      · rw [hrun0]
        refine out_upon hA hd (pt_sound P _ _ _ hF (pt_mono P (fun nx m' hx => ?_) (fun _ _ hx => hx) _ _ h))
        cases nx <;> try exact hx.elim
        case value v => exact unR_sound (K := fun v' => K (putE ρ o.dst v') m') hx
    · exact h.elim
  · rename_i src dst x hop
    split at h
    · rename_i e s hs hdd hx
      obtain ⟨hT, h⟩ := cond_ok h
      unfold isU8 at hT
      split at hT
      · rename_i hu
        obtain ⟨cap, hcap, hr⟩ := s2b_run (P := P) e s w
        have hfr := fit_new hF (.cells ((u8s s.data.toList ++ List.replicate (cap - s.size) (Value.int .u8 0)).toArray) e (cap, cap + 1))
        have hrun : (execOp (evr ρ) o).run P w = .ok (.value (.slice (some ⟨w.heap.size, 0, none⟩) s.size cap))
            { w with drawn := w.drawn + 1, heap := w.heap.push (.cells ((u8s s.data.toList ++ List.replicate (cap - s.size) (Value.int .u8 0)).toArray) e (cap, cap + 1)) } := by
          unfold execOp
          rw [hop]
          refine run_v' ?_
          simp only [convert]
          rw [Sem.run_bind, under_run hs, Result.andThen_ok, Sem.run_bind, under_run hdd, Result.andThen_ok]
          simp only [hx]
          rw [Sem.run_bind, under_run hu, Result.andThen_ok]
          exact hr
        rw [hrun]
        exact ⟨_, _, unR_sound (K := fun v' => K (putE ρ o.dst v') _) (h cap _ hcap hF.fresh), hA.put hd _, hfr.1, ⟨hfr.2.os, hfr.2.tape, hfr.2.output, hfr.2.size, hfr.2.block, hfr.2.dom⟩⟩
      · cases hT
    · exact out_upon hA hd (pt_sound P _ _ _ hF (pt_mono P (nextP_un _) (fun _ _ h => h) _ _ h))
  · exact out_upon hA hd (pt_sound P _ _ _ hF (pt_mono P (nextP_un _) (fun _ _ h => h) _ _ h))
  · exact out_upon hA hd (pt_sound P _ _ _ hF (pt_mono P (nextP_un _) (fun _ _ h => h) _ _ h))
  · exact out_upon hA hd (pt_sound P _ _ _ hF h)
theorem qout_wp {P : Program} {m : Mem} {w : World} {n : Nat} {ds : DS} {ρ : Env} {a : Act} {o : Oper}
    {K : Env → Mem → Prop} {Q : Exit → Env → Mem → Prop} {Pn : List PanicEntry → Mem → Prop}
    (hA : Ag n ds ρ a) (hF : Fit m w) (hd : ∀ d, o.dst = some d → ds.lo ≤ d ∧ d < n) (h : QOut P ρ m o (fun v => K (putE ρ o.dst v) m) (Pn (nilPanic P) m)) :
    o.wp P a w (UpA n ds K m w) (UpQ n ds Q Pn m w) := by
  unfold Oper.wp
  rw [hA.eval]
  rcases h with ⟨v, hK, hr⟩ | ⟨hN, hr⟩
  · rw [hr w hF]; exact ⟨_, m, hK, hA.put hd v, hF, Fr.refl _ _⟩
  · rw [hr w]; exact ⟨hA.pan, m, hN, hF, Fr.refl _ _⟩
theorem pick_sound {P : Program} {ρ : Env} {o : Oper} {c x y : Operand} {K : Env → Prop} (hop : o.op = .pick c x y) (h : pickP ρ o.dst c x y K) :
    ∃ v, K (putE ρ o.dst v) ∧ ∀ w : World, (execOp (evr ρ) o).run P w = .ok (.value v) w := by
  unfold pickP at h
  split at h
  · rename_i t
    split at h
    · rename_i b hb
      cases b with
      | true =>
        have h' : K (putE (upd ρ t (.bool true)) o.dst (evr ρ x)) := h
        rw [upd_self hb] at h'
        exact ⟨_, h', fun w => by unfold execOp; rw [hop]; simp [evr, hb, asBool]⟩
      | false =>
        have h' : K (putE (upd ρ t (.bool false)) o.dst (evr ρ y)) := h
        rw [upd_self hb] at h'
        exact ⟨_, h', fun w => by unfold execOp; rw [hop]; simp [evr, hb, asBool]⟩
    · exact h.elim
  · exact h.elim
theorem one_sound {P : Program} {m : Mem} {w : World} {n : Nat} {ds : DS} {ρ : Env} {a : Act} {o : Oper}
    {K : Env → Mem → Prop} {Q : Exit → Env → Mem → Prop} {Pn : List PanicEntry → Mem → Prop}
    (hA : Ag n ds ρ a) (hF : Fit m w) (hd : ∀ d, o.dst = some d → ds.lo ≤ d ∧ d < n) (h : oneP P ρ m o K Pn) :
    o.wp P a w (UpA n ds K m w) (UpQ n ds Q Pn m w) := by
  unfold oneP at h
  split at h
  · rename_i c x y hop
    obtain ⟨v, hK, hr⟩ := pick_sound (P := P) hop h
    exact qout_wp hA hF hd (.inl ⟨v, hK, fun w _ => hr w⟩)
  · cases hq : quietOp P o.op with
    | true => rw [hq] at h; exact qout_wp hA hF hd (qval_sound h)
    | false => rw [hq] at h; exact nval_sound hA hF hd h
theorem yielded_of {n : Nat} {ds : DS} {ρ : Env} {a : Act} (hA : Ag n ds ρ a) {ops : Array Oper} {j d : Nat} {b : Bool}
    (hd : (ops[j]?).bind (·.dst) = some d) (hb : ρ d = .bool b) : yielded ops a.tmps j = some b := by
  have hg := hA.get d
  rw [hb] at hg
  have : a.tmps[d]? = some (.bool b) := by
    cases ht : a.tmps[d]? with
    | none => simp [Array.getD_eq_getD_getElem?, ht, undef] at hg
    | some v => simp [Array.getD_eq_getD_getElem?, ht] at hg; simp [hg]
  simp [yielded, hd, this]
/-- The guard says yes, or no. -/
theorem guard_sound {n : Nat} {ds : DS} {ρ : Env} {a : Act} (hA : Ag n ds ρ a) {ops : Array Oper} {o : Oper} {K Sk : Env → Prop}
    (h : guardP ops ρ o K Sk) : (Region.wanted o (yielded ops a.tmps) = true ∧ K ρ) ∨ (Region.wanted o (yielded ops a.tmps) = false ∧ Sk ρ) := by
  unfold guardP at h
  unfold Region.wanted
  split at h
  · rename_i hg; rw [hg]; exact .inl ⟨rfl, h⟩
  · rename_i j want hg
    rw [hg]
    split at h
    · rename_i d hd
      split at h
      · rename_i b hb
        simp only [yielded_of hA hd hb]
        cases want <;> cases b
        · exact .inl ⟨rfl, by rw [← upd_self hb]; exact h⟩
        · exact .inr ⟨rfl, by rw [← upd_self hb]; exact h⟩
        · exact .inr ⟨rfl, by rw [← upd_self hb]; exact h⟩
        · exact .inl ⟨rfl, by rw [← upd_self hb]; exact h⟩
      · rename_i vs hb
        refine .inr ⟨?_, h⟩
        have hg := hA.get d
        rw [hb] at hg
        have : yielded ops a.tmps j = none := by
          unfold yielded
          rw [hd]
          simp only [Option.bind_some]
          cases ht : a.tmps[d]? with
          | none => rfl
          | some v =>
            have : v = .tuple vs := by simpa [Array.getD_eq_getD_getElem?, ht] using hg
            subst this; rfl
        show (yielded ops a.tmps j == some want) = false
        rw [this]; rfl
      · exact h.elim
    · exact h.elim
theorem hops_sound {P : Program} {n : Nat} {ds : DS} {ops : Array Oper} {Q : Exit → Env → Mem → Prop} {Pn : List PanicEntry → Mem → Prop} :
    ∀ (l : List Oper) (ρ : Env) (m : Mem) (a : Act) (w : World), Ag n ds ρ a → Fit m w → l.all (dstOk ds.lo n) = true → hops P ops (Q .normal) Pn l ρ m →
      ∀ (m0 : Mem) (w0 : World), Fr m0 m w0 w → wpList P ops (UpQ n ds Q Pn m0 w0) l a w
  | [], ρ, m, a, w, hA, hF, _, h => fun m0 w0 f => ⟨ρ, m, h, hA, hF, f⟩
  | o :: r, ρ, m, a, w, hA, hF, hok, h => fun m0 w0 f => by
    simp only [List.all_cons, Bool.and_eq_true] at hok
    have hd := dst_lt hok.1
    simp only [wpList]
    rcases guard_sound hA h with ⟨hw, hk⟩ | ⟨hw, hs⟩
    · rw [if_pos hw]
      refine .inl ?_
      have h1 := one_sound (Q := Q) hA hF hd hk
      have h2 : o.wp P a w (UpA n ds (hops P ops (Q .normal) Pn r) m w) (UpQ n ds Q Pn m0 w0) := by
        unfold Oper.wp at h1 ⊢
        generalize (execOp a.eval o).run P w = res at h1 ⊢
        cases res with
        | ok nx w' =>
          cases nx <;> simp only [Oper.upon] at h1 ⊢ <;> try exact h1
          case enter g args =>
            refine h1.mono fun e w'' he => ?_
            cases e with
            | returned v => exact he
            | panicked c => exact UpQ.of f he
            | outgrown => obtain ⟨a1, w1, he⟩ := he; exact he.elim
        | halt x w' =>
          cases x <;> simp only [Oper.upon] at h1 ⊢
          case panic v => exact UpQ.of f h1
      refine Oper.wp_mono (fun a' w' hk' => ?_) h2
      obtain ⟨ρ', m', hK, hA', hF', hf'⟩ := hk'
      exact hops_sound r ρ' m' a' w' hA' hF' hok.2 hK m0 w0 (f.trans hf')
    · rw [if_neg (by simp [hw])]
      exact hops_sound r _ m _ w (hA.put hd undef) hF hok.2 hs m0 w0 f
end Go.H
namespace Go.H
section
variable {P : Program} {ops : Array Oper} {Q : Exit → Act → World → Prop} {md : Region.Mode} {S : World → Prop} {late : Nat → Bool}
def offS (late : Nat → Bool) (listed : Array Bool) : Bool := (List.range listed.size).any fun k => late k && listed.getD k false
theorem offS_set {listed : Array Bool} {j : Nat} (h : offS late listed = false) (hj : late j = false) : offS late (listed.setIfInBounds j true) = false := by
  unfold offS at *
  rw [List.any_eq_false] at *
  intro k hk
  have hk' : k < listed.size := by simpa using hk
  have := h k (by simpa using hk')
  by_cases e : k = j
  · subst e; simp [hj]
  · simp only [Array.getD_eq_getD_getElem?, Bool.and_eq_true, not_and] at this ⊢
    intro hl
    have := this hl
    rw [Array.getElem?_setIfInBounds]
    rw [if_neg (Ne.symm e)]
    exact this
def wpAnyK (P : Program) (md : Region.Mode) (ops : Array Oper) (Q : Exit → Act → World → Prop) (S : World → Prop) (late : Nat → Bool) : Nat → Array Bool → Act → World → Prop
  | 0, listed, a, w => Region.ready md ops listed = [] ∧ Q .normal a w
  | fuel + 1, listed, a, w =>
    (Region.ready md ops listed = [] → Q .normal a w) ∧
    ∀ i ∈ Region.ready md ops listed, wpOp P ops Q i (fun a' w' => (offS late (listed.setIfInBounds i true) = false → S w') ∧ wpAnyK P md ops Q S late fuel (listed.setIfInBounds i true) a' w') a w
theorem wpAny_of_K : ∀ (fuel : Nat) (listed : Array Bool) (a : Act) (w : World), wpAnyK P md ops Q S late fuel listed a w → wpAny P md ops Q fuel listed a w
  | 0, _, _, _, h => h
  | fuel + 1, _, _, _, h => ⟨h.1, fun i hi => wpOp_mono (fun a' w' h' => wpAny_of_K fuel _ a' w' h'.2) (h.2 i hi)⟩
theorem wpAnyK_mono {S' : World → Prop} (hS : ∀ w, S w → S' w) : ∀ (fuel : Nat) (listed : Array Bool) (a : Act) (w : World), wpAnyK P md ops Q S late fuel listed a w → wpAnyK P md ops Q S' late fuel listed a w
  | 0, _, _, _, h => h
  | fuel + 1, _, _, _, h => ⟨h.1, fun i hi => wpOp_mono (fun a' w' h' => ⟨fun e => hS w' (h'.1 e), wpAnyK_mono hS fuel _ a' w' h'.2⟩) (h.2 i hi)⟩
/-- Once a late one has come the condition is no matter. -/
theorem wpAnyK_off {S' : World → Prop} : ∀ (fuel : Nat) (listed : Array Bool) (a : Act) (w : World), offS late listed = true → wpAnyK P md ops Q S late fuel listed a w → wpAnyK P md ops Q S' late fuel listed a w
  | 0, _, _, _, _, h => h
  | fuel + 1, listed, _, _, ho, h => ⟨h.1, fun i hi => wpOp_mono (fun a' w' h' => by
      have hon : offS late (listed.setIfInBounds i true) = true := by
        unfold offS at *
        rw [List.any_eq_true] at *
        obtain ⟨k, hk, h1⟩ := ho
        refine ⟨k, by simpa using hk, ?_⟩
        simp only [Array.getD_eq_getD_getElem?, Bool.and_eq_true] at h1 ⊢
        refine ⟨h1.1, ?_⟩
        rw [Array.getElem?_setIfInBounds]
        split
        · split <;> simp_all
        · exact h1.2
      exact And.intro (fun e => absurd (hon.symm.trans e) (by simp)) (wpAnyK_off fuel _ a' w' hon h'.2)) (h.2 i hi)⟩
/-- Ancestors of what is listed are listed. -/
def AC (anc : Nat → Nat) (listed : Array Bool) : Prop := ∀ j k, listed.getD j false = true → (anc j).testBit k = true → listed.getD k false = true
def AncOk (md : Region.Mode) (ops : Array Oper) (anc : Nat → Nat) : Prop :=
  ∀ j oj k, ops[j]? = some oj → (anc j).testBit k = true → (∃ e ∈ oj.after, Region.binds md e = true ∧ e.on = k) ∨ ∃ d, (∃ e ∈ oj.after, Region.binds md e = true ∧ e.on = d) ∧ (anc d).testBit k = true
theorem anc_listed {anc : Nat → Nat} (hA : AncOk md ops anc) {listed : Array Bool} (hC : AC anc listed) {j : Nat} (hj : j ∈ Region.ready md ops listed) {k : Nat} (hk : (anc j).testBit k = true) : listed.getD k false = true := by
  obtain ⟨_, oj, hoj, hall⟩ := mem_ready.1 hj
  rcases hA j oj k hoj hk with ⟨e, he, hb, rfl⟩ | ⟨d, ⟨e, he, hb, rfl⟩, hd⟩
  · exact hall e he hb
  · exact hC _ _ (hall e he hb) hd
theorem AC.step {anc : Nat → Nat} (hA : AncOk md ops anc) {listed : Array Bool} (hC : AC anc listed) {j : Nat} (hj : j ∈ Region.ready md ops listed) : AC anc (listed.setIfInBounds j true) := by
  have grow : ∀ k, listed.getD k false = true → (listed.setIfInBounds j true).getD k false = true := by
    intro k hk
    simp only [Array.getD_eq_getD_getElem?, Array.getElem?_setIfInBounds] at hk ⊢
    split
    · split <;> simp_all
    · exact hk
  intro x k hx hk
  by_cases e : x = j
  · subst e; exact grow k (anc_listed hA hC hj hk)
  · refine grow k (hC x k ?_ hk)
    simp only [Array.getD_eq_getD_getElem?, Array.getElem?_setIfInBounds] at hx ⊢
    rw [if_neg (Ne.symm e)] at hx
    exact hx
theorem wpAnyK_first {i : Nat} {oi : Oper} {v : Value} (hi : ops[i]? = some oi) (hsel : ∀ (j : Nat) (o : Oper) cs b, ops[j]? = some o → o.op ≠ .select cs b)
    (hQ : ∀ c a w, Q (.panic c) (a.put oi.dst v) w → Q (.panic c) a w) {anc : Nat → Nat} (hA : AncOk md ops anc)
    (hlate : ∀ j oj, ops[j]? = some oj → late j = true → (anc j).testBit i = true) (hli : late i = false) :
    ∀ (fuel : Nat) (listed : Array Bool) (a : Act) (w : World), AC anc listed →
      (∀ j oj, ops[j]? = some oj → j ≠ i → listed.getD j true = false → (∀ e ∈ oj.after, Region.binds md e = true → e.on ≠ i) → oi.apart ops oj = true) →
      i ∈ Region.ready md ops listed → YieldsIf P ops S oi v a → S w → offS late listed = false →
      wpAnyK P md ops Q S late fuel (listed.setIfInBounds i true) (a.put oi.dst v) w → wpAnyK P md ops Q S late (fuel + 1) listed a w := by
  intro fuel
  induction fuel with
  | zero =>
    intro listed a w _ _ hr hy hS _ H
    refine ⟨fun h => (by rw [h] at hr; cases hr), fun j hj => ?_⟩
    by_cases hji : j = i
    · subst hji; exact hy.wpOp hi hS ⟨fun _ => hS, H⟩
    · have := ready_mono hj hji
      rw [H.1] at this
      cases this
  | succ fuel ih =>
    intro listed a w hC hfree hr hy hS hoff H
    refine ⟨fun h => (by rw [h] at hr; cases hr), fun j hj => ?_⟩
    by_cases hji : j = i
    · subst hji; exact hy.wpOp hi hS ⟨fun _ => hS, H⟩
    · have h1 := H.2 j (ready_mono hj hji)
      obtain ⟨hjun, oj, hoj, hall⟩ := mem_ready.1 hj
      have hno : listed.getD i false = true → False := fun h1 => by
        have h0 := (mem_ready.1 hr).1
        rcases Nat.lt_or_ge i listed.size with h' | h'
        · simp [h'] at h0 h1; rw [h0] at h1; cases h1
        · simp [Array.getElem?_eq_none h'] at h1
      have hnot : ∀ e ∈ oj.after, Region.binds md e = true → e.on ≠ i := fun e he hb heq => by
        have h1 := hall e he hb
        rw [heq] at h1
        exact hno h1
      have hlj : late j = false := by
        cases hl : late j with
        | false => rfl
        | true => exact (hno (anc_listed hA hC hj (hlate j oj hoj hl))).elim
      have h2 := wpOp_putIf hoj (hfree j oj hoj hji hjun hnot) (fun cs b => hsel i oi cs b hi) (fun cs b => hsel j oj cs b hoj) hQ hy h1
      have hfree' : ∀ k ok, ops[k]? = some ok → k ≠ i → (listed.setIfInBounds j true).getD k true = false →
          (∀ e ∈ ok.after, Region.binds md e = true → e.on ≠ i) → oi.apart ops ok = true := fun k ok hk hki hun hno => by
        refine hfree k ok hk hki ?_ hno
        by_cases hjk : j = k
        · subst hjk; exact hjun
        · rw [getD_set_ne true hjk] at hun; exact hun
      have hoff1 := offS_set hoff hlj
      have hoff2 := offS_set (offS_set hoff hli) hlj
      refine wpOp_mono (fun a' w' h3 => ⟨fun _ => h3.2.1 hoff2, ih (listed.setIfInBounds j true) a' w' (hC.step hA hj) hfree' (ready_mono hr (Ne.symm hji)) h3.1 (h3.2.1 hoff2) hoff1 ?_⟩) h2
      rw [Array.setIfInBounds_comm _ _ hji]
      exact h3.2.2
/-- What reads nothing may come first whatever else is listed. -/
theorem wpAnyK_pure {i : Nat} {oi : Oper} {v : Value} (hi : ops[i]? = some oi) (hsel : ∀ (j : Nat) (o : Oper) cs b, ops[j]? = some o → o.op ≠ .select cs b)
    (hQ : ∀ c a w, Q (.panic c) (a.put oi.dst v) w → Q (.panic c) a w) (hli : late i = false) :
    ∀ (fuel : Nat) (listed : Array Bool) (a : Act) (w : World),
      (∀ j oj, ops[j]? = some oj → j ≠ i → listed.getD j true = false → (∀ e ∈ oj.after, Region.binds md e = true → e.on ≠ i) → oi.apart ops oj = true) →
      i ∈ Region.ready md ops listed → YieldsIf P ops (fun _ => True) oi v a → (offS late listed = false → S w) →
      wpAnyK P md ops Q S late fuel (listed.setIfInBounds i true) (a.put oi.dst v) w → wpAnyK P md ops Q S late (fuel + 1) listed a w := by
  intro fuel
  induction fuel with
  | zero =>
    intro listed a w _ hr hy hS H
    refine ⟨fun h => (by rw [h] at hr; cases hr), fun j hj => ?_⟩
    by_cases hji : j = i
    · subst hji; exact hy.wpOp hi trivial ⟨fun ho => hS (by cases h : offS late listed with
        | false => rfl
        | true => exact absurd ho (by
            have : offS late (listed.setIfInBounds j true) = true := by
              cases h2 : offS late (listed.setIfInBounds j true) with
              | true => rfl
              | false =>
                exfalso
                unfold offS at h h2
                rw [List.any_eq_true] at h
                rw [List.any_eq_false] at h2
                obtain ⟨k, hk, h1⟩ := h
                refine h2 k (by simpa using hk) ?_
                simp only [Array.getD_eq_getD_getElem?, Bool.and_eq_true] at h1 ⊢
                refine ⟨h1.1, ?_⟩
                rw [Array.getElem?_setIfInBounds]
                split
                · split <;> simp_all
                · exact h1.2
            rw [this]; simp)), H⟩
    · have := ready_mono hj hji
      rw [H.1] at this
      cases this
  | succ fuel ih =>
    intro listed a w hfree hr hy hS H
    have mono : ∀ (l : Array Bool) (j : Nat), offS late (l.setIfInBounds j true) = false → offS late l = false := by
      intro l j h2
      cases h : offS late l with
      | false => rfl
      | true =>
        exfalso
        unfold offS at h h2
        rw [List.any_eq_true] at h
        rw [List.any_eq_false] at h2
        obtain ⟨k, hk, h1⟩ := h
        refine h2 k (by simpa using hk) ?_
        simp only [Array.getD_eq_getD_getElem?, Bool.and_eq_true] at h1 ⊢
        refine ⟨h1.1, ?_⟩
        rw [Array.getElem?_setIfInBounds]
        split
        · split <;> simp_all
        · exact h1.2
    refine ⟨fun h => (by rw [h] at hr; cases hr), fun j hj => ?_⟩
    by_cases hji : j = i
    · subst hji; exact hy.wpOp hi trivial ⟨fun ho => hS (mono _ _ ho), H⟩
    · have h1 := H.2 j (ready_mono hj hji)
      obtain ⟨hjun, oj, hoj, hall⟩ := mem_ready.1 hj
      have hno : listed.getD i false = true → False := fun h1 => by
        have h0 := (mem_ready.1 hr).1
        rcases Nat.lt_or_ge i listed.size with h' | h'
        · simp [h'] at h0 h1; rw [h0] at h1; cases h1
        · simp [Array.getElem?_eq_none h'] at h1
      have hnot : ∀ e ∈ oj.after, Region.binds md e = true → e.on ≠ i := fun e he hb heq => by
        have h1 := hall e he hb
        rw [heq] at h1
        exact hno h1
      have h2 := wpOp_putIf hoj (hfree j oj hoj hji hjun hnot) (fun cs b => hsel i oi cs b hi) (fun cs b => hsel j oj cs b hoj) hQ hy h1
      have hfree' : ∀ k ok, ops[k]? = some ok → k ≠ i → (listed.setIfInBounds j true).getD k true = false →
          (∀ e ∈ ok.after, Region.binds md e = true → e.on ≠ i) → oi.apart ops ok = true := fun k ok hk hki hun hno => by
        refine hfree k ok hk hki ?_ hno
        by_cases hjk : j = k
        · subst hjk; exact hjun
        · rw [getD_set_ne true hjk] at hun; exact hun
      have hsame : offS late (listed.setIfInBounds j true) = false → offS late ((listed.setIfInBounds i true).setIfInBounds j true) = false := by
        intro h
        rw [Array.setIfInBounds_comm _ _ (Ne.symm hji)]
        exact offS_set h hli
      refine wpOp_mono (fun a' w' h3 => ⟨fun ho => h3.2.1 (hsame ho), ih (listed.setIfInBounds j true) a' w' hfree' (ready_mono hr (Ne.symm hji)) h3.1 (fun ho => h3.2.1 (hsame ho)) ?_⟩) h2
      rw [Array.setIfInBounds_comm _ _ hji]
      exact h3.2.2
end
/-- r says no more than m. -/
def Le (r m : Mem) : Prop := ∀ b o, r b = some o → m b = some o
theorem Le.refl (m : Mem) : Le m m := fun _ _ h => h
theorem Le.trans {a b c : Mem} (h : Le a b) (k : Le b c) : Le a c := fun x o hx => k x o (h x o hx)
theorem Fit.le {r m : Mem} {w : World} (h : Fit m w) (l : Le r m) : Fit r w := fun b o hb => h b o (l b o hb)
/-- What has been read in a region stays behind a loud operation. -/
def Lk (r m' : Mem) (K : Mem → Prop) : Prop := ∃ r', Le r r' ∧ Le r' m' ∧ K r'
theorem Lk.all {r m' : Mem} {K : Mem → Prop} (h : Le r m') (k : K m') : Lk r m' K := ⟨m', h, Le.refl _, k⟩
def Sub (m : Mem) (K : Mem → Prop) : Prop := ∃ r, Le r m ∧ K r
theorem Sub.all {m : Mem} {K : Mem → Prop} (k : K m) : Sub m K := ⟨m, Le.refl _, k⟩
section
variable (P : Program) (ops : Array Oper)
def isPick : Op → Bool
  | .pick .. => true
  | _ => false
def isQuiet (o : Oper) : Bool := isPick o.op || quietOp P o.op
def quietP (ρ : Env) (m : Mem) (o : Oper) (K : Env → Prop) : Prop :=
  match o.op with
  | .pick c a b => pickP ρ o.dst c a b K
  | _ => qval P ρ m o (fun v => K (putE ρ o.dst v)) False
/-- An order of a region: one after another (number; 1: others may come ahead of it, 3: that too, and it reads nothing, 2: no reading free one comes behind it, 0: else); or two that may come either way round. -/
inductive Ord where
  | done
  | one (i : Nat) (fl : Nat) (r : Ord)
  | alt (i : Nat) (fi : Nat) (x : Ord) (j : Nat) (fj : Nat) (y : Ord)
def Ord.len : Ord → Nat
  | .done => 0
  | .one _ _ r => r.len + 1
  | .alt _ _ x _ _ _ => x.len + 1
def hstep (Pn : List PanicEntry → Mem → Prop) (i : Nat) (fl : Nat) (rest : Mem → Env → Mem → Prop) (r : Mem) (ρ : Env) (m : Mem) : Prop :=
  match ops[i]? with
  | none => False
  | some o =>
    guardP ops ρ o
      (fun ρ' => match fl with
        | 1 => quietP P ρ' r o fun ρ'' => rest r ρ'' m
        | 2 => oneP P ρ' m o (fun ρ'' m' => rest m' ρ'' m') Pn
        | 3 => quietP P ρ' (fun _ => none) o fun ρ'' => rest r ρ'' m
        | _ => bif isQuiet P o then quietP P ρ' m o fun ρ'' => rest r ρ'' m
                   else oneP P ρ' m o (fun ρ'' m' => Lk r m' fun r' => rest r' ρ'' m') Pn)
      (fun ρ' => rest r (putE ρ' o.dst undef) m)
/-- The walk of a region that draws, in the order π. -/
def hdraw (K : Env → Mem → Prop) (Pn : List PanicEntry → Mem → Prop) : Ord → Mem → Env → Mem → Prop
  | .done, _, ρ, m => K ρ m
  | .one i fl π, r, ρ, m => hstep P ops Pn i fl (hdraw K Pn π) r ρ m
  | .alt i fi x j fj y, r, ρ, m => hstep P ops Pn i fi (hdraw K Pn x) r ρ m ∧ hstep P ops Pn j fj (hdraw K Pn y) r ρ m
def afterM (o : Oper) : Nat := o.after.toList.foldl (fun s e => if Region.binds .any e then s ||| 2 ^ e.on else s) 0
def lateOn (D : Nat) (anc : Nat → Nat) (i : Nat) : Bool := (List.range ops.size).all fun j => !(D.testBit j) || (anc j).testBit i
def stepGo (D : Nat) (anc : Nat → Nat) (listed : Array Bool) (i fl : Nat) : Bool :=
  match ops[i]? with
  | none => false
  | some o =>
    match fl with
    | 1 => isQuiet P o && (Region.free .any ops listed i && ((Region.ready .any ops listed).contains i && (!(D.testBit i) && (!(offS (fun j => D.testBit j) listed) && lateOn ops D anc i))))
    | 3 => isQuiet P o && (Region.free .any ops listed i && ((Region.ready .any ops listed).contains i && !(D.testBit i)))
    | 2 => offS (fun j => D.testBit j) (listed.setIfInBounds i true)
    | _ => true
def isFree (fl : Nat) : Bool := Nat.beq fl 1 || Nat.beq fl 3
def drawGo (D : Nat) (anc : Nat → Nat) : Array Bool → Ord → Bool
  | listed, .done => (Region.ready .any ops listed).isEmpty
  | listed, .one i fl π => stepGo P ops D anc listed i fl && ((isFree fl || Region.ready .any ops listed == [i]) && drawGo D anc (listed.setIfInBounds i true) π)
  | listed, .alt i fi x j fj y =>
    ((!(Region.ready .any ops listed).isEmpty && (Region.ready .any ops listed).all fun k => Nat.beq k i || Nat.beq k j) && (Nat.beq x.len y.len && (!(isFree fi) && (!(isFree fj) && (stepGo P ops D anc listed i fi && stepGo P ops D anc listed j fj))))) &&
      (drawGo D anc (listed.setIfInBounds i true) x && drawGo D anc (listed.setIfInBounds j true) y)
def drawOk (D : Nat) (anc : Nat → Nat) (π : Ord) : Bool := Region.noSelect ops && π.len == ops.size && drawGo P ops D anc (Array.replicate ops.size false) π
end
section
variable (P : Program)
def looksM (ops : Array Oper) (o : Oper) : Nat := (o.looksAt ops).foldl (fun s t => s ||| 2 ^ t) 0
def dstM (o : Oper) : Nat := match o.dst with | some d => d + 1 | none => 0
abbrev Row := Nat × Nat × Nat
def rowOf (ops : Array Oper) (o : Oper) : Row := (afterM o, looksM ops o, dstM o)
def rowsEq : List Row → List Row → Bool
  | [], [] => true
  | (a, b, c) :: r, (a', b', c') :: s => Nat.beq a a' && (Nat.beq b b' && (Nat.beq c c' && rowsEq r s))
  | _, _ => false
def apartM (x y : Row) : Bool :=
  (Nat.beq x.2.2 0 || (!(y.2.1.testBit (x.2.2 - 1)) && !(Nat.beq y.2.2 x.2.2))) && (Nat.beq y.2.2 0 || !(x.2.1.testBit (y.2.2 - 1)))
def readyM (L j : Nat) (x : Row) : Bool := !(L.testBit j) && Nat.beq (x.1 &&& L) x.1
/-- No other row than i (from j on) that is not listed fails f. -/
def allM (L i : Nat) (f : Nat → Row → Bool) : Nat → List Row → Bool
  | _, [] => true
  | j, x :: r => (Nat.beq j i || (L.testBit j || f j x)) && allM L i f (j + 1) r
def orAnc (mask : Nat) : Nat → List Nat → Nat
  | _, [] => 0
  | j, x :: r => (bif mask.testBit j then x else 0) ||| orAnc mask (j + 1) r
def ancM (all : List Nat) : List Nat → List Row → Bool
  | [], _ => true
  | x :: xs, r :: rs => Nat.beq (x &&& (r.1 ||| orAnc r.1 0 all)) x && ancM all xs rs
  | _ :: _, [] => false
def lateM (D i : Nat) : Nat → List Nat → Bool
  | _, [] => true
  | j, x :: r => (!(D.testBit j) || x.testBit i) && lateM D i (j + 1) r
def stepM (ops : Array Oper) (anc : List Nat) (tab : List Row) (D L i fl : Nat) (x : Row) : Bool :=
  match fl with
  | 1 => (match ops[i]? with | some o => isQuiet P o | none => false) && (readyM L i x && (allM L i (fun _ y => y.1.testBit i || apartM x y) 0 tab && (!(D.testBit i) && (Nat.beq (L &&& D) 0 && lateM D i 0 anc))))
  | 3 => (match ops[i]? with | some o => isQuiet P o | none => false) && (readyM L i x && (allM L i (fun _ y => y.1.testBit i || apartM x y) 0 tab && !(D.testBit i)))
  | 2 => D.testBit i || !(Nat.beq (L &&& D) 0)
  | _ => true
def goM (ops : Array Oper) (anc : List Nat) (tab : List Row) (D : Nat) : Nat → Ord → Bool
  | L, .done => allM L tab.length (fun j x => !readyM L j x) 0 tab
  | L, .one i fl π =>
    match tab[i]? with
    | some x => stepM P ops anc tab D L i fl x && ((isFree fl || (readyM L i x && allM L i (fun j y => !readyM L j y) 0 tab)) && goM ops anc tab D (L ||| 2 ^ i) π)
    | _ => false
  | L, .alt i fi x j fj y =>
    match tab[i]?, tab[j]? with
    | some u, some v =>
      ((readyM L i u && allM L i (fun k y => Nat.beq k j || !readyM L k y) 0 tab) && (Nat.beq x.len y.len && (!(isFree fi) && (!(isFree fj) && (stepM P ops anc tab D L i fi u && stepM P ops anc tab D L j fj v))))) && (goM ops anc tab D (L ||| 2 ^ i) x && goM ops anc tab D (L ||| 2 ^ j) y)
    | _, _ => false
abbrev Tab := Nat × List Nat × List Row
def drawM (ops : Array Oper) (tab : Tab) (π : Ord) : Bool :=
  Region.noSelect ops && (Nat.beq π.len ops.size && (rowsEq tab.2.2 (ops.toList.map (rowOf ops)) && ((ancM tab.2.1 tab.2.1 tab.2.2 && Nat.beq tab.2.1.length ops.size) && goM P ops tab.2.1 tab.2.2 tab.1 0 π)))
end
theorem rowsEq_eq : ∀ {a b : List Row}, rowsEq a b = true → a = b
  | [], [], _ => rfl
  | (a, b, c) :: r, (a', b', c') :: s, h => by
    simp only [rowsEq, Bool.and_eq_true] at h
    obtain ⟨h1, h2, h3, h4⟩ := h
    rw [Nat.eq_of_beq_eq_true h1, Nat.eq_of_beq_eq_true h2, Nat.eq_of_beq_eq_true h3, rowsEq_eq h4]
  | [], _ :: _, h => by simp [rowsEq] at h
  | _ :: _, [], h => by simp [rowsEq] at h
theorem testBit_orPow (s t k : Nat) : (s ||| 2 ^ t).testBit k = (s.testBit k || decide (t = k)) := by
  rw [Nat.testBit_or, Nat.testBit_two_pow]
theorem foldl_bits (f : Edge → Bool) : ∀ (l : List Edge) (s k : Nat),
    (l.foldl (fun s e => if f e then s ||| 2 ^ e.on else s) s).testBit k = (s.testBit k || l.any fun e => f e && decide (e.on = k))
  | [], s, k => by simp
  | e :: l, s, k => by
    rw [List.foldl_cons, foldl_bits f l]
    cases hf : f e with
    | true => simp only [if_true, testBit_orPow, List.any_cons, hf, Bool.true_and, Bool.or_assoc]
    | false => simp [hf]
theorem foldl_tmps : ∀ (l : List Nat) (s k : Nat), (l.foldl (fun s t => s ||| 2 ^ t) s).testBit k = (s.testBit k || l.contains k)
  | [], s, k => by simp
  | t :: l, s, k => by
    rw [List.foldl_cons, foldl_tmps l, testBit_orPow]
    have : (decide (t = k)) = (k == t) := by
      by_cases h : t = k
      · subst h; simp
      · have h' : ¬ k = t := fun e => h e.symm
        simp [h, h']
    rw [this, List.contains_cons, Bool.or_assoc]
theorem looksM_bit (ops : Array Oper) (o : Oper) (k : Nat) : (looksM ops o).testBit k = (o.looksAt ops).contains k := by
  unfold looksM; rw [foldl_tmps]; simp
theorem afterM_bit (o : Oper) (k : Nat) : (afterM o).testBit k = o.after.toList.any fun e => Region.binds .any e && decide (e.on = k) := by
  unfold afterM; rw [foldl_bits]; simp
theorem beq_dec (a b : Nat) : Nat.beq a b = decide (a = b) := by
  cases h : Nat.beq a b with
  | true => simp [Nat.eq_of_beq_eq_true h]
  | false =>
    have : ¬ a = b := fun e => by subst e; simp at h
    simp [this]
theorem apartM_eq (ops : Array Oper) (x y : Oper) : apartM (rowOf ops x) (rowOf ops y) = x.apart ops y := by
  unfold apartM Oper.apart rowOf
  simp only [looksM_bit, dstM, beq_dec]
  cases hx : x.dst with
  | none => cases hy : y.dst <;> simp
  | some d =>
    cases hy : y.dst with
    | none => simp
    | some d' =>
      have : (d' == d) = decide (d' = d) := by by_cases h : d' = d <;> simp [h]
      simp [bne, this]
/-- The listed ones, as bits. -/
def Bits (n L : Nat) (listed : Array Bool) : Prop := listed.size = n ∧ (∀ j, j < n → listed.getD j true = L.testBit j) ∧ ∀ j, n ≤ j → L.testBit j = false
theorem Bits.getF {n L : Nat} {listed : Array Bool} (h : Bits n L listed) (j : Nat) : listed.getD j false = L.testBit j := by
  by_cases hj : j < n
  · have := h.2.1 j hj
    simp [Array.getD_eq_getD_getElem?, h.1, hj] at this ⊢; exact this
  · rw [h.2.2 j (by omega)]; simp [Array.getD_eq_getD_getElem?, h.1, hj]
theorem Bits.set {n L : Nat} {listed : Array Bool} (h : Bits n L listed) {i : Nat} (hi : i < n) : Bits n (L ||| 2 ^ i) (listed.setIfInBounds i true) := by
  refine ⟨by simp [h.1], fun j hj => ?_, fun j hj => ?_⟩
  · rw [testBit_orPow]
    by_cases e : i = j
    · subst e; simp [Array.getD_eq_getD_getElem?, h.1, hi]
    · have := h.2.1 j hj
      simp only [e, decide_false, Bool.or_false]
      rw [← this]
      simp [Array.getD_eq_getD_getElem?, e]
  · rw [testBit_orPow, h.2.2 j hj]
    have : ¬ i = j := by omega
    simp [this]
theorem after_all {n L : Nat} {listed : Array Bool} (h : Bits n L listed) (o : Oper) :
    (o.after.all fun e => !Region.binds .any e || listed.getD e.on false) = Nat.beq (afterM o &&& L) (afterM o) := by
  have key : (o.after.all fun e => !Region.binds .any e || listed.getD e.on false) = true ↔ (afterM o &&& L) = afterM o := by
    rw [Array.all_eq_true_iff_forall_mem]
    constructor
    · intro hall
      apply Nat.eq_of_testBit_eq
      intro k
      rw [Nat.testBit_and]
      cases hb : (afterM o).testBit k with
      | false => simp
      | true =>
        rw [afterM_bit, List.any_eq_true] at hb
        obtain ⟨e, he, hk⟩ := hb
        simp only [Bool.and_eq_true, decide_eq_true_eq] at hk
        have := hall e (Array.mem_toList_iff.1 he)
        rw [h.getF] at this
        rw [hk.1, hk.2] at this
        simpa using this
    · intro heq e he
      rw [h.getF]
      cases hb : Region.binds .any e with
      | false => simp
      | true =>
        have : (afterM o).testBit e.on = true := by
          rw [afterM_bit, List.any_eq_true]
          exact ⟨e, Array.mem_toList_iff.2 he, by simp [hb]⟩
        rw [← heq, Nat.testBit_and] at this
        simp only [Bool.and_eq_true] at this
        simp [this.2]
  by_cases hx : (afterM o &&& L) = afterM o
  · rw [key.2 hx, hx]; simp
  · have h1 : (o.after.all fun e => !Region.binds .any e || listed.getD e.on false) = false := by
      cases hh : (o.after.all fun e => !Region.binds .any e || listed.getD e.on false) with
      | false => rfl
      | true => exact absurd (key.1 hh) hx
    rw [h1]
    cases hb : Nat.beq (afterM o &&& L) (afterM o) with
    | false => rfl
    | true => exact absurd (Nat.eq_of_beq_eq_true hb) hx
theorem mem_ready_iff {n L : Nat} {listed : Array Bool} {ops : Array Oper} (hn : ops.size = n) (h : Bits n L listed) {j : Nat} {o : Oper} (ho : ops[j]? = some o) :
    j ∈ Region.ready .any ops listed ↔ readyM L j (rowOf ops o) = true := by
  have hj : j < n := by
    rw [← hn]
    rcases Nat.lt_or_ge j ops.size with h1 | h1
    · exact h1
    · rw [Array.getElem?_eq_none h1] at ho; cases ho
  unfold Region.ready readyM rowOf
  simp only [List.mem_filter, List.mem_range, hn, hj, true_and, ho, Option.map_some, Option.getD_some, Bool.and_eq_true]
  rw [after_all h o, h.2.1 j hj]
theorem allM_get {L i : Nat} {f : Nat → Row → Bool} : ∀ {l : List Row} {j : Nat}, allM L i f j l = true → ∀ k x, l[k]? = some x → j + k ≠ i → L.testBit (j + k) = false → f (j + k) x = true
  | [], j, _, k, x, hk, _, _ => by simp at hk
  | y :: r, j, h, k, x, hk, hne, hL => by
    simp only [allM, Bool.and_eq_true, Bool.or_eq_true] at h
    cases k with
    | zero =>
      simp at hk; subst hk
      rcases h.1 with hb | hb | hb
      · exact absurd (Nat.eq_of_beq_eq_true hb) hne
      · rw [Nat.add_zero] at hL; rw [hL] at hb; cases hb
      · exact hb
    | succ k =>
      have := allM_get h.2 k x (by simpa using hk) (by omega) (by rw [show j + 1 + k = j + (k + 1) by omega]; exact hL)
      rw [show j + (k + 1) = j + 1 + k by omega]; exact this
theorem filter_one {l : List Nat} (hl : l.Nodup) {p : Nat → Bool} {i : Nat} (hi : i ∈ l) (hp : p i = true) (ho : ∀ j ∈ l, j ≠ i → p j = false) : l.filter p = [i] := by
  induction l with
  | nil => cases hi
  | cons a r ih =>
    rw [List.nodup_cons] at hl
    by_cases e : a = i
    · subst e
      rw [List.filter_cons, if_pos hp]
      congr 1
      rw [List.filter_eq_nil_iff]
      intro j hj hpj
      have hne : j ≠ a := fun e => by subst e; exact hl.1 hj
      rw [ho j (by simp [hj]) hne] at hpj; cases hpj
    · rw [List.filter_cons, if_neg (by rw [ho a (by simp) e]; simp)]
      refine ih hl.2 ?_ (fun j hj => ho j (by simp [hj]))
      rcases List.mem_cons.1 hi with h | h
      · exact absurd h.symm e
      · exact h
theorem lateM_get {D i : Nat} : ∀ {l : List Nat} {j : Nat}, lateM D i j l = true → ∀ k x, l[k]? = some x → D.testBit (j + k) = true → x.testBit i = true
  | [], j, _, k, x, hk, _ => by simp at hk
  | y :: r, j, h, k, x, hk, hD => by
    simp only [lateM, Bool.and_eq_true, Bool.or_eq_true] at h
    cases k with
    | zero =>
      simp at hk; subst hk
      rcases h.1 with hb | hb
      · rw [Nat.add_zero] at hD; rw [hD] at hb; cases hb
      · exact hb
    | succ k => exact lateM_get h.2 k x (by simpa using hk) (by rw [show j + 1 + k = j + (k + 1) by omega]; exact hD)
theorem orAnc_bit {mask k : Nat} : ∀ {l : List Nat} {j : Nat}, (orAnc mask j l).testBit k = true → ∃ d x, mask.testBit (j + d) = true ∧ l[d]? = some x ∧ x.testBit k = true
  | [], j, h => by simp [orAnc] at h
  | x :: r, j, h => by
    unfold orAnc at h
    rw [Nat.testBit_or, Bool.or_eq_true] at h
    rcases h with h | h
    · cases hm : mask.testBit j with
      | true => rw [hm] at h; exact ⟨0, x, by simpa using hm, rfl, h⟩
      | false => rw [hm] at h; simp at h
    · obtain ⟨d, y, h1, h2, h3⟩ := orAnc_bit h
      exact ⟨d + 1, y, by rw [show j + (d + 1) = j + 1 + d by omega]; exact h1, by simpa using h2, h3⟩
theorem ancM_get {all : List Nat} : ∀ {xs : List Nat} {rs : List Row}, ancM all xs rs = true → ∀ (k x : Nat), xs[k]? = some x → ∃ r : Row, rs[k]? = some r ∧ x &&& (r.1 ||| orAnc r.1 0 all) = x
  | [], _, _, k, x, hk => by simp at hk
  | y :: xs, [], h, _, _, _ => by simp [ancM] at h
  | y :: xs, r :: rs, h, k, x, hk => by
    simp only [ancM, Bool.and_eq_true] at h
    cases k with
    | zero => simp at hk; subst hk; exact ⟨r, rfl, Nat.eq_of_beq_eq_true h.1⟩
    | succ k => simpa using ancM_get h.2 k x (by simpa using hk)
def ancF (anc : List Nat) : Nat → Nat := fun j => anc.getD j 0
theorem offS_bits {n L D : Nat} {listed : Array Bool} (h : Bits n L listed) : offS (fun j => D.testBit j) listed = !(Nat.beq (L &&& D) 0) := by
  unfold offS
  cases hb : Nat.beq (L &&& D) 0 with
  | true =>
    have h0 := Nat.eq_of_beq_eq_true hb
    show _ = false
    rw [List.any_eq_false]
    intro k _ hk
    simp only [Bool.and_eq_true] at hk
    rw [h.getF] at hk
    have : (L &&& D).testBit k = true := by rw [Nat.testBit_and, hk.1, hk.2]; rfl
    rw [h0] at this; simp at this
  | false =>
    show _ = true
    have hne : L &&& D ≠ 0 := fun e => by rw [e] at hb; cases hb
    obtain ⟨k, hk⟩ := Nat.exists_testBit_of_ne_zero hne
    rw [Nat.testBit_and, Bool.and_eq_true] at hk
    rw [List.any_eq_true]
    refine ⟨k, ?_, ?_⟩
    · rw [List.mem_range, h.1]
      rcases Nat.lt_or_ge k n with h1 | h1
      · exact h1
      · rw [h.2.2 k h1] at hk; cases hk.1
    · simp only [Bool.and_eq_true]
      rw [h.getF]; exact ⟨hk.2, hk.1⟩
theorem lt_of_get {ops : Array Oper} {i : Nat} {o : Oper} (h : ops[i]? = some o) : i < ops.size := by
  rcases Nat.lt_or_ge i ops.size with h1 | h1
  · exact h1
  · rw [Array.getElem?_eq_none h1] at h; cases h
theorem row_get {ops : Array Oper} {k : Nat} {z : Row} (hz : (ops.toList.map (rowOf ops))[k]? = some z) : k < ops.size ∧ ∃ o, ops[k]? = some o ∧ z = rowOf ops o := by
  rw [List.getElem?_map] at hz
  cases hk : ops.toList[k]? with
  | none => rw [hk] at hz; cases hz
  | some o =>
    rw [hk] at hz
    have hk' : ops[k]? = some o := by simpa using hk
    exact ⟨lt_of_get hk', o, hk', by cases hz; rfl⟩
theorem stepM_sound {P : Program} {ops : Array Oper} {n : Nat} (hn : ops.size = n) {anc : List Nat} (hal : anc.length = n) {D L i fl : Nat} {listed : Array Bool} (hB : Bits n L listed) {o : Oper} (ho : ops[i]? = some o)
    (h : stepM P ops anc (ops.toList.map (rowOf ops)) D L i fl (rowOf ops o) = true) : stepGo P ops D (ancF anc) listed i fl = true := by
  have hi : i < n := by rw [← hn]; exact lt_of_get ho
  unfold stepM at h
  unfold stepGo
  simp only [ho]
  split at h
  · simp only [ho, Bool.and_eq_true] at h
    obtain ⟨hq, hr, ha, hd, h0, hl⟩ := h
    simp only [Bool.and_eq_true]
    refine ⟨hq, ?_, ?_, hd, ?_, ?_⟩
    · unfold Region.free
      rw [ho]
      simp only [List.all_eq_true, List.mem_range]
      intro j hj
      by_cases e : j = i
      · simp [e]
      · by_cases hl : listed.getD j true = true
        · simp [hl]
        · have hjo : ops[j]? = some ops[j] := by simp [hj]
          have hL : L.testBit j = false := by rw [← hB.2.1 j (by omega)]; simpa using hl
          have := allM_get ha j (rowOf ops ops[j]) (by simp [hj]) (by simpa using e) (by simpa using hL)
          simp only [Bool.or_eq_true] at this
          rw [hjo]
          simp only [Bool.or_eq_true]
          right
          rcases this with h1 | h1
          · left
            have h1 : (afterM ops[j]).testBit i = true := h1
            rw [afterM_bit, List.any_eq_true] at h1
            obtain ⟨e', he', hk⟩ := h1
            rw [← Array.any_toList, List.any_eq_true]
            refine ⟨e', he', ?_⟩
            simp only [Bool.and_eq_true, decide_eq_true_eq] at hk
            simp [hk.1, hk.2]
          · right; rw [← apartM_eq]; exact h1
    · simpa using (mem_ready_iff hn hB ho).2 hr
    · rw [offS_bits hB, h0]; rfl
    · unfold lateOn
      rw [List.all_eq_true]
      intro j hj
      rw [List.mem_range] at hj
      have hjo : ops[j]? = some ops[j] := by simp [hj]
      cases hdj : D.testBit j with
      | false => rfl
      | true =>
        have hja : anc[j]? = some (anc[j]'(by omega)) := List.getElem?_eq_getElem (by omega)
        have := lateM_get hl j _ hja (by simpa using hdj)
        unfold ancF
        rw [List.getD_eq_getElem?_getD, hja]
        simpa using this
  · simp only [ho, Bool.and_eq_true] at h
    obtain ⟨hq, hr, ha, hd⟩ := h
    simp only [Bool.and_eq_true]
    refine ⟨hq, ?_, ?_, hd⟩
    · unfold Region.free
      rw [ho]
      simp only [List.all_eq_true, List.mem_range]
      intro j hj
      by_cases e : j = i
      · simp [e]
      · by_cases hl : listed.getD j true = true
        · simp [hl]
        · have hjo : ops[j]? = some ops[j] := by simp [hj]
          have hL : L.testBit j = false := by rw [← hB.2.1 j (by omega)]; simpa using hl
          have := allM_get ha j (rowOf ops ops[j]) (by simp [hj]) (by simpa using e) (by simpa using hL)
          simp only [Bool.or_eq_true] at this
          rw [hjo]
          simp only [Bool.or_eq_true]
          right
          rcases this with h1 | h1
          · left
            have h1 : (afterM ops[j]).testBit i = true := h1
            rw [afterM_bit, List.any_eq_true] at h1
            obtain ⟨e', he', hk⟩ := h1
            rw [← Array.any_toList, List.any_eq_true]
            refine ⟨e', he', ?_⟩
            simp only [Bool.and_eq_true, decide_eq_true_eq] at hk
            simp [hk.1, hk.2]
          · right; rw [← apartM_eq]; exact h1
    · simpa using (mem_ready_iff hn hB ho).2 hr
  · have hB2 := hB.set hi
    rw [offS_bits hB2]
    simp only [Bool.or_eq_true] at h
    cases hb : Nat.beq ((L ||| 2 ^ i) &&& D) 0 with
    | false => rfl
    | true =>
      exfalso
      have h0 := Nat.eq_of_beq_eq_true hb
      rcases h with h | h
      · have : ((L ||| 2 ^ i) &&& D).testBit i = true := by rw [Nat.testBit_and, testBit_orPow, h]; simp
        rw [h0] at this; simp at this
      · have hne : L &&& D ≠ 0 := fun e => by rw [e] at h; cases h
        obtain ⟨k, hk⟩ := Nat.exists_testBit_of_ne_zero hne
        rw [Nat.testBit_and, Bool.and_eq_true] at hk
        have : ((L ||| 2 ^ i) &&& D).testBit k = true := by rw [Nat.testBit_and, testBit_orPow, hk.1, hk.2]; rfl
        rw [h0] at this; simp at this
  · rfl
theorem goM_sound {P : Program} {ops : Array Oper} {n : Nat} (hn : ops.size = n) {anc : List Nat} (hal : anc.length = n) {D : Nat} : ∀ (π : Ord) (L : Nat) (listed : Array Bool), Bits n L listed →
    goM P ops anc (ops.toList.map (rowOf ops)) D L π = true → drawGo P ops D (ancF anc) listed π = true
  | .done, L, listed, hB, h => by
    simp only [goM] at h
    simp only [drawGo, List.isEmpty_iff]
    rw [List.eq_nil_iff_forall_not_mem]
    intro j hj
    obtain ⟨hjl, o, ho, _⟩ := mem_ready.1 hj
    have hjn : j < n := by rw [← hn]; exact lt_of_get ho
    have hr := (mem_ready_iff hn hB ho).1 hj
    have hL : L.testBit j = false := by
      unfold readyM at hr; simp only [Bool.and_eq_true] at hr; simpa using hr.1
    have := allM_get h j (rowOf ops o) (by simp [ho]) (by simp [hn]; omega) (by simpa using hL)
    simp only [Nat.zero_add] at this
    rw [hr] at this; cases this
  | .one i fl π, L, listed, hB, h => by
    simp only [goM] at h
    split at h
    · rename_i x hx
      obtain ⟨hin, o, ho, rfl⟩ := row_get hx
      simp only [Bool.and_eq_true] at h
      obtain ⟨h1, h2, h3⟩ := h
      have hi : i < n := by omega
      simp only [drawGo, Bool.and_eq_true]
      refine ⟨stepM_sound hn hal hB ho h1, ?_, goM_sound hn hal π _ _ (hB.set hi) h3⟩
      simp only [Bool.or_eq_true, Bool.and_eq_true] at h2 ⊢
      rcases h2 with h2 | ⟨hr, ha⟩
      · exact .inl h2
      · right
        have hri := (mem_ready_iff hn hB ho).2 hr
        have : Region.ready .any ops listed = [i] := by
          unfold Region.ready at hri ⊢
          rw [List.mem_filter] at hri
          refine filter_one (List.nodup_range) hri.1 hri.2 ?_
          intro j hj hne
          have hjn : j < ops.size := by simpa using hj
          have hjo : ops[j]? = some ops[j] := by simp [hjn]
          by_cases hL : L.testBit j = true
          · have : listed.getD j true = true := by rw [hB.2.1 j (by omega)]; exact hL
            simp [this]
          · have hL' : L.testBit j = false := by simpa using hL
            have := allM_get ha j (rowOf ops ops[j]) (by simp [hjn]) (by simpa using hne) (by simpa using hL')
            simp only [Nat.zero_add, Bool.not_eq_true'] at this
            have hnm : ¬ j ∈ Region.ready .any ops listed := fun hm => by
              rw [(mem_ready_iff hn hB hjo).1 hm] at this; cases this
            unfold Region.ready at hnm
            rw [List.mem_filter] at hnm
            cases hp : (!listed.getD j true && ((ops[j]?).map (·.after.all fun e => !Region.binds .any e || listed.getD e.on false)).getD false) with
            | false => rfl
            | true => exact absurd ⟨hj, hp⟩ hnm
        simp [this]
    · cases h
  | .alt i fi x j fj y, L, listed, hB, h => by
    simp only [goM] at h
    split at h
    · rename_i u v hu hv
      simp only [Bool.and_eq_true] at h
      obtain ⟨⟨⟨hr, ha⟩, hlen, hf1, hf2, hs1, hs2⟩, h1, h2⟩ := h
      obtain ⟨hin, oi, hoi, rfl⟩ := row_get hu
      obtain ⟨hjn, oj, hoj, rfl⟩ := row_get hv
      have hri := (mem_ready_iff hn hB hoi).2 hr
      simp only [drawGo, Bool.and_eq_true]
      refine ⟨⟨⟨?_, ?_⟩, hlen, hf1, hf2, stepM_sound hn hal hB hoi hs1, stepM_sound hn hal hB hoj hs2⟩, goM_sound hn hal x _ _ (hB.set (by omega)) h1, goM_sound hn hal y _ _ (hB.set (by omega)) h2⟩
      · cases hR : Region.ready .any ops listed with
        | nil => rw [hR] at hri; cases hri
        | cons _ _ => rfl
      · rw [List.all_eq_true]
        intro k hk
        by_cases e : k = i
        · subst e; simp
        · obtain ⟨hkl, o, ho, _⟩ := mem_ready.1 hk
          have hkr := (mem_ready_iff hn hB ho).1 hk
          have hL : L.testBit k = false := by
            have hkr' := hkr
            unfold readyM at hkr'; simp only [Bool.and_eq_true] at hkr'; simpa using hkr'.1
          have := allM_get ha k (rowOf ops o) (by simp [ho]) (by simpa using e) (by simpa using hL)
          simp only [Nat.zero_add] at this
          rw [hkr] at this
          simp only [Bool.not_true, Bool.or_false] at this
          rw [this]; simp
    · cases h
theorem drawM_sound {P : Program} {ops : Array Oper} {tab : Tab} {π : Ord} (h : drawM P ops tab π = true) : drawOk P ops tab.1 (ancF tab.2.1) π = true ∧ AncOk .any ops (ancF tab.2.1) := by
  obtain ⟨D, anc, tab⟩ := tab
  unfold drawM at h
  unfold drawOk
  simp only [Bool.and_eq_true] at h ⊢
  obtain ⟨h1, h2, h3, ⟨h5, h6⟩, h4⟩ := h
  have := rowsEq_eq h3
  subst this
  have hl := Nat.eq_of_beq_eq_true h6
  refine ⟨⟨⟨h1, by simpa using Nat.eq_of_beq_eq_true h2⟩, ?_⟩, ?_⟩
  · refine goM_sound rfl hl π 0 _ ⟨by simp, fun j hj => ?_, fun j _ => by simp⟩ h4
    simp [Array.getD_eq_getD_getElem?, hj]
  · intro j oj k hoj hk
    have hjl := lt_of_get hoj
    have hja : anc[j]? = some (anc[j]'(by omega)) := List.getElem?_eq_getElem (by omega)
    have hk' : (anc[j]'(by omega)).testBit k = true := by
      unfold ancF at hk
      rw [List.getD_eq_getElem?_getD, hja] at hk
      simpa using hk
    obtain ⟨r, hr, he⟩ := ancM_get h5 j _ hja
    have hr' : r = rowOf ops oj := by
      simp only [List.getElem?_map, Array.getElem?_toList, hoj] at hr
      simpa using hr.symm
    subst hr'
    rw [← he, Nat.testBit_and, Bool.and_eq_true, Nat.testBit_or, Bool.or_eq_true] at hk'
    have conv : ∀ d, (rowOf ops oj).1.testBit d = true → ∃ e ∈ oj.after, Region.binds .any e = true ∧ e.on = d := by
      intro d hd
      have hd : (afterM oj).testBit d = true := hd
      rw [afterM_bit, List.any_eq_true] at hd
      obtain ⟨e, he, hx⟩ := hd
      simp only [Bool.and_eq_true, decide_eq_true_eq] at hx
      exact ⟨e, Array.mem_toList_iff.1 he, hx⟩
    rcases hk'.2 with hx | hx
    · exact .inl (conv k hx)
    · obtain ⟨d, x, g1, g2, g3⟩ := orAnc_bit hx
      refine .inr ⟨d, conv d (by simpa using g1), ?_⟩
      unfold ancF
      rw [List.getD_eq_getElem?_getD, g2]; exact g3
theorem wpAnyK_take {P : Program} {ops : Array Oper} {Q : Exit → Act → World → Prop} {md : Region.Mode} {S : World → Prop} {late : Nat → Bool} {i : Nat} {oi : Oper} {v : Value} {fuel : Nat} {listed : Array Bool} {a : Act} {w : World} (hi : ops[i]? = some oi)
    (hs : Region.noSelect ops = true) (hf : Region.free md ops listed i = true) (hr : (Region.ready md ops listed).contains i = true)
    (hQ : ∀ c a w, Q (.panic c) (a.put oi.dst v) w → Q (.panic c) a w) {anc : Nat → Nat} (hA : AncOk md ops anc) (hC : AC anc listed)
    (hlate : ∀ j oj, ops[j]? = some oj → late j = true → (anc j).testBit i = true) (hli : late i = false)
    (hy : YieldsIf P ops S oi v a) (hS : S w) (hoff : offS late listed = false)
    (h : wpAnyK P md ops Q S late fuel (listed.setIfInBounds i true) (a.put oi.dst v) w) : wpAnyK P md ops Q S late (fuel + 1) listed a w :=
  wpAnyK_first hi (Region.noSelect_spec hs) hQ hA hlate hli fuel listed a w hC (Region.free_spec hi hf) (by simpa using hr) hy hS hoff h
theorem fit_none (w : World) : Fit (fun _ => none) w := fun b o h => by cases h
theorem quiet_yields {P : Program} {n : Nat} {ds : DS} {ρ : Env} {r : Mem} {a : Act} {o : Oper} {K : Env → Prop} {ops : Array Oper}
    (hA : Ag n ds ρ a) (hw : Region.wanted o (yielded ops a.tmps) = true) (h : quietP P ρ r o K) :
    ∃ v, K (putE ρ o.dst v) ∧ YieldsIf P ops (Fit r) o v a := by
  unfold quietP at h
  split at h
  · rename_i c x y hop
    obtain ⟨v, hK, hr⟩ := pick_sound (P := P) hop h
    exact ⟨v, hK, .inl ⟨hw, fun w _ => by rw [hA.eval]; exact hr w⟩⟩
  · rcases qval_sound h with ⟨v, hK, hr⟩ | ⟨hN, _⟩
    · exact ⟨v, hK, .inl ⟨hw, fun w hf => by rw [hA.eval]; exact hr w hf⟩⟩
    · exact hN.elim
/-- One operation, its panics told of the base. -/
theorem one_base {P : Program} {m m0 : Mem} {w w0 : World} {n : Nat} {ds : DS} {ρ : Env} {a : Act} {o : Oper}
    {K : Env → Mem → Prop} {Q : Exit → Env → Mem → Prop} {Pn : List PanicEntry → Mem → Prop} (f : Fr m0 m w0 w)
    (hA : Ag n ds ρ a) (hF : Fit m w) (hd : ∀ d, o.dst = some d → ds.lo ≤ d ∧ d < n) (hk : oneP P ρ m o K Pn) :
    o.wp P a w (UpA n ds K m w) (UpQ n ds Q Pn m0 w0) := by
  have h1 := one_sound (Q := Q) hA hF hd hk
  unfold Oper.wp at h1 ⊢
  generalize (execOp a.eval o).run P w = res at h1 ⊢
  cases res with
  | ok nx w' =>
    cases nx <;> simp only [Oper.upon] at h1 ⊢ <;> try exact h1
    case enter g args =>
      refine h1.mono fun e w'' he => ?_
      cases e with
      | returned v => exact he
      | panicked c => exact UpQ.of f he
      | outgrown => obtain ⟨a1, w1, he⟩ := he; exact he.elim
  | halt x w' =>
    cases x <;> simp only [Oper.upon] at h1 ⊢
    case panic v => exact UpQ.of f h1
theorem hstep_sound {P : Program} {n : Nat} {ds : DS} {ops : Array Oper} {Q : Exit → Env → Mem → Prop} {Pn : List PanicEntry → Mem → Prop}
    (hall : ops.toList.all (dstOk ds.lo n) = true) {D : Nat} {anc : Nat → Nat} (m0 : Mem) (w0 : World) {rest : Mem → Env → Mem → Prop} {listed : Array Bool} {fuel : Nat} {i fl : Nat} {r : Mem} {ρ : Env} {m : Mem} {a : Act} {w : World}
    (hgo : stepGo P ops D anc listed i fl = true) (hfl : isFree fl = false)
    (ih : ∀ (r : Mem) (ρ : Env) (m : Mem) (a : Act) (w : World), Ag n ds ρ a → Fit m w → Le r m → Fr m0 m w0 w → rest r ρ m → wpAnyK P .any ops (UpQ n ds Q Pn m0 w0) (Fit r) (fun j => D.testBit j) fuel (listed.setIfInBounds i true) a w)
    (hA : Ag n ds ρ a) (hF : Fit m w) (hle : Le r m) (f : Fr m0 m w0 w) (h : hstep P ops Pn i fl rest r ρ m) :
    wpOp P ops (UpQ n ds Q Pn m0 w0) i (fun a' w' => (offS (fun j => D.testBit j) (listed.setIfInBounds i true) = false → Fit r w') ∧ wpAnyK P .any ops (UpQ n ds Q Pn m0 w0) (Fit r) (fun j => D.testBit j) fuel (listed.setIfInBounds i true) a' w') a w := by
  unfold hstep at h
  unfold stepGo at hgo
  cases ho : ops[i]? with
  | none => rw [ho] at h; exact h.elim
  | some o =>
    simp only [ho] at h hgo
    have hd : ∀ d, o.dst = some d → ds.lo ≤ d ∧ d < n := dst_lt (by
      have hm : o ∈ ops.toList := by simpa using Array.mem_of_getElem? ho
      exact List.all_eq_true.1 hall o hm)
    have hFr := hF.le hle
    rcases guard_sound hA h with ⟨hw, hk⟩ | ⟨hw, hs⟩
    · split at hk
      · cases hfl
      · have hoff : offS (fun j => D.testBit j) (listed.setIfInBounds i true) = true := hgo
        unfold wpOp
        simp only [ho]
        rw [if_pos hw]
        refine .inl (Oper.wp_mono (fun a' w' hk' => ?_) (one_base f hA hF hd hk))
        obtain ⟨ρ', m', hK, hA', hF', hf'⟩ := hk'
        exact ⟨fun e => absurd (hoff.symm.trans e) (by simp), wpAnyK_off _ _ _ _ hoff (ih m' ρ' m' a' w' hA' hF' (Le.refl _) (f.trans hf') hK)⟩
      · cases hfl
      · cases hq : isQuiet P o with
        | true =>
          rw [hq] at hk; simp only [cond_true] at hk
          obtain ⟨v, hK, hy⟩ := quiet_yields (ops := ops) hA hw hk
          exact hy.wpOp ho hF ⟨fun _ => hFr, ih r _ m _ w (hA.put hd v) hF hle f hK⟩
        | false =>
          rw [hq] at hk; simp only [cond_false] at hk
          unfold wpOp
          simp only [ho]
          rw [if_pos hw]
          refine .inl (Oper.wp_mono (fun a' w' hk' => ?_) (one_base f hA hF hd hk))
          obtain ⟨ρ', m', ⟨r', h1, h2, hK⟩, hA', hF', hf'⟩ := hk'
          exact ⟨fun _ => (hF'.le h2).le h1, wpAnyK_mono (fun w hw => hw.le h1) _ _ _ _ (ih r' ρ' m' a' w' hA' hF' h2 (f.trans hf') hK)⟩
    · unfold wpOp
      simp only [ho]
      rw [if_neg (by simp [hw])]
      exact ⟨fun _ => hFr, ih r _ m _ w (hA.put hd undef) hF hle f hs⟩
theorem hdraw_sound {P : Program} {n : Nat} {ds : DS} {ops : Array Oper} {Q : Exit → Env → Mem → Prop} {Pn : List PanicEntry → Mem → Prop}
    (hsel : Region.noSelect ops = true) (hall : ops.toList.all (dstOk ds.lo n) = true) {D : Nat} {anc : Nat → Nat} (hAn : AncOk .any ops anc) (m0 : Mem) (w0 : World) :
    ∀ (π : Ord) (listed : Array Bool) (r : Mem) (ρ : Env) (m : Mem) (a : Act) (w : World), drawGo P ops D anc listed π = true → AC anc listed → Ag n ds ρ a → Fit m w → Le r m → Fr m0 m w0 w →
      hdraw P ops (Q .normal) Pn π r ρ m → wpAnyK P .any ops (UpQ n ds Q Pn m0 w0) (Fit r) (fun j => D.testBit j) π.len listed a w
  | .done, listed, r, ρ, m, a, w, hgo, hC, hA, hF, _, f, h => ⟨by simpa [drawGo] using hgo, ρ, m, h, hA, hF, f⟩
  | .one i fl π, listed, r, ρ, m, a, w, hgo, hC, hA, hF, hle, f, h => by
    simp only [drawGo, Bool.and_eq_true] at hgo
    obtain ⟨hst, hrd, hgo⟩ := hgo
    simp only [hdraw] at h
    have hFr := hF.le hle
    cases hfl : isFree fl with
    | true =>
      unfold hstep at h
      unfold stepGo at hst
      cases ho : ops[i]? with
      | none => simp [ho] at hst
      | some o =>
        simp only [ho] at hst h
        have hd : ∀ d, o.dst = some d → ds.lo ≤ d ∧ d < n := dst_lt (by
          have hm : o ∈ ops.toList := by simpa using Array.mem_of_getElem? ho
          exact List.all_eq_true.1 hall o hm)
        have hQ : ∀ v c (a : Act) w, UpQ n ds Q Pn m0 w0 (.panic c) (a.put o.dst v) w → UpQ n ds Q Pn m0 w0 (.panic c) a w := by
          intro v c a w hq
          obtain ⟨⟨h1, h3⟩, h2⟩ := hq
          cases hdst : o.dst with
          | none => exact ⟨⟨by simpa [Act.put, hdst] using h1, by simpa [Act.put, hdst] using h3⟩, h2⟩
          | some d =>
            refine ⟨⟨by simpa [Act.put, hdst] using h1, fun t ht => ?_⟩, h2⟩
            have h3 := h3 t ht
            have hlo := (hd d hdst).1
            have e : ¬ d = t := fun e => by subst e; exact absurd ht (Nat.not_lt.2 hlo)
            rw [← h3]
            simp [Act.put, hdst, Array.getD_eq_getD_getElem?, e]
        unfold isFree at hfl
        rw [Bool.or_eq_true] at hfl
        rcases hfl with e | e
        · have e := Nat.eq_of_beq_eq_true e
          subst e
          simp only [Bool.and_eq_true] at hst
          obtain ⟨_, hfree, hready, hli, hoff, hlat⟩ := hst
          have hC' := hC.step hAn (by simpa using hready : i ∈ _)
          have hli' : D.testBit i = false := by simpa using hli
          have hoff' : offS (fun j => D.testBit j) listed = false := by simpa using hoff
          have hlate : ∀ j oj, ops[j]? = some oj → (fun j => D.testBit j) j = true → (anc j).testBit i = true := by
            intro j oj hj hD
            have hjl := lt_of_get hj
            unfold lateOn at hlat
            rw [List.all_eq_true] at hlat
            have := hlat j (by simpa using hjl)
            have hD : D.testBit j = true := hD
            rw [hD] at this
            simpa using this
          rcases guard_sound hA h with ⟨hw, hk⟩ | ⟨hw, hs⟩
          · obtain ⟨v, hK, hy⟩ := quiet_yields (ops := ops) hA hw hk
            exact wpAnyK_take ho hsel hfree hready (hQ v) hAn hC hlate hli' hy hFr hoff' (hdraw_sound hsel hall hAn m0 w0 π _ r _ m _ w hgo hC' (hA.put hd v) hF hle f hK)
          · exact wpAnyK_take ho hsel hfree hready (hQ undef) hAn hC hlate hli' (.inr ⟨hw, rfl⟩) hFr hoff' (hdraw_sound hsel hall hAn m0 w0 π _ r _ m _ w hgo hC' (hA.put hd undef) hF hle f hs)
        · have e := Nat.eq_of_beq_eq_true e
          subst e
          simp only [Bool.and_eq_true] at hst
          obtain ⟨_, hfree, hready, hli⟩ := hst
          have hC' := hC.step hAn (by simpa using hready : i ∈ _)
          have hli' : D.testBit i = false := by simpa using hli
          rcases guard_sound hA h with ⟨hw, hk⟩ | ⟨hw, hs⟩
          · obtain ⟨v, hK, hy⟩ := quiet_yields (ops := ops) hA hw hk
            have hy' : YieldsIf P ops (fun _ => True) o v a := hy.imp (fun ⟨h1, h2⟩ => ⟨h1, fun w _ => h2 w (fit_none w)⟩) id
            exact wpAnyK_pure ho (Region.noSelect_spec hsel) (hQ v) hli' _ _ _ _ (Region.free_spec ho hfree) (by simpa using hready) hy' (fun _ => hFr) (hdraw_sound hsel hall hAn m0 w0 π _ r _ m _ w hgo hC' (hA.put hd v) hF hle f hK)
          · exact wpAnyK_pure ho (Region.noSelect_spec hsel) (hQ undef) hli' _ _ _ _ (Region.free_spec ho hfree) (by simpa using hready) (.inr ⟨hw, rfl⟩) (fun _ => hFr) (hdraw_sound hsel hall hAn m0 w0 π _ r _ m _ w hgo hC' (hA.put hd undef) hF hle f hs)
    | false =>
      have hi' : Region.ready .any ops listed = [i] := by
        rw [hfl] at hrd
        simpa using hrd
      have hC' := hC.step hAn (by rw [hi']; simp : i ∈ _)
      refine ⟨fun h0 => (by rw [h0] at hi'; cases hi'), fun j hj => ?_⟩
      have hj' : j = i := by rw [hi'] at hj; simpa using hj
      subst hj'
      exact hstep_sound hall m0 w0 hst hfl (fun r ρ m a w h1 h2 h3 h4 h5 => hdraw_sound hsel hall hAn m0 w0 π _ r ρ m a w hgo hC' h1 h2 h3 h4 h5) hA hF hle f h
  | .alt i fi x j fj y, listed, r, ρ, m, a, w, hgo, hC, hA, hF, hle, f, h => by
    simp only [drawGo, Bool.and_eq_true] at hgo
    obtain ⟨⟨⟨hne, hk⟩, hlen, hf1, hf2, hs1, hs2⟩, g1, g2⟩ := hgo
    simp only [hdraw] at h
    have hl := Nat.eq_of_beq_eq_true hlen
    have hfi : isFree fi = false := by simpa using hf1
    have hfj : isFree fj = false := by simpa using hf2
    refine ⟨fun e => (by rw [e] at hne; cases hne), fun k hk' => ?_⟩
    rw [List.all_eq_true] at hk
    have hkij := hk k hk'
    simp only [Bool.or_eq_true] at hkij
    have hC' := hC.step hAn hk'
    by_cases e : k = i
    · subst e
      exact hstep_sound hall m0 w0 hs1 hfi (fun r ρ m a w h1 h2 h3 h4 h5 => hdraw_sound hsel hall hAn m0 w0 x _ r ρ m a w g1 hC' h1 h2 h3 h4 h5) hA hF hle f h.1
    · have e : k = j := by
        rcases hkij with e' | e'
        · exact absurd (Nat.eq_of_beq_eq_true e') e
        · exact Nat.eq_of_beq_eq_true e'
      subst e
      have := hstep_sound hall m0 w0 hs2 hfj (fun r ρ m a w h1 h2 h3 h4 h5 => hdraw_sound hsel hall hAn m0 w0 y _ r ρ m a w g2 hC' h1 h2 h3 h4 h5) hA hF hle f h.2
      rw [← hl] at this
      exact this
section
variable (P : Program) (od : Nat → Ord) (Pn : List PanicEntry → Mem → Prop)
def thenQ (K : Env → Mem → Prop) (Q : Exit → Env → Mem → Prop) : Exit → Env → Mem → Prop
  | .normal => K
  | e => Q e
def blockQ (id : Nat) (Q : Exit → Env → Mem → Prop) : Exit → Env → Mem → Prop
  | .exit i => match Nat.beq i id with | true => Q .normal | false => Q (.exit i)
  | e => Q e
def cpt : Code → (Exit → Env → Mem → Prop) → Env → Mem → Prop
  | .skip, Q, ρ, m => Q .normal ρ m
  | .label _, Q, ρ, m => Q .normal ρ m
  | .exit id, Q, ρ, m => Q (.exit id) ρ m
  | .ret, Q, ρ, m => Q .ret ρ m
  | .region id ops draw, Q, ρ, m =>
    match draw with
    | false => hops P ops (Q .normal) Pn ops.toList ρ m
    | true => Sub m fun r => hdraw P ops (Q .normal) Pn (od id) r ρ m
  | .seq x y, Q, ρ, m => cpt x (thenQ (cpt y Q) Q) ρ m
  | .cond c x y, Q, ρ, m =>
    match c with
    | .tmp t => match ρ t with
      | .bool b => Br b (cpt x Q (upd ρ t (.bool true)) m) (cpt y Q (upd ρ t (.bool false)) m)
      | _ => False
    | .const (.bool b) => Br b (cpt x Q ρ m) (cpt y Q ρ m)
    | _ => False
  | .block id c, Q, ρ, m => cpt c (blockQ id Q) ρ m
  | .loop c, Q, ρ, m => ∃ (I : Nat → Env → Mem → Prop) (N : Nat), I N ρ m ∧ ∀ N ρ m, I N ρ m → cpt c (thenQ (fun ρ' m' => ∃ N', N' < N ∧ I N' ρ' m') Q) ρ m
  | _, _, _, _ => False
def codeOk (tb : Nat → Tab) (lo n : Nat) : Code → Bool
  | .region id ops draw => ops.toList.all (dstOk lo n) && (match draw with | true => drawM P ops (tb id) (od id) | false => true)
  | .seq x y => codeOk tb lo n x && codeOk tb lo n y
  | .cond _ x y => codeOk tb lo n x && codeOk tb lo n y
  | .block _ c => codeOk tb lo n c
  | .loop c => codeOk tb lo n c
  | _ => true
end
theorem least {p : Nat → Prop} {N : Nat} (h : p N) : ∃ k, p k ∧ ∀ j, j < k → ¬ p j := by
  induction N using Nat.strongRecOn with
  | _ N ih =>
    by_cases hx : ∃ j, j < N ∧ p j
    · obtain ⟨j, hj, hp⟩ := hx; exact ih j hj hp
    · exact ⟨N, h, fun j hj hp => hx ⟨j, hj, hp⟩⟩
/-- A loop by a number that every round lowers, whatever the state says of it. -/
theorem wp_loop_rel {P : Program} {c : Code} {Q : Exit → Act → World → Prop} {a : Act} {w : World} (I : Nat → Act → World → Prop) (N : Nat) (h0 : I N a w)
    (round : ∀ N a w, I N a w → c.wp P (Exit.then (fun a' w' => ∃ N', N' < N ∧ I N' a' w') Q) a w) : (Code.loop c).wp P Q a w := by
  have hex : ∀ a w, (∃ N, I N a w) → ∃ k, I k a w ∧ ∀ j, j < k → ¬ I j a w := fun a w ⟨N, h⟩ => least h
  refine wp_loop (fun a w => ∃ N, I N a w) (fun a w => @dite _ (∃ N, I N a w) (Classical.propDecidable _) (fun h => Classical.choose (hex a w h)) (fun _ => 0)) ⟨N, h0⟩ ?_
  intro a w h
  have hs := Classical.choose_spec (hex a w h)
  refine Code.wp_mono (fun e a' w' hq => ?_) (round _ a w hs.1)
  cases e with
  | normal =>
    obtain ⟨N', hlt, hI⟩ := hq
    refine ⟨⟨N', hI⟩, ?_⟩
    have h' : ∃ N, I N a' w' := ⟨N', hI⟩
    have hs' := Classical.choose_spec (hex a' w' h')
    rw [dif_pos h', dif_pos h]
    refine Nat.lt_of_le_of_lt (Nat.le_of_not_lt fun hx => hs'.2 _ hx hI) hlt
  | _ => exact hq
theorem cpt_sound {P : Program} {tb : Nat → Tab} {od : Nat → Ord} {n : Nat} {ds : DS} {Pn : List PanicEntry → Mem → Prop} (hm : P.follows .mixedOrders = true) :
    ∀ (c : Code) (Q : Exit → Env → Mem → Prop) (ρ : Env) (m : Mem), codeOk P od tb ds.lo n c = true → cpt P od Pn c Q ρ m →
      ∀ (a : Act) (w : World), Ag n ds ρ a → Fit m w → ∀ (m0 : Mem) (w0 : World), Fr m0 m w0 w → c.wp P (UpQ n ds Q Pn m0 w0) a w := by
  intro c
  induction c with
  | skip => intro Q ρ m _ h a w hA hF m0 w0 f; exact wp_skip ⟨ρ, m, h, hA, hF, f⟩
  | label l => intro Q ρ m _ h a w hA hF m0 w0 f; exact wp_label ⟨ρ, m, h, hA, hF, f⟩
  | exit id => intro Q ρ m _ h a w hA hF m0 w0 f; exact wp_exit ⟨ρ, m, h, hA, hF, f⟩
  | ret => intro Q ρ m _ h a w hA hF m0 w0 f; exact wp_ret ⟨ρ, m, h, hA, hF, f⟩
  | region id ops draw =>
    intro Q ρ m hok h a w hA hF m0 w0 f
    simp only [codeOk, Bool.and_eq_true] at hok
    cases draw with
    | false => exact wp_region_list (hops_sound ops.toList ρ m a w hA hF hok.1 h m0 w0 f)
    | true =>
      obtain ⟨r, hle, h⟩ := h
      obtain ⟨hdr, hAn⟩ := drawM_sound hok.2
      simp only [drawOk, Bool.and_eq_true] at hdr
      have hlen : (od id).len = ops.size := by simpa using hdr.1.2
      refine wp_region_any hm (wpAny_of_K (S := Fit r) (late := fun j => (tb id).1.testBit j) _ _ _ _ ?_)
      rw [← hlen]
      have hF' : Fit m { w with drawn := w.drawn + 1 } := hF
      have f' : Fr m0 m w0 { w with drawn := w.drawn + 1 } := ⟨f.os, f.tape, f.output, f.size, f.block, f.dom⟩
      have hgo := hdr.2
      rw [← hlen] at hgo
      have hC0 : AC (ancF (tb id).2.1) (Array.replicate ops.size false) := by
        intro j k hj hk
        rw [Array.getD_eq_getD_getElem?, Array.getElem?_replicate] at hj
        split at hj <;> simp at hj
      rw [← hlen] at hC0
      exact hdraw_sound hdr.1.1 hok.1 hAn m0 w0 _ _ r ρ m a _ hgo hC0 hA hF' hle f' h
  | seq x y ihx ihy =>
    intro Q ρ m hok h a w hA hF m0 w0 f
    simp only [codeOk, Bool.and_eq_true] at hok
    refine wp_seq (Code.wp_mono (fun e a' w' hq => ?_) (ihx _ ρ m hok.1 h a w hA hF m0 w0 f))
    cases e with
    | normal => obtain ⟨ρ', m', hK, hA', hF', f'⟩ := hq; exact ihy Q ρ' m' hok.2 hK a' w' hA' hF' m0 w0 f'
    | _ => exact hq
  | cond c x y ihx ihy =>
    intro Q ρ m hok h a w hA hF m0 w0 f
    simp only [codeOk, Bool.and_eq_true] at hok
    simp only [cpt] at h
    split at h
    · rename_i t
      split at h
      · rename_i b hb
        have he : a.eval (.tmp t) = .bool b := by rw [hA.eval]; exact hb
        cases b with
        | true =>
          have h' : cpt P od Pn x Q (upd ρ t (.bool true)) m := h
          rw [upd_self hb] at h'
          exact wp_cond_true he (ihx Q ρ m hok.1 h' a w hA hF m0 w0 f)
        | false =>
          have h' : cpt P od Pn y Q (upd ρ t (.bool false)) m := h
          rw [upd_self hb] at h'
          exact wp_cond_false he (ihy Q ρ m hok.2 h' a w hA hF m0 w0 f)
      · exact h.elim
    · rename_i b
      cases b with
      | true => exact wp_cond_true rfl (ihx Q ρ m hok.1 h a w hA hF m0 w0 f)
      | false => exact wp_cond_false rfl (ihy Q ρ m hok.2 h a w hA hF m0 w0 f)
    · exact h.elim
  | block id c ih =>
    intro Q ρ m hok h a w hA hF m0 w0 f
    refine wp_block (Code.wp_mono (fun e a' w' hq => ?_) (ih _ ρ m hok h a w hA hF m0 w0 f))
    cases e with
    | exit i =>
      have hq' : UpA n ds (blockQ id Q (.exit i)) m0 w0 a' w' := hq
      show if i = id then UpQ n ds Q Pn m0 w0 .normal a' w' else UpQ n ds Q Pn m0 w0 (.exit i) a' w'
      cases hb : Nat.beq i id with
      | true =>
        rw [if_pos (Nat.eq_of_beq_eq_true hb)]
        show UpA n ds (Q .normal) m0 w0 a' w'
        simpa [blockQ, hb] using hq'
      | false =>
        rw [if_neg (fun e => by rw [e] at hb; simp at hb)]
        show UpA n ds (Q (.exit i)) m0 w0 a' w'
        simpa [blockQ, hb] using hq'
    | _ => exact hq
  | loop c ih =>
    intro Q ρ m hok h a w hA hF m0 w0 f
    obtain ⟨I, N, h0, hr⟩ := h
    refine wp_loop_rel (fun N a w => UpA n ds (I N) m0 w0 a w) N ⟨ρ, m, h0, hA, hF, f⟩ ?_
    intro N a w hI
    obtain ⟨ρ', m', hI, hA', hF', f'⟩ := hI
    refine Code.wp_mono (fun e a' w' hq => ?_) (ih _ ρ' m' hok (hr N ρ' m' hI) a w hA' hF' m0 w0 f')
    cases e with
    | normal =>
      obtain ⟨ρ'', m'', ⟨N', hlt, hI'⟩, rest⟩ := hq
      exact ⟨N', hlt, ρ'', m'', hI', rest⟩
    | _ => exact hq
  | rangeFunc => intro Q ρ m _ h; exact h.elim
  | scope => intro Q ρ m _ h; exact h.elim
  | goto => intro Q ρ m _ h; exact h.elim
  | refuse => intro Q ρ m _ h; exact h.elim
def argE (args : List Value) : Env := fun t => args.getD t undef
def resT (P : Program) (ρ : Env) (m : Mem) : List ResultVar → (List Value → Prop) → Prop
  | [], K => K []
  | .tmp t :: r, K => resT P ρ m r fun vs => K (ρ t :: vs)
  | .cell a t :: r, K => match ρ a with
    | .pointer (some ⟨b, o, none⟩) => ldT P t m b o fun v => resT P ρ m r fun vs => K (v :: vs)
    | _ => False
def pack : List Value → Value
  | [v] => v
  | vs => .tuple vs.toArray
def bodyQ (P : Program) (fn : Func) (R : Ending → Mem → Prop) : Exit → Env → Mem → Prop
  | .normal, ρ, m => resT P ρ m fn.results.toList fun vs => R (.returned (pack vs)) m
  | .ret, ρ, m => resT P ρ m fn.results.toList fun vs => R (.returned (pack vs)) m
  | _, _, _ => False
def panicR (R : Ending → Mem → Prop) : List PanicEntry → Mem → Prop := fun ch m => R (.panicked ch) m
theorem resT_sound {P : Program} {n : Nat} {ds : DS} {ρ : Env} {m : Mem} {a : Act} (hA : Ag n ds ρ a) : ∀ (l : List ResultVar) (K : List Value → Prop), resT P ρ m l K →
    ∃ vs, K vs ∧ ∀ w, Fit m w → (l.mapM (m := Sem) fun | .tmp t => pure (a.tmps.getD t undef) | .cell b t => do loadVar t (← asAddr (a.tmps.getD b undef))).run P w = .ok vs w
  | [], K, h => ⟨[], h, fun _ _ => rfl⟩
  | .tmp t :: r, K, h => by
    obtain ⟨vs, hK, hr⟩ := resT_sound hA r _ h
    refine ⟨_, hK, fun w hF => ?_⟩
    simp only [List.mapM_cons]
    rw [Sem.run_bind]
    simp only [Sem.run_pure, Result.andThen_ok]
    rw [Sem.run_bind, hr w hF, hA.get]
    rfl
  | .cell b t :: r, K, h => by
    simp only [resT] at h
    split at h
    · rename_i bb o hb
      obtain ⟨v, h, hv⟩ := ldT_sound h
      obtain ⟨vs, hK, hr⟩ := resT_sound hA r _ h
      refine ⟨_, hK, fun w hF => ?_⟩
      simp only [List.mapM_cons]
      rw [Sem.run_bind, hA.get, hb]
      have : (do loadVar t (← asAddr (.pointer (some ⟨bb, o, none⟩))) : Sem Value).run P w = .ok v w := by
        rw [Sem.run_bind]; exact hv w hF
      rw [this, Result.andThen_ok, Sem.run_bind, hr w hF]
      rfl
    · exact h.elim
theorem results_run {P : Program} {n : Nat} {ds : DS} {ρ : Env} {m : Mem} {a : Act} {fn : Func} {K : List Value → Prop} (hA : Ag n ds ρ a)
    (h : resT P ρ m fn.results.toList K) : ∃ vs, K vs ∧ ∀ w, Fit m w → (results fn a.tmps).run P w = .ok (pack vs) w := by
  obtain ⟨vs, hK, hr⟩ := resT_sound hA _ _ h
  refine ⟨vs, hK, fun w hF => ?_⟩
  unfold results
  rw [Array.mapM_eq_mapM_toList, Sem.run_bind, Sem.run_map]
  erw [hr w hF]
  simp only [Result.andThen_ok, Sem.run_pure]
  congr 1
  match vs with
  | [] => rfl
  | [v] => rfl
  | _ :: _ :: _ => simp [pack]
theorem HC_of {P : Program} {tb : Nat → Tab} {f : FuncId} {fn : Func} {c : Code} {od : Nat → Ord} {args : Array Value} {m : Mem} {R : Ending → Mem → Prop}
    (hf : P.funcs[f]? = some fn) (hb : fn.body = some c) (hn : (fn.name == "runtime.NumGoroutine") = false) (hm : P.follows .mixedOrders = true)
    (hok : codeOk P od tb 0 fn.ntmps c = true) (hsz : args.size ≤ fn.ntmps)
    (h : cpt P od (panicR R) c (bodyQ P fn R) (argE args.toList) m) : HC P f args m R := by
  refine .inl ⟨fun w => callFunc_enters hf hn (by rw [hb]; rfl) args w, fun w hF => ?_⟩
  refine calls_of_wp hf hb ?_
  have hA : Ag fn.ntmps ⟨[], 0, fun _ => undef⟩ (argE args.toList) { tmps := args ++ Array.replicate (fn.ntmps - args.size) undef, defers := [] } := by
    refine ⟨by simp; omega, fun t => ?_, rfl, fun t ht => absurd ht (Nat.not_lt_zero t)⟩
    simp only [argE, Array.getD_eq_getD_getElem?, Array.getElem?_append, List.getD_eq_getElem?_getD, Array.getElem?_toList]
    split
    · rfl
    · rename_i hlt
      rw [Array.getElem?_replicate]
      have : args[t]? = none := by simp; omega
      rw [this]
      split <;> rfl
  refine Code.wp_mono (fun e a' w' hq => ?_) (cpt_sound hm c _ _ m hok h _ w hA hF m w (Fr.refl _ _))
  have fin : ∀ {ρ' m'}, resT P ρ' m' fn.results.toList (fun vs => R (.returned (pack vs)) m') → Ag fn.ntmps ⟨[], 0, fun _ => undef⟩ ρ' a' → Fit m' w' → Fr m m' w w' →
      a'.defers = [] ∧ ∃ v, (results fn a'.tmps).run P w' = .ok v w' ∧ ∃ m', Ending.returned v ≠ .outgrown ∧ R (.returned v) m' ∧ Fit m' w' ∧ Fr m m' w w' := by
    intro ρ' m' hr hA' hF' hf'
    obtain ⟨vs, hK, hrun⟩ := results_run hA' hr
    exact ⟨hA'.defers, _, hrun w' hF', m', by simp, hK, hF', hf'⟩
  cases e with
  | normal => obtain ⟨ρ', m', hK, hA', hF', hf'⟩ := hq; exact fin hK hA' hF' hf'
  | ret => obtain ⟨ρ', m', hK, hA', hF', hf'⟩ := hq; exact fin hK hA' hF' hf'
  | panic ch => obtain ⟨hd, m', hp, hF', hf'⟩ := hq; exact ⟨hd.1, m', by simp, hp, hF', hf'⟩
  | outgrown => exact hq.elim
  | exit i => obtain ⟨ρ', m', hK, _⟩ := hq; exact hK.elim
  | goto i => obtain ⟨ρ', m', hK, _⟩ := hq; exact hK.elim
theorem HE.mono {P : Program} {f : FuncId} {args : Array Value} {m : Mem} {R R' : Ending → Mem → Prop} (h : HE P f args m R) (k : ∀ e m', R e m' → R' e m') : HE P f args m R' :=
  ⟨h.1, fun w hF => (h.2 w hF).mono fun _ _ ⟨m', h1, h2, h3, h4⟩ => ⟨m', h1, k _ _ h2, h3, h4⟩⟩
theorem HC.mono {P : Program} {f : FuncId} {args : Array Value} {m : Mem} {R R' : Ending → Mem → Prop} (h : HC P f args m R) (k : ∀ e m', R e m' → R' e m') : HC P f args m R' := by
  rcases h with h | h
  · exact .inl (h.mono k)
  · refine .inr (pt_mono P (fun nx m' hx => ?_) (fun v m' hx => k _ _ hx) _ _ h)
    cases nx <;> try exact hx.elim
    case value v => exact k _ _ hx
end Go.H
set_option linter.unusedVariables false
namespace Go.H
section
variable {P : Program}
theorem UnB.ex {v : Value} {K : Bool → Prop} (h : UnB v K) : ∃ b, v = .bool b ∧ K b := by cases v <;> first | exact ⟨_, rfl, h⟩ | exact h.elim
theorem UnI.ex {v : Value} {k : IntKind} {K : Int → Prop} (h : UnI v k K) : ∃ x, v = .int k x ∧ K x := by
  cases v <;> try exact h.elim
  case int k' x =>
    simp only [UnI] at h
    split at h
    · rename_i e _; subst e; exact ⟨x, rfl, h⟩
    · exact h.elim
theorem UnI.mk {x : Int} {k : IntKind} {K : Int → Prop} (h : K x) : UnI (.int k x) k K := by
  simp only [UnI]; split
  · exact h
  · rename_i hn _; exact absurd rfl hn
theorem UnStr.ex {v : Value} {K : ByteArray → Prop} (h : UnStr v K) : ∃ b, v = .string b ∧ K b := by cases v <;> first | exact ⟨_, rfl, h⟩ | exact h.elim
theorem UnP.ex {v : Value} {K : Option Addr → Prop} (h : UnP v K) : ∃ b, v = .pointer b ∧ K b := by cases v <;> first | exact ⟨_, rfl, h⟩ | exact h.elim
theorem UnM.ex {v : Value} {K : Option Nat → Prop} (h : UnM v K) : ∃ b, v = .map b ∧ K b := by cases v <;> first | exact ⟨_, rfl, h⟩ | exact h.elim
theorem UnS.ex {v : Value} {K : Option Addr → Nat → Nat → Prop} (h : UnS v K) : ∃ a l c, v = .slice a l c ∧ K a l c := by cases v <;> first | exact ⟨_, _, _, rfl, h⟩ | exact h.elim
theorem UnAgg.ex {v : Value} {K : List Value → Prop} (h : UnAgg v K) : ∃ l, v = .agg l.toArray ∧ K l := by
  cases v <;> first | exact ⟨_, rfl, h⟩ | exact h.elim
theorem UnTup.ex {v : Value} {K : List Value → Prop} (h : UnTup v K) : ∃ l, v = .tuple l.toArray ∧ K l := by
  cases v <;> first | exact ⟨_, rfl, h⟩ | exact h.elim
theorem UnCons.ex {l : List Value} {K : Value → List Value → Prop} (h : UnCons l K) : ∃ x r, l = x :: r ∧ K x r := by
  cases l <;> first | exact ⟨_, _, rfl, h⟩ | exact h.elim
theorem UnNil.ex {l : List Value} {K : Prop} (h : UnNil l K) : l = [] ∧ K := by
  cases l <;> first | exact ⟨rfl, h⟩ | exact h.elim
theorem Br.mono {b : Bool} {A A' B B' : Prop} (h : A → A') (k : B → B') (x : Br b A B) : Br b A' B' := by cases b <;> first | exact h x | exact k x
theorem un1_mono {kd : Kd} {v : Value} {K K' : Value → Prop} (h : ∀ v, K v → K' v) (x : un1 kd v K) : un1 kd v K' := by
  cases kd <;> simp only [un1] at x ⊢
  case bool => obtain ⟨b, rfl, x⟩ := x.ex; exact h _ x
  case int k => obtain ⟨b, rfl, y⟩ := x.ex; exact UnI.mk (h _ y)
  case str => obtain ⟨b, rfl, x⟩ := x.ex; exact h _ x
  case ptr => obtain ⟨b, rfl, x⟩ := x.ex; exact h _ x
  case sl => obtain ⟨a, l, c, rfl, x⟩ := x.ex; exact h _ x
  case map => obtain ⟨b, rfl, x⟩ := x.ex; exact h _ x
  case any => exact h _ x
theorem unL_mono : ∀ (ks : List Kd) (l : List Value) {K K' : List Value → Prop}, (∀ v, K v → K' v) → unL ks l K → unL ks l K'
  | [], l, K, K', h, x => by obtain ⟨rfl, x⟩ := UnNil.ex x; exact h _ x
  | kd :: r, l, K, K', h, x => by
    obtain ⟨v, t, rfl, x⟩ := UnCons.ex x
    exact un1_mono (fun v' x => unL_mono r t (fun vs x => h _ x) x) x
theorem unT_mono {f : Nat} {t : TypeId} {v : Value} {K K' : Value → Prop} (h : ∀ v, K v → K' v) (x : unT P f t v K) : unT P f t v K' := by
  unfold unT at x ⊢
  split at x
  · rename_i d _
    cases hd : isAggD d with
    | true =>
      rw [hd] at x
      have x' : UnAgg v fun l => unL (kds P f t) l fun vs => K (Value.agg vs.toArray) := x
      obtain ⟨l, rfl, y⟩ := x'.ex
      exact unL_mono _ _ (fun vs x => h _ x) y
    | false => rw [hd] at x; exact un1_mono h x
  · exact x.elim
theorem unTs_mono : ∀ (ts : List TypeId) (l : List Value) {K K' : List Value → Prop}, (∀ v, K v → K' v) → unTs P ts l K → unTs P ts l K'
  | [], l, K, K', h, x => by obtain ⟨rfl, x⟩ := UnNil.ex x; exact h _ x
  | t :: r, l, K, K', h, x => by
    obtain ⟨v, s, rfl, x⟩ := UnCons.ex x
    exact unT_mono (P := P) (fun v' x => unTs_mono r s (fun vs x => h _ x) x) x
theorem unR_mono {t : TypeId} {v : Value} {K K' : Value → Prop} (h : ∀ v, K v → K' v) (x : unR P t v K) : unR P t v K' := by
  unfold unR at x ⊢
  split at x
  · obtain ⟨l, rfl, x⟩ := UnTup.ex x
    exact unTs_mono _ _ (fun vs x => h _ x) x
  · exact unT_mono h x
theorem LdV.mono {m : Mem} {b o : Nat} {K K' : Value → Prop} (h : ∀ v, K v → K' v) (x : LdV m b o K) : LdV m b o K' := by
  obtain ⟨v, hv, x⟩ := x.get; exact LdV.mk hv (h _ x)
theorem ldL_mono {m : Mem} {b o : Nat} : ∀ (ks : List Kd) (i : Nat) {K K' : List Value → Prop}, (∀ v, K v → K' v) → ldL m b o i ks K → ldL m b o i ks K'
  | [], i, K, K', h, x => h _ x
  | kd :: r, i, K, K', h, x => LdV.mono (fun v x => un1_mono (fun v' x => ldL_mono r (i + 1) (fun vs x => h _ x) x) x) x
theorem ldT_mono {t : TypeId} {m : Mem} {b o : Nat} {K K' : Value → Prop} (h : ∀ v, K v → K' v) (x : ldT P t m b o K) : ldT P t m b o K' := by
  unfold ldT at x ⊢
  split at x
  · rename_i d _
    cases hd : isAggD d with
    | true =>
      rw [hd] at x; simp only [cond_true] at x ⊢
      cases hi : infoOk P t (kds P 20 t).length with
      | true => rw [hi] at x; exact ldL_mono _ _ (fun vs x => h _ x) x
      | false => rw [hi] at x; exact x.elim
    | false => rw [hd] at x; exact LdV.mono (fun v x => un1_mono h x) x
  · exact x.elim
theorem stL_mono {b o : Nat} : ∀ (vs : List Value) (i : Nat) {K K' : Mem → Prop} (m : Mem), (∀ m, K m → K' m) → stL b o i vs K m → stL b o i vs K' m
  | [], _, _, _, m, h, x => h m x
  | v :: r, i, K, K', m, h, x => by
    simp only [stL, St1] at x ⊢
    split at x
    · exact ⟨x.1, x.2.1, x.2.2.1, stL_mono r (i + 1) _ h x.2.2.2⟩
    · exact x.elim
theorem pq_mono {α : Type} {Q Q' : α → Prop} {m : Mem} (hQ : ∀ a, Q a → Q' a) : ∀ (s : Sem α), pq P s Q m → pq P s Q' m := by
  intro s
  induction s with
  | pure a => exact hQ _
  | load md a k ih => exact fun ⟨h, v, hv, hk⟩ => ⟨h, v, hv, ih _ hk⟩
  | shape r k ih => exact fun ⟨o, ho, hk⟩ => ⟨o, ho, ih _ hk⟩
  | frozen a k ih => exact fun ⟨o, ho, hk⟩ => ⟨o, ho, ih _ hk⟩
  | getObj r k ih => exact fun ⟨o, ho, hc, hk⟩ => ⟨o, ho, hc, ih _ hk⟩
  | program k ih => exact fun h => ih _ h
  | mark mk k ih => exact fun h => ih h
  | store => exact fun h => h.elim
  | new => exact fun h => h.elim
  | freeze => exact fun h => h.elim
  | setObj => exact fun h => h.elim
  | choose => exact fun h => h.elim
  | sys => exact fun h => h.elim
  | halt => exact fun h => h.elim
theorem isValue_mono {K K' : Value → Prop} (h : ∀ v, K v → K' v) : ∀ n, isValue K n → isValue K' n := by
  intro n x; cases n <;> first | exact h _ x | exact x.elim
theorem oInt_mono {ρ : Env} {x : Option Operand} {d : Int} {K K' : Int → Prop} (h : ∀ v, K v → K' v) (y : oInt ρ x d K) : oInt ρ x d K' := by
  unfold oInt at y ⊢
  split at y
  · exact h _ y
  · split at y
    · exact h _ y
    · exact y.elim
theorem qval_mono {ρ : Env} {m : Mem} {o : Oper} {K K' : Value → Prop} {N : Prop} (h : ∀ v, K v → K' v) (x : qval P ρ m o K N) : qval P ρ m o K' N := by
  obtain ⟨dst, op, ty, pos, aft, gd⟩ := o
  unfold qval at x ⊢
  have gen : pq P (execOp (evr ρ) ⟨dst, op, ty, pos, aft, gd⟩) (isValue K) m → pq P (execOp (evr ρ) ⟨dst, op, ty, pos, aft, gd⟩) (isValue K') m := pq_mono (isValue_mono h) _
  cases op with
  | load t y => dsimp only at x ⊢; split at x <;> first | exact ldT_mono h x | exact x.elim
  | nilCheck y =>
    dsimp only at x ⊢
    split at x
    · unfold NilC at x ⊢; split at x <;> first | exact h _ x | exact x
    · exact x.elim
  | indexAddr t y i =>
    dsimp only at x ⊢
    split at x
    · split at x
      · rename_i e a len cap hu hx
        cases hinf : infoOk P e (szOf P e) with
        | false => rw [hinf] at x; exact x.elim
        | true =>
          rw [hinf] at x; simp only [cond_true, IxS] at x ⊢
          refine ⟨x.1, x.2.1, ?_⟩
          have x := x.2.2
          split at x
          · exact h _ x
          · exact x.elim
      · rename_i len e b j hu hx
        cases hinf : infoOk P e (szOf P e) with
        | false => rw [hinf] at x; exact x.elim
        | true => rw [hinf] at x; exact ⟨x.1, x.2.1, h _ x.2.2⟩
      · exact x.elim
    · exact x.elim
  | index t y i =>
    dsimp only at x ⊢
    split at x
    · exact ⟨x.1, x.2.1, h _ x.2.2⟩
    · unfold IxV at x ⊢
      split at x
      · split at x
        · rename_i kk hk
          cases hinf : infoOk P _ 1 with
          | false => rw [hinf] at x; exact x.elim
          | true =>
            rw [hinf] at x; simp only [cond_true] at x ⊢
            refine allI_mono (fun l x => ?_) x
            revert x
            cases Nat.beq l.length _ with
            | false => exact fun x => x.elim
            | true => exact fun x => ⟨x.1, x.2.1, h _ x.2.2⟩
        · exact x.elim
      · exact gen x
    · exact gen x
  | slice t y lo hi mx =>
    cases mx with
    | some _ => exact gen x
    | none =>
      dsimp only at x ⊢
      split at x
      · exact oInt_mono (fun l x => oInt_mono (fun hh x => ⟨x.1, x.2.1, x.2.2.1, h _ x.2.2.2⟩) x) x
      · rename_i e a len cap hu hx
        cases hinf : infoOk P e (szOf P e) with
        | false => rw [hinf] at x; exact x.elim
        | true => rw [hinf] at x; simp only [cond_true] at x ⊢; exact oInt_mono (fun l x => oInt_mono (fun hh x => ⟨x.1, x.2.1, x.2.2.1, h _ x.2.2.2⟩) x) x
      · exact x.elim
  | binOp bop t y z t' =>
    dsimp only at x ⊢
    split at x
    · obtain ⟨e, y⟩ := sameK.eq x; subst e; obtain ⟨hb, y'⟩ := NzI.ne y
      unfold sameK; split
      · exact NzI.mk hb (h _ y')
      · rename_i hn _; exact absurd rfl hn
    · obtain ⟨e, y⟩ := sameK.eq x; subst e; obtain ⟨hb, y'⟩ := NzI.ne y
      unfold sameK; split
      · exact NzI.mk hb (h _ y')
      · rename_i hn _; exact absurd rfl hn
    · obtain ⟨hb, x⟩ := NnI.nn x; exact NnI.mk hb (h _ x)
    · obtain ⟨hb, x⟩ := NnI.nn x; exact NnI.mk hb (h _ x)
    · exact ⟨x.1, h _ x.2⟩
    iterate 8
      · obtain ⟨hb, x⟩ := cond_ok x; rw [hb]; exact h _ x
    · exact gen x
  | lookup t y i ok =>
    refine pq_mono (fun nx y => ?_) _ x
    cases nx <;> first | exact unR_mono h y | exact y.elim
  | convert src dst y =>
    dsimp only at x ⊢
    split at x
    · obtain ⟨hb, x⟩ := cond_ok x; rw [hb]
      obtain ⟨bs, h1, h2, x⟩ := x
      exact ⟨bs, h1, h2, h _ x⟩
    · exact gen x
  | _ => exact gen x
theorem HE.cont {f : FuncId} {args : Array Value} {m : Mem} {K K' : Value → Mem → Prop} {Pn : List PanicEntry → Mem → Prop} (h : ∀ v m, K v m → K' v m) (x : HE P f args m (Cont K Pn)) : HE P f args m (Cont K' Pn) :=
  x.mono fun e m' y => by cases e <;> first | exact h _ _ y | exact y
theorem HC.cont {f : FuncId} {args : Array Value} {m : Mem} {K K' : Value → Mem → Prop} {Pn : List PanicEntry → Mem → Prop} (h : ∀ v m, K v m → K' v m) (x : HC P f args m (Cont K Pn)) : HC P f args m (Cont K' Pn) :=
  x.mono fun e m' y => by cases e <;> first | exact h _ _ y | exact y
theorem nval_mono {ρ : Env} {m : Mem} {o : Oper} {K K' : Value → Mem → Prop} {Pn : List PanicEntry → Mem → Prop} (h : ∀ v m, K v m → K' v m) (x : nval P ρ m o K Pn) : nval P ρ m o K' Pn := by
  unfold nval at x ⊢
  split at x
  · split at x
    · rename_i t y z hop _ b i hx
      cases hinf : infoOk P t (evr ρ z).cells.size with
      | false => rw [hinf] at x; exact x.elim
      | true => rw [hinf] at x; exact stL_mono _ _ _ (fun m x => h _ m x) x
    · exact x.elim
  · split at x
    · exact HC.cont (fun v m x => unR_mono (fun v' x => h _ _ x) x) x
    · exact x.elim
  · split at x
    · obtain ⟨hb, x⟩ := cond_ok x; rw [hb]
      exact fun cap b h1 h2 => unR_mono (fun v x => h _ _ x) (x cap b h1 h2)
    · refine pt_mono P (fun nx m x => ?_) (fun _ _ x => x) _ _ x
      cases nx with
      | value v => exact unR_mono (K := fun v' => K v' m) (K' := fun v' => K' v' m) (fun v x => h v m x) x
      | skip => exact unR_mono (K := fun v' => K v' m) (K' := fun v' => K' v' m) (fun v x => h v m x) x
      | enter f args => exact HE.cont (fun v m x => unR_mono (K := fun v' => K v' m) (K' := fun v' => K' v' m) (fun v x => h v m x) x) x
      | _ => exact (x : False).elim
  · refine pt_mono P (fun nx m x => ?_) (fun _ _ x => x) _ _ x
    cases nx with
    | value v => exact unR_mono (K := fun v' => K v' m) (K' := fun v' => K' v' m) (fun v x => h v m x) x
    | skip => exact unR_mono (K := fun v' => K v' m) (K' := fun v' => K' v' m) (fun v x => h v m x) x
    | enter f args => exact HE.cont (fun v m x => unR_mono (K := fun v' => K v' m) (K' := fun v' => K' v' m) (fun v x => h v m x) x) x
    | _ => exact (x : False).elim
  · refine pt_mono P (fun nx m x => ?_) (fun _ _ x => x) _ _ x
    cases nx with
    | value v => exact unR_mono (K := fun v' => K v' m) (K' := fun v' => K' v' m) (fun v x => h v m x) x
    | skip => exact unR_mono (K := fun v' => K v' m) (K' := fun v' => K' v' m) (fun v x => h v m x) x
    | enter f args => exact HE.cont (fun v m x => unR_mono (K := fun v' => K v' m) (K' := fun v' => K' v' m) (fun v x => h v m x) x) x
    | _ => exact (x : False).elim
  · refine pt_mono P (fun nx m x => ?_) (fun _ _ x => x) _ _ x
    cases nx <;> first | exact h _ _ x | exact HE.cont h x | exact x.elim
theorem pickP_mono {ρ : Env} {d : Option Tmp} {c a b : Operand} {K K' : Env → Prop} (h : ∀ ρ, K ρ → K' ρ) (x : pickP ρ d c a b K) : pickP ρ d c a b K' := by
  unfold pickP at x ⊢
  split at x
  · split at x
    · exact Br.mono (h _) (h _) x
    · exact x.elim
  · exact x.elim
theorem guardP_mono {ops : Array Oper} {ρ : Env} {o : Oper} {K K' Sk Sk' : Env → Prop} (h : ∀ ρ, K ρ → K' ρ) (k : ∀ ρ, Sk ρ → Sk' ρ) (x : guardP ops ρ o K Sk) : guardP ops ρ o K' Sk' := by
  unfold guardP at x ⊢
  split at x
  · exact h _ x
  · split at x
    · split at x
      · split at x
        · exact Br.mono (h _) (k _) x
        · exact Br.mono (k _) (h _) x
      · exact k _ x
      · exact x.elim
    · exact x.elim
theorem oneP_mono {ρ : Env} {m : Mem} {o : Oper} {K K' : Env → Mem → Prop} {Pn : List PanicEntry → Mem → Prop} (h : ∀ ρ m, K ρ m → K' ρ m) (x : oneP P ρ m o K Pn) : oneP P ρ m o K' Pn := by
  unfold oneP at x ⊢
  split at x
  · exact pickP_mono (fun ρ => h ρ m) x
  · cases hq : quietOp P o.op with
    | true => simp only [hq, cond_true] at x ⊢; exact qval_mono (fun v x => h _ _ x) x
    | false => simp only [hq, cond_false] at x ⊢; exact nval_mono (fun v m x => h _ _ x) x
theorem quietP_mono {ρ : Env} {m : Mem} {o : Oper} {K K' : Env → Prop} (h : ∀ ρ, K ρ → K' ρ) (x : quietP P ρ m o K) : quietP P ρ m o K' := by
  unfold quietP at x ⊢
  split at x
  · exact pickP_mono h x
  · exact qval_mono (fun v x => h _ x) x
theorem hops_mono {ops : Array Oper} {K K' : Env → Mem → Prop} {Pn : List PanicEntry → Mem → Prop} (h : ∀ ρ m, K ρ m → K' ρ m) :
    ∀ (l : List Oper) (ρ : Env) (m : Mem), hops P ops K Pn l ρ m → hops P ops K' Pn l ρ m
  | [], ρ, m, x => h _ _ x
  | o :: r, ρ, m, x => guardP_mono (fun ρ' x => oneP_mono (fun ρ m x => hops_mono h r ρ m x) x) (fun ρ' x => hops_mono h r _ _ x) x
theorem hstep_mono {ops : Array Oper} {Pn : List PanicEntry → Mem → Prop} {i fl : Nat} {rest rest' : Mem → Env → Mem → Prop} (h : ∀ r ρ m, rest r ρ m → rest' r ρ m) {r : Mem} {ρ : Env} {m : Mem}
    (x : hstep P ops Pn i fl rest r ρ m) : hstep P ops Pn i fl rest' r ρ m := by
  unfold hstep at x ⊢
  cases ho : ops[i]? with
  | none => simp [ho] at x
  | some o =>
    simp only [ho] at x ⊢
    refine guardP_mono (fun ρ' x => ?_) (fun ρ' x => h r _ _ x) x
    split at x
    · exact quietP_mono (fun ρ'' x => h r _ _ x) x
    · exact oneP_mono (fun ρ'' m' x => h _ _ _ x) x
    · exact quietP_mono (fun ρ'' x => h r _ _ x) x
    · cases hq : isQuiet P o with
      | true => simp only [hq, cond_true] at x ⊢; exact quietP_mono (fun ρ'' x => h r _ _ x) x
      | false =>
        simp only [hq, cond_false] at x ⊢
        exact oneP_mono (fun ρ'' m' x => by obtain ⟨r', h1, h2, x⟩ := x; exact ⟨r', h1, h2, h _ _ _ x⟩) x
theorem hdraw_mono {ops : Array Oper} {K K' : Env → Mem → Prop} {Pn : List PanicEntry → Mem → Prop} (h : ∀ ρ m, K ρ m → K' ρ m) :
    ∀ (π : Ord) (r : Mem) (ρ : Env) (m : Mem), hdraw P ops K Pn π r ρ m → hdraw P ops K' Pn π r ρ m
  | .done, r, ρ, m, x => h _ _ x
  | .one i fl π, r, ρ, m, x => by
    simp only [hdraw] at x ⊢
    exact hstep_mono (fun r ρ m x => hdraw_mono h π r ρ m x) x
  | .alt i fi u j fj v, r, ρ, m, x => by
    simp only [hdraw] at x ⊢
    exact ⟨hstep_mono (fun r ρ m x => hdraw_mono h u r ρ m x) x.1, hstep_mono (fun r ρ m x => hdraw_mono h v r ρ m x) x.2⟩
theorem cpt_mono {od : Nat → Ord} {Pn : List PanicEntry → Mem → Prop} : ∀ (c : Code) {Q Q' : Exit → Env → Mem → Prop} (_ : ∀ e ρ m, Q e ρ m → Q' e ρ m) (ρ : Env) (m : Mem),
    cpt P od Pn c Q ρ m → cpt P od Pn c Q' ρ m := by
  intro c
  induction c with
  | skip => intro Q Q' h ρ m x; exact h _ _ _ x
  | label l => intro Q Q' h ρ m x; exact h _ _ _ x
  | exit id => intro Q Q' h ρ m x; exact h _ _ _ x
  | ret => intro Q Q' h ρ m x; exact h _ _ _ x
  | region id ops draw =>
    intro Q Q' h ρ m x
    cases draw with
    | false => exact hops_mono (h .normal) _ _ _ x
    | true => obtain ⟨r, hr, x⟩ := x; exact ⟨r, hr, hdraw_mono (h .normal) _ _ _ _ x⟩
  | seq x y ihx ihy =>
    intro Q Q' h ρ m k
    refine ihx (fun e ρ m k => ?_) ρ m k
    cases e with
    | normal => exact ihy h ρ m k
    | _ => exact h _ _ _ k
  | cond c x y ihx ihy =>
    intro Q Q' h ρ m k
    simp only [cpt] at k ⊢
    split at k
    · split at k
      · exact Br.mono (ihx h _ _) (ihy h _ _) k
      · exact k.elim
    · exact Br.mono (ihx h _ _) (ihy h _ _) k
    · exact k.elim
  | block id c ih =>
    intro Q Q' h ρ m k
    refine ih (fun e ρ m k => ?_) ρ m k
    cases e with
    | exit i =>
      simp only [blockQ] at k ⊢
      cases hb : Nat.beq i id <;> simp only [hb] at k ⊢ <;> exact h _ _ _ k
    | _ => exact h _ _ _ k
  | loop c ih =>
    intro Q Q' h ρ m k
    obtain ⟨I, N, h0, hr⟩ := k
    refine ⟨I, N, h0, fun N ρ m hI => ih (fun e ρ m k => ?_) ρ m (hr N ρ m hI)⟩
    cases e with
    | normal => exact k
    | _ => exact h _ _ _ k
  | rangeFunc => intro Q Q' h ρ m k; exact k.elim
  | scope => intro Q Q' h ρ m k; exact k.elim
  | goto => intro Q Q' h ρ m k; exact k.elim
  | refuse => intro Q Q' h ρ m k; exact k.elim
def dropO : Nat → Ord → Ord
  | 0, π => π
  | n + 1, .one _ _ π => dropO n π
  | _ + 1, _ => .done
/-- The first p steps of an order; L is asked of the others. -/
def hcut (P : Program) (ops : Array Oper) (L : Mem → Env → Mem → Prop) (Pn : List PanicEntry → Mem → Prop) : Nat → Ord → Mem → Env → Mem → Prop
  | 0, _, r, ρ, m => L r ρ m
  | p + 1, .one i fl π, r, ρ, m => hstep P ops Pn i fl (hcut P ops L Pn p π) r ρ m
  | _ + 1, _, _, _, _ => False
theorem hcut_sound {ops : Array Oper} {K : Env → Mem → Prop} {L : Mem → Env → Mem → Prop} {Pn : List PanicEntry → Mem → Prop} : ∀ {p : Nat} {π π2 : Ord} (_ : dropO p π = π2) (_ : ∀ r ρ m, L r ρ m → hdraw P ops K Pn π2 r ρ m) {r : Mem} {ρ : Env} {m : Mem},
    hcut P ops L Pn p π r ρ m → hdraw P ops K Pn π r ρ m
  | 0, π, π2, e, h, r, ρ, m, x => by
    have e : π = π2 := e
    subst e; exact h _ _ _ x
  | p + 1, .one i fl π, π2, e, h, r, ρ, m, x => by
    simp only [hdraw]
    exact hstep_mono (fun r ρ m x => hcut_sound (p := p) e h x) x
  | p + 1, .done, _, _, _, _, _, _, x => (x : False).elim
  | p + 1, .alt .., _, _, _, _, _, _, x => (x : False).elim
inductive ACode where
  | code (c : Code)
  | seq (x y : ACode)
  | cond (c : Operand) (x y : ACode)
  | block (id : Nat) (c : ACode)
  /-- here stands a piece that is told apart: L is asked of it -/
  | cut (L : Env → Mem → Prop) (c : Code)
  /-- a region that draws, of whose order the first p steps are told here; L is asked of the others -/
  | draw (id : Nat) (ops : Array Oper) (p : Nat) (L : Mem → Env → Mem → Prop)
  /-- a region in order, of which the first p operations are told here; L is asked of the others -/
  | inop (id : Nat) (o : Array Oper) (p : Nat) (L : Env → Mem → Prop)
def ACode.erase : ACode → Code
  | .code c => c
  | .seq x y => .seq x.erase y.erase
  | .cond c x y => .cond c x.erase y.erase
  | .block id c => .block id c.erase
  | .cut _ c => c
  | .draw id ops _ _ => .region id ops true
  | .inop id o _ _ => .region id o false
theorem hops_cut {P : Program} {ops : Array Oper} {K L : Env → Mem → Prop} {Pn : List PanicEntry → Mem → Prop} : ∀ {p : Nat} {l l2 : List Oper} (_ : l.drop p = l2) (_ : ∀ ρ m, L ρ m → hops P ops K Pn l2 ρ m) {ρ : Env} {m : Mem}, hops P ops L Pn (l.take p) ρ m → hops P ops K Pn l ρ m
  | 0, l, l2, e, h, ρ, m, x => by
    have e : l = l2 := e
    subst e
    exact h _ _ x
  | p + 1, [], l2, e, h, ρ, m, x => by
    have e : [] = l2 := e
    subst e
    exact h _ _ x
  | p + 1, o :: r, l2, e, h, ρ, m, x =>
    guardP_mono (fun ρ' x => oneP_mono (fun ρ m x => hops_cut (p := p) (l := r) e h x) x) (fun ρ' x => hops_cut (p := p) (l := r) e h x) x
section
variable (od : Nat → Ord) (Pn : List PanicEntry → Mem → Prop)
variable (P)
def acpt : ACode → (Exit → Env → Mem → Prop) → Env → Mem → Prop
  | .code c, Q, ρ, m => cpt P od Pn c Q ρ m
  | .seq x y, Q, ρ, m => acpt x (thenQ (acpt y Q) Q) ρ m
  | .cond c x y, Q, ρ, m =>
    match c with
    | .tmp t => match ρ t with
      | .bool b => Br b (acpt x Q (upd ρ t (.bool true)) m) (acpt y Q (upd ρ t (.bool false)) m)
      | _ => False
    | .const (.bool b) => Br b (acpt x Q ρ m) (acpt y Q ρ m)
    | _ => False
  | .block id c, Q, ρ, m => acpt c (blockQ id Q) ρ m
  | .cut L _, _, ρ, m => L ρ m
  | .draw id ops p L, _, ρ, m => Sub m fun r => hcut P ops L Pn p (od id) r ρ m
  | .inop _ o p L, _, ρ, m => hops P o L Pn (o.toList.take p) ρ m
/-- What the cuts owe. -/
def owes : ACode → (Exit → Env → Mem → Prop) → Prop
  | .code _, _ => True
  | .seq x y, Q => owes y Q ∧ owes x (thenQ (acpt P od Pn y Q) Q)
  | .cond _ x y, Q => owes x Q ∧ owes y Q
  | .block id c, Q => owes c (blockQ id Q)
  | .cut L c, Q => ∀ ρ m, L ρ m → cpt P od Pn c Q ρ m
  | .draw id ops p L, Q => ∀ r ρ m, L r ρ m → hdraw P ops (Q .normal) Pn (dropO p (od id)) r ρ m
  | .inop _ o p L, Q => ∀ ρ m, L ρ m → hops P o (Q .normal) Pn (o.toList.drop p) ρ m
end
theorem acpt_sound {od : Nat → Ord} {Pn : List PanicEntry → Mem → Prop} : ∀ (a : ACode) (Q : Exit → Env → Mem → Prop) (ρ : Env) (m : Mem), owes P od Pn a Q → acpt P od Pn a Q ρ m → cpt P od Pn a.erase Q ρ m
  | .code _, _, _, _, _, h => h
  | .seq x y, Q, ρ, m, ho, h => by
    refine cpt_mono x.erase (fun e ρ m k => ?_) ρ m (acpt_sound x _ ρ m ho.2 h)
    cases e with
    | normal => exact acpt_sound y Q ρ m ho.1 k
    | _ => exact k
  | .cond c x y, Q, ρ, m, ho, h => by
    simp only [acpt] at h
    simp only [ACode.erase, cpt]
    split at h
    · split at h
      · rename_i b hb
        first
          | exact Br.mono (acpt_sound x Q _ m ho.1) (acpt_sound y Q _ m ho.2) h
          | (dsimp only; simp only [hb]; exact Br.mono (acpt_sound x Q _ m ho.1) (acpt_sound y Q _ m ho.2) h)
      · exact h.elim
    · exact Br.mono (acpt_sound x Q _ m ho.1) (acpt_sound y Q _ m ho.2) h
    · exact h.elim
  | .block id c, Q, ρ, m, ho, h => acpt_sound c _ ρ m ho h
  | .cut L c, Q, ρ, m, ho, h => ho ρ m h
  | .draw id ops p L, Q, ρ, m, ho, h => by
    obtain ⟨r, hr, h⟩ := h
    exact ⟨r, hr, hcut_sound rfl ho h⟩
  | .inop id o p L, Q, ρ, m, ho, h => by
    simp only [ACode.erase, cpt]
    exact hops_cut rfl ho h
end
end Go.H
namespace Go.H
def sL : Code → Code | .seq x _ => x | c => c
def sR : Code → Code | .seq _ y => y | c => c
def bB : Code → Code | .block _ c => c | c => c
def lP : Code → Code | .loop c => c | c => c
abbrev UnPA (v : Value) (K : Nat → Nat → Prop) : Prop := match v with | .pointer (some ⟨b, o, none⟩) => K b o | _ => False
theorem UnPA.ex {v : Value} {K : Nat → Nat → Prop} (h : UnPA v K) : ∃ b o, v = .pointer (some ⟨b, o, none⟩) ∧ K b o := by
  unfold UnPA at h
  split at h
  · exact ⟨_, _, rfl, h⟩
  · exact h.elim
def shrV (k : IntKind) (x y : Int) : Int := x.fdiv (2 ^ min y.toNat k.bits)
def ordL : List (Nat × Nat) → Ord → Ord
  | [], r => r
  | (i, f) :: l, r => .one i f (ordL l r)
def NewC (m : Mem) (c : Array Value) (e : TypeId) (K : Nat → Mem → Prop) : Prop := ∀ b, m b = none → K b (m.set b (.cells c e (0, 0)))
def CallV (P : Program) (f : Value) (args : Array Value) (m : Mem) (R : Ending → Mem → Prop) : Prop :=
  match f with
  | .func (.func g) first cap => HC P g (first ++ args ++ cap) m R
  | _ => False
def BiN (P : Program) (b : Builtin) (ats : Array TypeId) (ty : TypeId) (cs : Array Bool) (args : Array Value) (m : Mem) (K : Value → Mem → Prop) (Pn : List PanicEntry → Mem → Prop) : Prop :=
  pt P (builtin b ats ty cs args) (nextP P K Pn) (fun v m' => Pn [{ v := v, recovered := false }] m') m
def MkS (P : Program) (m : Mem) (t : TypeId) (l c : Value) (K : Value → Mem → Prop) (Pn : List PanicEntry → Mem → Prop) : Prop :=
  pt P (do pure (Next.value (← Instr.makeSlice t l c))) (nextP P K Pn) (fun v m' => Pn [{ v := v, recovered := false }] m') m
def ConvN (P : Program) (src dst : TypeId) (x : Value) (m : Mem) (K : Value → Mem → Prop) (Pn : List PanicEntry → Mem → Prop) : Prop :=
  pt P (do pure (Next.value (← convert src dst x))) (nextP P K Pn) (fun v m' => Pn [{ v := v, recovered := false }] m') m
def LookN (P : Program) (m : Mem) (t : TypeId) (x i : Value) (ok : Bool) (K : Value → Prop) : Prop :=
  pq P (do pure (Next.value (← Instr.lookup t x i ok))) (isValue K) m
def MapUpN (P : Program) (m : Mem) (t : TypeId) (mp k x : Value) (K : Mem → Prop) (Pn : List PanicEntry → Mem → Prop) : Prop :=
  pt P (do Instr.mapUpdate t mp k x; pure Next.skip) (nextP P (fun _ m => K m) Pn) (fun v m' => Pn [{ v := v, recovered := false }] m') m
def Sl3N (P : Program) (m : Mem) (t : TypeId) (x l h c : Value) (K : Value → Prop) : Prop :=
  pq P (do pure (Next.value (← Instr.sliceAt t x (some l) (some h) (some c)))) (isValue K) m
end Go.H
set_option linter.unusedVariables false
namespace Go.H
section
variable {P : Program} {m : Mem}
theorem pt_pure {α : Type} (a : α) (Q : α → Mem → Prop) (E : Value → Mem → Prop) : pt P (pure a : Sem α) Q E m = Q a m := rfl
theorem pt_under {t : TypeId} {d : TypeDesc} (h : P.underlying t = some d) (Q : TypeDesc → Mem → Prop) (E : Value → Mem → Prop) : pt P (underlying t) Q E m = Q d m := by
  show pt P ((Sem.program .pure).bind _) Q E m = _
  simp only [Sem.bind, pt, h]; rfl
theorem pt_typeInfo {t : TypeId} {i : TypeInfo} (h : P.info? t = some i) (Q : TypeInfo → Mem → Prop) (E : Value → Mem → Prop) : pt P (typeInfo t) Q E m = Q i m := by
  show pt P ((Sem.program .pure).bind _) Q E m = _
  simp only [Sem.bind, pt, h]; rfl
theorem pt_sizeOf {t : TypeId} {i : TypeInfo} (h : P.info? t = some i) (Q : Nat → Mem → Prop) (E : Value → Mem → Prop) : pt P (Go.sizeOf t) Q E m = Q i.size m := by
  unfold Go.sizeOf; rw [pt_bind, pt_typeInfo h]; rfl
theorem pt_zero {t : TypeId} {i : TypeInfo} {z : Value} (h : P.info? t = some i) (hz : i.zero = some z) (Q : Value → Mem → Prop) (E : Value → Mem → Prop) : pt P (zeroValue t) Q E m = Q z m := by
  unfold zeroValue; rw [pt_bind, pt_typeInfo h]; simp only [hz]; rfl
theorem pt_newRow (e : TypeId) (c : Array Value) (Q : Addr → Mem → Prop) (E : Value → Mem → Prop) : pt P (newRow e c) Q E m = ∀ b, m b = none → Q ⟨b, 0, none⟩ (m.set b (.cells c e (0, 0))) := by
  unfold newRow newObj; rw [pt_bind]; rfl
theorem pt_ite {α : Type} (c : Prop) [Decidable c] (x y : Sem α) (Q : α → Mem → Prop) (E : Value → Mem → Prop) : pt P (if c then x else y) Q E m = if c then pt P x Q E m else pt P y Q E m := by
  split <;> rfl
theorem pt_loadCells {b o : Nat} {Q : Array Value → Mem → Prop} {E : Value → Mem → Prop} : ∀ (vs : List Value) (i : Nat) (acc : Array Value),
    (∀ j u, vs[j]? = some u → m.cell b (o + (i + j)) = some u) → Q (acc ++ vs.toArray) m → pt P (loadCellsFrom ⟨b, o, none⟩ i vs.length acc) Q E m
  | [], i, acc, _, h => by simpa [loadCellsFrom, pt_pure] using h
  | v :: vs, i, acc, hc, h => by
    simp only [List.length_cons, loadCellsFrom]
    rw [pt_bind, add_none]
    refine ⟨rfl, v, by simpa using hc 0 v (by simp), ?_⟩
    refine pt_loadCells vs (i + 1) (acc.push v) (fun j u hu => ?_) (by simpa using h)
    have := hc (j + 1) u (by simpa using hu)
    rw [show o + (i + 1 + j) = o + (i + (j + 1)) by omega]; exact this
/-- Cells written into a row, from an offset on. -/
def putCells (c : Array Value) : Nat → List Value → Array Value
  | _, [] => c
  | o, v :: r => putCells (c.setIfInBounds o v) (o + 1) r
theorem putCells_size (vs : List Value) : ∀ (c : Array Value) (o : Nat), (putCells c o vs).size = c.size := by
  induction vs with
  | nil => intro c o; rfl
  | cons v r ih => intro c o; simp [putCells, ih]
theorem putCells_get (vs : List Value) : ∀ (c : Array Value) (o j : Nat), o + vs.length ≤ c.size → (putCells c o vs)[j]? = if o ≤ j ∧ j < o + vs.length then vs[j - o]? else c[j]? := by
  induction vs with
  | nil => intro c o j _; simp [putCells]; omega
  | cons v r ih =>
    intro c o j h
    simp only [List.length_cons] at h
    rw [putCells, ih _ _ _ (by simp; omega)]
    by_cases h1 : o = j
    · subst h1
      rw [if_neg (by omega), if_pos (by simp)]
      have : o < c.size := by omega
      simp [this]
    · by_cases h2 : o + 1 ≤ j ∧ j < o + 1 + r.length
      · rw [if_pos h2, if_pos (by simp; omega)]
        rw [show j - o = (j - (o + 1)) + 1 by omega]; simp
      · rw [if_neg h2, if_neg (by simp; omega)]
        simp [h1]
theorem set_set (m : Mem) (b : Nat) (o o' : Obj) : (m.set b o).set b o' = m.set b o' := by
  funext k; simp only [Mem.set]; split <;> rfl
theorem set_same (m : Mem) (b : Nat) (o : Obj) : (m.set b o) b = some o := by simp [Mem.set]
theorem set_other (m : Mem) {b k : Nat} (o : Obj) (h : k ≠ b) : (m.set b o) k = m k := by simp [Mem.set, h]
theorem pt_storeCells {b o : Nat} {e : TypeId} {Q : Unit → Mem → Prop} {E : Value → Mem → Prop} : ∀ (vs : List Value) (i : Nat) (m : Mem) (c : Array Value), m b = some (.cells c e (0, 0)) →
    (∀ v ∈ vs, notOne v = false) → o + i + vs.length ≤ c.size → Q () (m.set b (.cells (putCells c (o + i) vs) e (0, 0))) → pt P (storeCells ⟨b, o, none⟩ vs i) Q E m
  | [], i, m, c, hb, _, _, h => by
    have : m.set b (.cells c e (0, 0)) = m := by
      funext k; by_cases hk : k = b
      · subst hk; rw [set_same, hb]
      · rw [set_other _ _ hk]
    simp only [storeCells, pt_pure]
    simpa [putCells, this] using h
  | v :: r, i, m, c, hb, hn, hl, h => by
    simp only [List.length_cons] at hl
    simp only [storeCells]
    rw [pt_bind, add_none]
    refine ⟨rfl, hn v (by simp), c, e, 0, 0, hb, by show o + i < c.size; omega, by simp, ?_⟩
    refine pt_storeCells r (i + 1) _ (c.setIfInBounds (o + i) v) (set_same _ _ _) (fun u hu => hn u (by simp [hu])) (by simp; omega) ?_
    rw [set_set]; exact h
end
/-- What the type table must say of a slice type t over elements e. -/
structure ElemOK (P : Program) (t e : TypeId) (z : Value) (sz bytes : Nat) : Prop where
  ht : P.underlying t = some (.slice e)
  hi : ∃ i, P.info? e = some i ∧ i.zero = some z ∧ i.size = sz ∧ i.bytes = bytes
  hz : z.cells.size = sz
/-- A slice that is its row's head, and whose row is at hand whole: its cells are xs. -/
def Own (m : Mem) (e : TypeId) (sz : Nat) (a : Option Addr) (l c : Nat) (xs : List Value) : Prop :=
  xs.length = l * sz ∧ ((a = none ∧ l = 0 ∧ c = 0) ∨
    ∃ b cur, a = some ⟨b, 0, none⟩ ∧ m b = some (.cells cur e (0, 0)) ∧ l ≤ c ∧ cur.size = c * sz ∧ cur.toList.take (l * sz) = xs ∧ c ≤ 9223372036854775807)
def blk : Option Addr → Option Nat
  | some a => some a.block
  | none => none
/-- All blocks but those of S are as they were. -/
structure Chg (S : Nat → Prop) (m m' : Mem) : Prop where
  eq : ∀ b o, m b = some o → ¬ S b → m' b = some o
  live : ∀ b, m b ≠ none → m' b ≠ none
theorem Chg.refl (S : Nat → Prop) (m : Mem) : Chg S m m := ⟨fun _ _ h _ => h, fun _ h => h⟩
theorem Chg.trans {S S' : Nat → Prop} {m m1 m2 : Mem} (h : Chg S m m1) (k : Chg S' m1 m2) (hs : ∀ b, m b ≠ none → S' b → S b) : Chg S m m2 :=
  ⟨fun b o hb hn => k.eq b o (h.eq b o hb hn) (fun hx => hn (hs b (by rw [hb]; simp) hx)), fun b hb => k.live b (h.live b hb)⟩
theorem Chg.mono {S S' : Nat → Prop} {m m' : Mem} (h : Chg S m m') (hs : ∀ b, S b → S' b) : Chg S' m m' := ⟨fun b o hb hn => h.eq b o hb (fun hx => hn (hs b hx)), h.live⟩
theorem Le.chg {m m' : Mem} (h : Le m m') (S : Nat → Prop) : Chg S m m' := ⟨fun b o hb _ => h b o hb, fun b hb => by
  cases hm : m b with
  | none => exact absurd hm hb
  | some o => rw [h b o hm]; simp⟩
theorem Chg.le {m m' : Mem} (h : Chg (fun _ => False) m m') : Le m m' := fun b o hb => h.eq b o hb (fun h => h)
theorem Le.set {m : Mem} {b : Nat} (h : m b = none) (o : Obj) : Le m (m.set b o) := fun k o' hk => by
  rw [set_other _ _ (fun e => by subst e; rw [h] at hk; cases hk)]; exact hk
theorem Chg.set (m : Mem) (b : Nat) (o : Obj) : Chg (fun k => k = b) m (m.set b o) :=
  ⟨fun k o' hk hn => by rw [set_other _ _ hn]; exact hk, fun k hk => by
    by_cases e : k = b
    · subst e; rw [set_same]; simp
    · rw [set_other _ _ e]; exact hk⟩
theorem Chg.new {S : Nat → Prop} {m m' : Mem} (h : Chg S m m') {b : Nat} (hb : m' b = none) : m b = none := by
  cases hm : m b with
  | none => rfl
  | some o => exact absurd hb (h.live b (by rw [hm]; simp))
theorem Le.live {m m' : Mem} (h : Le m m') {b : Nat} (hb : m b ≠ none) : m' b ≠ none := (h.chg fun _ => False).live b hb
theorem CellsAt.le {m m' : Mem} (h : Le m m') {a : Option Addr} {vs : List Value} (hc : CellsAt m a vs) : CellsAt m' a vs := by
  rcases hc.cases with ⟨b, o, rfl, hx⟩ | ⟨rfl, _⟩
  · intro j u hu
    have := hx j u hu
    unfold Mem.cell at *
    split at this
    · rename_i hb; rw [h _ _ hb]; exact this
    · cases this
  · exact CellsAt.empty _ _
theorem CellsAt.chg {S : Nat → Prop} {m m' : Mem} (h : Chg S m m') {a : Option Addr} {vs : List Value} (hc : CellsAt m a vs) (hn : ∀ b, blk a = some b → ¬ S b) : CellsAt m' a vs := by
  rcases hc.cases with ⟨b, o, rfl, hx⟩ | ⟨rfl, _⟩
  · intro j u hu
    have := hx j u hu
    unfold Mem.cell at *
    split at this
    · rename_i hb; rw [h.eq _ _ hb (hn _ rfl)]; exact this
    · cases this
  · exact CellsAt.empty _ _
theorem Own.le {m m' : Mem} (h : Le m m') {e : TypeId} {sz : Nat} {a : Option Addr} {l c : Nat} {xs : List Value} (ho : Own m e sz a l c xs) : Own m' e sz a l c xs := by
  obtain ⟨h1, h2⟩ := ho
  refine ⟨h1, ?_⟩
  rcases h2 with h2 | ⟨b, cur, ha, hb, r⟩
  · exact .inl h2
  · exact .inr ⟨b, cur, ha, h _ _ hb, r⟩
theorem Own.chg {S : Nat → Prop} {m m' : Mem} (h : Chg S m m') {e : TypeId} {sz : Nat} {a : Option Addr} {l c : Nat} {xs : List Value} (ho : Own m e sz a l c xs) (hn : ∀ b, blk a = some b → ¬ S b) : Own m' e sz a l c xs := by
  obtain ⟨h1, h2⟩ := ho
  refine ⟨h1, ?_⟩
  rcases h2 with h2 | ⟨b, cur, ha, hb, r⟩
  · exact .inl h2
  · exact .inr ⟨b, cur, ha, h.eq _ _ hb (hn _ (by rw [ha]; rfl)), r⟩
theorem Own.nil (m : Mem) (e : TypeId) (sz : Nat) : Own m e sz none 0 0 [] := ⟨by simp, .inl ⟨rfl, rfl, rfl⟩⟩
theorem Own.cells {m : Mem} {e : TypeId} {sz : Nat} {a : Option Addr} {l c : Nat} {xs : List Value} (ho : Own m e sz a l c xs) : CellsAt m a xs := by
  obtain ⟨h1, h2⟩ := ho
  rcases h2 with ⟨rfl, rfl, rfl⟩ | ⟨b, cur, rfl, hb, hlc, hs, ht, hcm⟩
  · show xs = []
    exact List.eq_nil_of_length_eq_zero (by simpa using h1)
  · intro j u hu
    subst ht
    rw [List.getElem?_take] at hu
    split at hu
    · unfold Mem.cell; rw [hb]; simpa using hu
    · cases hu
theorem Own.live {m : Mem} {e : TypeId} {sz : Nat} {a : Option Addr} {l c : Nat} {xs : List Value} (ho : Own m e sz a l c xs) : ∀ b, blk a = some b → m b ≠ none := by
  intro b hb
  rcases ho.2 with ⟨rfl, _⟩ | ⟨b', cur, rfl, hb', _⟩
  · cases hb
  · simp only [blk, Option.some.injEq] at hb; subst hb; rw [hb']; simp
/-- Where a slice's address leads after an append: where it was, or to a new block; nothing else is new. -/
def Grew (m m' : Mem) (a a' : Option Addr) : Prop :=
  Chg (fun b => blk a = some b) m m' ∧ (blk a' = blk a ∨ ∀ b, blk a' = some b → m b = none)
theorem nextcap_le (n o : Nat) (h : o < n) : Builtin.nextslicecap n o ≤ 4 * n + 3000 := by
  unfold Builtin.nextslicecap
  split
  · omega
  · split
    · omega
    · have : ∀ (r c : Nat), c ≤ 4 * n + 3000 → Builtin.growBy n r c ≤ 4 * n + 3000 := by
        intro r
        induction r with
        | zero => intro c hc; exact hc
        | succ r ih =>
          intro c hc
          unfold Builtin.growBy
          split
          · exact hc
          · exact ih _ (by omega)
      exact this 4 o (by omega)
/-- 'append' onto a slice of one's own. -/
theorem append_own {P : Program} {t e : TypeId} {z : Value} {sz bytes : Nat} (hE : ElemOK P t e z sz bytes) {m : Mem} {ty : TypeId} {cs : Array Bool}
    {a : Option Addr} {l c : Nat} {xs : List Value} (ho : Own m e sz a l c xs) {a2 : Option Addr} {l2 c2 : Nat} {news : List Value} (hc : CellsAt m a2 news) (hl : news.length = l2 * sz)
    (hone : ∀ v ∈ news, notOne v = false) (hsz : 0 < sz) (hlen : l + l2 ≤ 1099511627776) (hby : (4 * (l + l2) + 3000) * bytes ≤ 281474976710656) {K : Value → Mem → Prop} {Pn : List PanicEntry → Mem → Prop}
    (h : ∀ a' c' m', Own m' e sz a' (l + l2) c' (xs ++ news) → Grew m m' a a' → K (.slice a' (l + l2) c') m') :
    BiN P .append #[t, t] ty cs #[.slice a l c, .slice a2 l2 c2] m K Pn := by
  obtain ⟨i, hi, hzi, rfl, rfl⟩ := hE.hi
  have hfirst : ∀ (n : Nat) (aa : Option Addr) (cc : Nat) (vs : List Value) (mm : Mem) (nn : Nat) (Q : Array Value → Mem → Prop) (E : Value → Mem → Prop), CellsAt mm aa vs → vs.length = nn * i.size → Q vs.toArray mm →
      pt P (Builtin.firstCells i.size nn (.slice aa n cc)) Q E mm := by
    intro n aa cc vs mm nn Q E hv hvl hQ
    rcases hv.cases with ⟨b, o, rfl, hx⟩ | ⟨rfl, _⟩
    · simp only [Builtin.firstCells, loadCells]
      rw [← hvl]
      exact pt_loadCells vs 0 #[] (by simpa using hx) (by simpa using hQ)
    · cases aa with
      | none => exact hQ
      | some aa =>
        simp only [Builtin.firstCells, loadCells]
        rw [← hvl]
        exact hQ
  unfold BiN
  show pt P (do pure (Next.value (← Builtin.append_ #[t, t] ty #[.slice a l c, .slice a2 l2 c2])) : Sem Next) _ _ m
  rw [pt_bind]
  unfold Builtin.append_
  simp only [List.getElem?_toArray, List.getElem?_cons_zero, List.getElem?_cons_succ]
  rw [pt_bind, pt_under hE.ht]
  simp only []
  rw [pt_bind, pt_sizeOf hi, pt_bind, pt_under hE.ht]
  simp only [pt_bind, pt_pure, Bool.false_eq_true, if_false, Builtin.lenOf]
  rw [pt_ite]
  by_cases hroom : l + l2 ≤ c
  · rw [if_pos hroom]
    simp only [Bool.not_false, if_true]
    rw [pt_bind]
    refine hfirst l2 a2 c2 news m l2 _ _ hc hl ?_
    rcases ho.2 with ⟨rfl, rfl, rfl⟩ | ⟨b, cur, rfl, hb, hlc, hs, ht, hcm⟩
    · have h0 : l2 = 0 := by omega
      subst h0
      have hn : news = [] := List.eq_nil_of_length_eq_zero (by simpa using hl)
      subst hn
      simp only [pt_pure]
      exact h none 0 m (by simpa using ho) ⟨Chg.refl _ _, .inl rfl⟩
    · simp only []
      rw [pt_bind]
      have hsz2 : 0 + l * i.size + 0 + news.length ≤ cur.size := by
        rw [hs, hl, Nat.zero_add, Nat.add_zero, ← Nat.add_mul]; exact Nat.mul_le_mul_right _ hroom
      rw [add_none]
      refine pt_storeCells news 0 m cur hb hone hsz2 ?_
      simp only [pt_pure]
      refine h _ c _ ⟨by rw [List.length_append, ho.1, hl, Nat.add_mul], .inr ⟨b, _, rfl, set_same _ _ _, hroom, by rw [putCells_size, hs], ?_, hcm⟩⟩ ⟨?_, .inl rfl⟩
      · apply List.ext_getElem?
        intro j
        have hxl := ho.1
        have hlt : l * i.size + l2 * i.size ≤ cur.size := by rw [hs, ← Nat.add_mul]; exact Nat.mul_le_mul_right _ hroom
        rw [List.getElem?_take, Array.getElem?_toList, putCells_get _ _ _ _ hsz2, Nat.add_mul, List.getElem?_append, hxl]
        simp only [Nat.zero_add, Nat.add_zero, hl]
        by_cases h1 : j < l * i.size
        · rw [if_pos (by omega), if_neg (by omega), if_pos h1, ← ht, List.getElem?_take, if_pos h1]; simp
        · by_cases h2 : j < l * i.size + l2 * i.size
          · rw [if_pos h2, if_pos (by omega), if_neg h1]
          · rw [if_neg h2, if_neg h1]
            symm
            rw [List.getElem?_eq_none (by omega)]
      · exact (Chg.set _ _ _).mono (fun k e => by subst e; rfl)
  · rw [if_neg hroom]
    have hc0 : c < l + l2 := by omega
    have hmax : ¬ (((l + l2 : Nat) : Int) > IntKind.i64.max ∧ (False ∨ i.bytes = 0)) := by
      rintro ⟨h1, _⟩
      have : IntKind.i64.max = 9223372036854775807 := rfl
      rw [this] at h1; omega
    have hnext : ¬ Builtin.nextslicecap (l + l2) c * i.bytes > 2 ^ 48 := by
      have h1 := Nat.mul_le_mul_right i.bytes (nextcap_le (l + l2) c hc0)
      have : (2 : Nat) ^ 48 = 281474976710656 := rfl
      omega
    rw [pt_bind, pt_typeInfo hi]
    rw [pt_ite, if_neg hmax]
    rw [pt_bind, pt_typeInfo hi]
    rw [pt_ite, if_neg hnext]
    rw [pt_bind]
    intro tp
    have hge : l + l2 ≤ (Question.appendCap (l + l2) c e).cut tp := by simp [Question.cut]
    have hlt63 : (Question.appendCap (l + l2) c e).cut tp ≤ 9223372036854775807 := by
      have h1 : tp % (2 ^ 63 - (l + l2)) < 2 ^ 63 - (l + l2) := Nat.mod_lt _ (by omega)
      simp only [Question.cut]
      omega
    generalize (Question.appendCap (l + l2) c e).cut tp = nc at hge hlt63 ⊢
    show pt P (Sem.pure nc) _ _ m
    simp only [pt]
    rw [pt_bind, pt_typeInfo hi, pt_bind]
    have hask : ∀ n (Q : Unit → Mem → Prop) E, Q () m → pt P (askRoom n) Q E m := by
      intro n Q E hQ; unfold askRoom; split <;> exact hQ
    refine hask _ _ _ ?_
    rw [pt_bind]
    refine hfirst l a c xs m l _ _ ho.cells ho.1 ?_
    simp only [Bool.not_false, if_true]
    rw [pt_bind]
    refine hfirst l2 a2 c2 news m l2 _ _ hc hl ?_
    rw [pt_bind, pt_zero hi hzi, pt_bind, pt_newRow]
    intro b hb
    simp only [pt_pure]
    have hzc : (Builtin.zeroCells z.cells (nc - (l + l2))).size = (nc - (l + l2)) * i.size := by simp [Builtin.zeroCells, hE.hz]
    refine h _ nc _ ⟨by rw [List.length_append, ho.1, hl, Nat.add_mul], .inr ⟨b, _, rfl, set_same _ _ _, hge, ?_, ?_, hlt63⟩⟩ ⟨(Le.set hb _).chg _, .inr fun b' hb' => ?_⟩
    · rw [Array.size_append, Array.size_append, hzc]
      simp only [List.size_toArray, ho.1, hl, ← Nat.add_mul]
      congr 1; omega
    · have hx : (xs ++ news).length = (l + l2) * i.size := by rw [List.length_append, ho.1, hl, Nat.add_mul]
      simp only [Array.toList_append]
      rw [← hx]
      exact List.take_left
    · simp only [blk, Option.some.injEq] at hb'; subst hb'; exact hb
/-- 'copy' into a row at hand. -/
theorem copy_into {P : Program} {t t2 e : TypeId} {z : Value} {sz bytes : Nat} (hE : ElemOK P t e z sz bytes) {m : Mem} {ty : TypeId} {cs : Array Bool}
    {b o dl dc l2 c2 : Nat} {a2 : Option Addr} {cur : Array Value} (hb : m b = some (.cells cur e (0, 0))) {vs : List Value} (hc : CellsAt m a2 vs) (hl : vs.length = Nat.min l2 dl * sz)
    (hone : ∀ v ∈ vs, notOne v = false) (hfit : o + vs.length ≤ cur.size) {K : Value → Mem → Prop} {Pn : List PanicEntry → Mem → Prop}
    (h : K (.int .i64 (Nat.min l2 dl : Nat)) (m.set b (.cells (putCells cur o vs) e (0, 0)))) :
    BiN P .copy #[t, t2] ty cs #[.slice (some ⟨b, o, none⟩) dl dc, .slice a2 l2 c2] m K Pn := by
  obtain ⟨i, hi, hzi, rfl, rfl⟩ := hE.hi
  unfold BiN
  show pt P (do pure (Next.value (← Builtin.copy_ #[t, t2] ty #[.slice (some ⟨b, o, none⟩) dl dc, .slice a2 l2 c2])) : Sem Next) _ _ m
  rw [pt_bind]
  unfold Builtin.copy_
  simp only [List.getElem?_toArray, List.getElem?_cons_zero, List.getElem?_cons_succ]
  rw [pt_bind, pt_under hE.ht]
  simp only [Builtin.lenOf, pt_bind, pt_pure, pt_sizeOf hi]
  have hfirst : ∀ (Q : Array Value → Mem → Prop) (E : Value → Mem → Prop), Q vs.toArray m → pt P (Builtin.firstCells i.size (Nat.min l2 dl) (.slice a2 l2 c2)) Q E m := by
    intro Q E hQ
    rcases hc.cases with ⟨b, o, rfl, hx⟩ | ⟨rfl, _⟩
    · simp only [Builtin.firstCells, loadCells]
      rw [← hl]
      exact pt_loadCells vs 0 #[] (by simpa using hx) (by simpa using hQ)
    · cases a2 with
      | none => exact hQ
      | some a2 =>
        simp only [Builtin.firstCells, loadCells]
        rw [← hl]
        exact hQ
  refine hfirst _ _ ?_
  refine pt_storeCells vs 0 m cur hb hone (by simpa using hfit) ?_
  show K (goInt _) _
  simpa [goInt] using h
section
variable {P : Program} {m : Mem}
theorem pq_bind {α β : Type} (f : α → Sem β) {Q : β → Prop} : ∀ (s : Sem α), pq P (s >>= f) Q m = pq P s (fun a => pq P (f a) Q m) m := by
  intro s
  show pq P (s.bind f) Q m = _
  induction s with
  | pure a => rfl
  | halt x => rfl
  | sys => rfl
  | choose => rfl
  | store => rfl
  | new => rfl
  | freeze => rfl
  | setObj => rfl
  | _ => simp only [Sem.bind, pq, *]
theorem pq_pure {α : Type} (a : α) (Q : α → Prop) : pq P (pure a : Sem α) Q m = Q a := rfl
theorem pq_under {t : TypeId} {d : TypeDesc} (h : P.underlying t = some d) (Q : TypeDesc → Prop) : pq P (underlying t) Q m = Q d := by
  show pq P ((Sem.program .pure).bind _) Q m = _
  simp only [Sem.bind, pq, h]; rfl
end
structure MapIB (P : Program) (t : TypeId) : Prop where
  h : ∃ k e, P.underlying t = some (.map k e) ∧ P.underlying k = some (.int .i64) ∧ (P.info? e).bind (·.zero) = some (.bool false)
end Go.H
set_option linter.unusedVariables false
namespace Go.H
theorem wi {n : Int} (h1 : -9223372036854775808 ≤ n) (h2 : n ≤ 9223372036854775807) : IntKind.i64.wrap n = n := IntWalk.i64_in n ⟨h1, h2⟩
/-- A test, its answer told as a proposition. -/
theorem BrD {p : Prop} [Decidable p] {A B : Prop} (h : p → A) (k : ¬ p → B) : Br (decide p) A B := by
  by_cases hp : p
  · rw [decide_eq_true hp]; exact h hp
  · rw [decide_eq_false hp]; exact k hp
theorem BrDt {p : Prop} [Decidable p] {A B : Prop} (hp : p) (h : A) : Br (decide p) A B := by rw [decide_eq_true hp]; exact h
theorem BrDf {p : Prop} [Decidable p] {A B : Prop} (hp : ¬ p) (h : B) : Br (decide p) A B := by rw [decide_eq_false hp]; exact h
/-- '==' and '!=' of numbers. -/
theorem BrE {x y : Int} {A B : Prop} (h : x = y → A) (k : x ≠ y → B) : Br (x == y) A B := by
  by_cases hp : x = y
  · rw [beq_iff_eq.mpr hp]; exact h hp
  · rw [beq_eq_false_iff_ne.mpr hp]; exact k hp
theorem BrEt {x y : Int} {A B : Prop} (hp : x = y) (h : A) : Br (x == y) A B := by rw [beq_iff_eq.mpr hp]; exact h
theorem BrEf {x y : Int} {A B : Prop} (hp : x ≠ y) (h : B) : Br (x == y) A B := by rw [beq_eq_false_iff_ne.mpr hp]; exact h
theorem BrN {x y : Int} {A B : Prop} (h : x ≠ y → A) (k : x = y → B) : Br (x != y) A B := by
  by_cases hp : x = y
  · have : (x != y) = false := by simp [hp]
    rw [this]; exact k hp
  · have : (x != y) = true := by simp [hp]
    rw [this]; exact h hp
theorem BrNf {x y : Int} {A B : Prop} (hp : x = y) (h : B) : Br (x != y) A B := BrN (fun e => absurd hp e) (fun _ => h)
theorem cell_of {m : Mem} {b o : Nat} {c : Array Value} {e : TypeId} {x : Nat × Nat} {v : Value} (h : m b = some (.cells c e x)) (hv : c[o]? = some v) : m.cell b o = some v := by
  unfold Mem.cell; rw [h]; exact hv
theorem LdV.of {m : Mem} {b o : Nat} {c : Array Value} {e : TypeId} {x : Nat × Nat} {v : Value} {K : Value → Prop} (h : m b = some (.cells c e x)) (hv : c[o]? = some v) (k : K v) : LdV m b o K :=
  LdV.mk (cell_of h hv) k
theorem CellsAt.ld {m : Mem} {b o : Nat} {vs : List Value} (h : CellsAt m (some ⟨b, o, none⟩) vs) {j : Nat} {v : Value} (hv : vs[j]? = some v) : m.cell b (o + j) = some v := h j v hv
theorem St1.of {m : Mem} {b o : Nat} {c : Array Value} {e : TypeId} {v : Value} {K : Mem → Prop} (h : m b = some (.cells c e (0, 0))) (ho : o < c.size) (hv : notOne v = false)
    (k : K (m.set b (.cells (c.setIfInBounds o v) e (0, 0)))) : St1 m b o v K := by
  unfold St1; rw [h]; exact ⟨ho, hv, by simp, k⟩
theorem St1.to {m : Mem} {b o : Nat} {c : Array Value} {e : TypeId} {v : Value} (c' : Array Value) {K : Mem → Prop} (h : m b = some (.cells c e (0, 0))) (ho : o < c.size) (hv : notOne v = false)
    (hc : c.setIfInBounds o v = c') (k : K (m.set b (.cells c' e (0, 0)))) : St1 m b o v K := St1.of h ho hv (hc ▸ k)
def ints (xs : List Int) : List Value := xs.map fun x => Value.int .i64 x
theorem ints_len (xs : List Int) : (ints xs).length = xs.length := by simp [ints]
theorem u8s_len (xs : List UInt8) : (u8s xs).length = xs.length := by simp [u8s]
theorem ints_get {xs : List Int} {i : Nat} (h : i < xs.length) : (ints xs)[i]? = some (.int .i64 xs[i]) := by simp [ints, h]
theorem u8s_get {xs : List UInt8} {i : Nat} (h : i < xs.length) : (u8s xs)[i]? = some (.int .u8 xs[i].toNat) := by simp [u8s, h]
/-- A block of one's own is apart from what is old. -/
def Fresh (m : Mem) (a : Option Addr) : Prop := ∀ b, blk a = some b → m b = none
theorem Fresh.none (m : Mem) : Fresh m none := fun _ h => by cases h
theorem Fresh.le {m m' : Mem} (h : Le m m') {a : Option Addr} (k : Fresh m' a) : Fresh m a := fun b hb => by
  have := k b hb
  cases hm : m b with
  | none => rfl
  | some o => rw [h b o hm] at this; cases this
/-- 'append' onto an own row: told as what is new. -/
theorem grown_le {m m1 m' : Mem} {a a' : Option Addr} (h1 : Le m m1) (h0 : Fresh m a) (hg : Grew m1 m' a a') : Le m m' ∧ Fresh m a' := by
  refine ⟨fun k o hk => hg.1.eq k o (h1 k o hk) (fun e => ?_), fun b hb => ?_⟩
  · rw [h0 k e] at hk; cases hk
  · rcases hg.2 with e | e
    · exact h0 b (by rw [← e]; exact hb)
    · exact Fresh.le h1 e b hb
/-- 'append(s[:0:0], s...)' and its kin: onto a row made for it. -/
theorem clone_gen {P : Program} {t e : TypeId} {z : Value} {sz bytes : Nat} (hE : ElemOK P t e z sz bytes) (hsz : 0 < sz) {m : Mem} {ty : TypeId} {cs : Array Bool} {a : Option Addr} {l c : Nat} {vs : List Value}
    (hc : CellsAt m a vs) (hl : vs.length = l * sz) (hone : ∀ v ∈ vs, notOne v = false) (hlen : l ≤ 1099511627776) (hby : (4 * l + 3000) * bytes ≤ 281474976710656) {K : Value → Mem → Prop} {Pn : List PanicEntry → Mem → Prop}
    (h : ∀ a' c' m', Le m m' → Own m' e sz a' l c' vs → Fresh m a' → K (.slice a' l c') m') :
    ∀ b5, m b5 = none → BiN P .append #[t, t] ty cs #[.slice (some ⟨b5, 0, none⟩) 0 0, .slice a l c] (m.set b5 (.cells #[] e (0, 0))) K Pn := by
  intro b5 hb
  have ho : Own (m.set b5 (.cells #[] e (0, 0))) e sz (some ⟨b5, 0, none⟩) 0 0 [] := by
    refine ⟨by simp, .inr ⟨b5, #[], rfl, set_same _ _ _, Nat.le_refl _, by simp, by simp, by omega⟩⟩
  refine append_own hE ho (hc.le (Le.set hb _)) hl hone hsz (by omega) (by simpa using hby) ?_
  intro a' c' m' ho' hg
  rw [Nat.zero_add, List.nil_append] at ho'
  rw [Nat.zero_add]
  have := grown_le (Le.set hb (.cells #[] e (0, 0))) (a := some ⟨b5, 0, none⟩) (by intro b e; cases e; exact hb) hg
  exact h a' c' m' this.1 ho' this.2
/-- A part of a slice's cells. -/
theorem CellsAt.part {m : Mem} {a : Option Addr} {vs : List Value} (h : CellsAt m a vs) (lo : Nat) {ws : List Value} (hw : ∀ j u, ws[j]? = some u → vs[lo + j]? = some u) (hn : vs = [] → ws = []) {c sz : Nat} (hs : sz = 1) (hz : c = lo → ws = []) : CellsAt m (shf a lo sz c) ws := by
  subst hs
  unfold shf
  split
  · rename_i hc
    rw [hz hc]
    exact CellsAt.empty _ _
  · rcases h.cases with ⟨b, o, rfl, hx⟩ | ⟨rfl, _⟩
    · simp only [Option.map_some, add_none]
      intro j u hu
      have := hx (lo + j) u (hw j u hu)
      rw [Nat.mul_one, Nat.add_assoc]; exact this
    · rw [hn rfl]
      exact CellsAt.empty _ _
theorem IxS.ld {m : Mem} {a : Option Addr} {len : Nat} {vs : List Value} (hc : CellsAt m a vs) (hl : vs.length = len) {i : Int} (h0 : 0 ≤ i) (h1 : i < len) {K : Value → Prop}
    (k : ∀ v, vs[i.toNat]? = some v → K v) : IxS a len i 1 (fun b o => LdV m b o K) := by
  refine ⟨h0, h1, ?_⟩
  have hlt : i.toNat < vs.length := by omega
  rcases hc.cases with ⟨b, o, rfl, hx⟩ | ⟨rfl, _⟩
  · have := hx i.toNat _ (List.getElem?_eq_getElem hlt)
    simp only [Nat.mul_one]
    exact LdV.mk this (k _ (List.getElem?_eq_getElem hlt))
  · simp at hl; omega
theorem IxS.ints {m : Mem} {a : Option Addr} {len : Nat} {xs : List Int} (hc : CellsAt m a (ints xs)) (hl : xs.length = len) {i : Int} (h0 : 0 ≤ i) (h1 : i < len) {K : Value → Prop}
    (k : ∀ x, xs[i.toNat]? = some x → K (.int .i64 x)) : IxS a len i 1 (fun b o => LdV m b o K) := by
  refine IxS.ld hc (by rw [ints_len]; exact hl) h0 h1 ?_
  intro v hv
  have hlt : i.toNat < xs.length := by omega
  rw [ints_get hlt] at hv
  cases hv
  exact k _ (List.getElem?_eq_getElem hlt)
theorem IxS.u8s {m : Mem} {a : Option Addr} {len : Nat} {xs : List UInt8} (hc : CellsAt m a (u8s xs)) (hl : xs.length = len) {i : Int} (h0 : 0 ≤ i) (h1 : i < len) {K : Value → Prop}
    (k : ∀ x, xs[i.toNat]? = some x → K (.int .u8 x.toNat)) : IxS a len i 1 (fun b o => LdV m b o K) := by
  refine IxS.ld hc (by rw [u8s_len]; exact hl) h0 h1 ?_
  intro v hv
  have hlt : i.toNat < xs.length := by omega
  rw [u8s_get hlt] at hv
  cases hv
  exact k _ (List.getElem?_eq_getElem hlt)
theorem CellsAt.left {m : Mem} {a : Option Addr} {xs ys : List Value} (h : CellsAt m a (xs ++ ys)) : CellsAt m a xs := by
  rcases h.cases with ⟨b, o, rfl, hx⟩ | ⟨hx, _⟩
  · intro j u hu
    refine hx j u ?_
    rw [List.getElem?_append_left]
    · exact hu
    · by_cases hlt : j < xs.length
      · exact hlt
      · rw [List.getElem?_eq_none (by omega)] at hu; cases hu
  · rw [List.append_eq_nil_iff] at hx
    rw [hx.1]
    exact CellsAt.empty _ _
/-- The given world's cells, as the frame tells them. -/
theorem CellsAt.given {w : World} {a : Addr} {vs : List Value} (h : ∀ j u, vs[j]? = some u → w.cell? (a.add j) = some u) : CellsAt (fun b => w.heap[b]?) (some a) vs := by
  obtain ⟨b, o, sp⟩ := a
  cases vs with
  | nil => exact CellsAt.empty _ _
  | cons v vs =>
    have h0 := h 0 v rfl
    cases sp with
    | some s =>
      have : w.cell? (Addr.add ⟨b, o, some s⟩ 0) = none := by
        simp only [Addr.add, if_true, World.cell?]
        split <;> simp
      rw [this] at h0; cases h0
    | none =>
      intro j u hu
      have := h j u hu
      rw [add_none] at this
      unfold Mem.cell
      unfold World.cell? at this
      split at this
      · rename_i c e x hb
        simp only [hb]
        simpa using this
      · cases this
theorem IxS.st {m : Mem} {b : Nat} {cur : Array Value} {e : TypeId} (h : m b = some (.cells cur e (0, 0))) {len : Nat} {i : Int} (h0 : 0 ≤ i) (h1 : i < len) (hl : len ≤ cur.size) {v : Value} (hv : notOne v = false) {K : Mem → Prop}
    (k : K (m.set b (.cells (cur.setIfInBounds i.toNat v) e (0, 0)))) : IxS (some ⟨b, 0, none⟩) len i 1 (fun b o => St1 m b o v K) := by
  refine ⟨h0, h1, ?_⟩
  show St1 m b (0 + i.toNat * 1) v K
  rw [Nat.zero_add, Nat.mul_one]
  exact St1.of h (by omega) hv k
theorem Chg.to_le {F : Nat → Prop} {m m1 m2 : Mem} (h : Chg F m1 m2) (hle : Le m m1) (hF : ∀ b, F b → m b = none) : Le m m2 := fun b o hb =>
  h.eq b o (hle b o hb) (fun hx => by rw [hF b hx] at hb; cases hb)
theorem Le.new {m m' : Mem} (h : Le m m') {b : Nat} (hb : m' b = none) : m b = none := (h.chg fun _ => False).new hb
theorem cells_at {m : Mem} {b : Nat} {c : Array Value} {e : TypeId} {x : Nat × Nat} (h : m b = some (.cells c e x)) {vs : List Value} (hv : c.toList = vs) : CellsAt m (some ⟨b, 0, none⟩) vs := by
  intro j u hu
  rw [Nat.zero_add]
  refine cell_of h ?_
  rw [← hv] at hu
  simpa using hu
/-- A memory without some blocks. -/
noncomputable def Mem.wo (m : Mem) (F : Nat → Prop) : Mem := fun b => open Classical in if F b then none else m b
theorem wo_le (m : Mem) (F : Nat → Prop) : Le (m.wo F) m := fun b o h => by
  unfold Mem.wo at h
  split at h
  · cases h
  · exact h
theorem wo_in {m : Mem} {F : Nat → Prop} {b : Nat} (h : ¬ F b) : m.wo F b = m b := by
  unfold Mem.wo; rw [if_neg h]
theorem wo_out {m : Mem} {F : Nat → Prop} {b : Nat} (h : F b) : m.wo F b = none := by
  unfold Mem.wo; rw [if_pos h]
theorem CellsAt.wo {m : Mem} {F : Nat → Prop} {a : Option Addr} {vs : List Value} (h : CellsAt m a vs) (hn : ∀ b, blk a = some b → ¬ F b) : CellsAt (m.wo F) a vs := by
  rcases h.cases with ⟨b, o, rfl, hx⟩ | ⟨rfl, _⟩
  · intro j u hu
    have := hx j u hu
    unfold Mem.cell at *
    rw [wo_in (hn b rfl)]; exact this
  · exact CellsAt.empty _ _
/-- Writing one element of an own row. -/
theorem Own.st {m : Mem} {e : TypeId} {a : Option Addr} {l c : Nat} {xs : List Value} (h : Own m e 1 a l c xs) {i : Int} (h0 : 0 ≤ i) (h1 : i < l) {v : Value} (hv : notOne v = false) {K : Mem → Prop}
    (k : ∀ m', Chg (fun b => blk a = some b) m m' → Own m' e 1 a l c (xs.set i.toNat v) → K m') : IxS a l i 1 (fun b o => St1 m b o v K) := by
  obtain ⟨hl, hx⟩ := h
  rcases hx with ⟨rfl, rfl, rfl⟩ | ⟨b, cur, rfl, hb, hlc, hs, ht, hcm⟩
  · omega
  · refine IxS.st hb h0 h1 (by omega) hv ?_
    refine k _ ((Chg.set _ _ _).mono (fun k e => by subst e; rfl)) ⟨by simpa using hl, .inr ⟨b, _, rfl, set_same _ _ _, hlc, by simp [hs], ?_, hcm⟩⟩
    rw [Array.toList_setIfInBounds, List.take_set, ht]
/-- 'append(xs, i)' onto an own row of numbers. -/
theorem push_one {P : Program} {t e : TypeId} {z : Value} {bytes : Nat} (hE : ElemOK P t e z 1 bytes) {m : Mem} {ty : TypeId} {cs : Array Bool} {a : Option Addr} {l c : Nat} {xs : List Value} (ho : Own m e 1 a l c xs) {v : Value} (hv : notOne v = false)
    (hlen : l ≤ 1000000000) (hby : bytes ≤ 64) {K : Value → Mem → Prop} {Pn : List PanicEntry → Mem → Prop}
    (h : ∀ a' c' m', Chg (fun b => blk a = some b) m m' → Own m' e 1 a' (l + 1) c' (xs ++ [v]) → (blk a' = blk a ∨ Fresh m a') → K (.slice a' (l + 1) c') m') :
    ∀ b, m b = none → BiN P .append #[t, t] ty cs #[.slice a l c, .slice (some ⟨b, 0, none⟩) 1 1] (m.set b (.cells #[v] e (0, 0))) K Pn := by
  intro b hb
  refine append_own hE (Own.le (Le.set hb _) ho) (news := [v]) (cells_at (set_same _ _ _) rfl) rfl (by intro u hu; simp at hu; subst hu; exact hv) (by decide) (by omega) ?_ ?_
  · exact Nat.le_trans (Nat.mul_le_mul_left (4 * (l + 1) + 3000) hby) (by omega)
  intro a' c' m' ho' hg
  refine h a' c' m' (((Le.set hb _).chg _).trans hg.1 (fun _ _ e => e)) ho' ?_
  rcases hg.2 with e | e
  · exact .inl e
  · exact .inr (Fresh.le (Le.set hb _) e)
/-- 'append(xs, x)' onto an own row, elements of several cells. -/
theorem push_row {P : Program} {t e : TypeId} {z : Value} {sz bytes : Nat} (hE : ElemOK P t e z sz bytes) (hsz : 0 < sz) {m : Mem} {ty : TypeId} {cs : Array Bool} {a : Option Addr} {l c : Nat} {xs : List Value} (ho : Own m e sz a l c xs) {news : Array Value} (hn : news.size = sz)
    (hv : ∀ v ∈ news.toList, notOne v = false) (hlen : l ≤ 1000000000) (hby : bytes ≤ 640) {K : Value → Mem → Prop} {Pn : List PanicEntry → Mem → Prop}
    (h : ∀ a' c' m', Chg (fun b => blk a = some b) m m' → Own m' e sz a' (l + 1) c' (xs ++ news.toList) → (blk a' = blk a ∨ Fresh m a') → K (.slice a' (l + 1) c') m') :
    ∀ b, m b = none → BiN P .append #[t, t] ty cs #[.slice a l c, .slice (some ⟨b, 0, none⟩) 1 1] (m.set b (.cells news e (0, 0))) K Pn := by
  intro b hb
  refine append_own hE (Own.le (Le.set hb _) ho) (news := news.toList) (cells_at (set_same _ _ _) rfl) (by simpa using hn) hv hsz (by omega) ?_ ?_
  · exact Nat.le_trans (Nat.mul_le_mul_left (4 * (l + 1) + 3000) hby) (by omega)
  intro a' c' m' ho' hg
  refine h a' c' m' (((Le.set hb _).chg _).trans hg.1 (fun _ _ e => e)) ho' ?_
  rcases hg.2 with e | e
  · exact .inl e
  · exact .inr (Fresh.le (Le.set hb _) e)
/-- Writing one cell of an element of an own row. -/
theorem Own.stN {m : Mem} {e : TypeId} {sz : Nat} {a : Option Addr} {l c : Nat} {xs : List Value} (h : Own m e sz a l c xs) {i : Int} (h0 : 0 ≤ i) (h1 : i < l) {j : Nat} (hj : j < sz) {v : Value} (hv : notOne v = false) {K : Mem → Prop}
    (k : ∀ m', Chg (fun b => blk a = some b) m m' → Own m' e sz a l c (xs.set (i.toNat * sz + j) v) → K m') : IxS a l i sz (fun b o => St1 m b (o + j) v K) := by
  obtain ⟨hl, hx⟩ := h
  rcases hx with ⟨rfl, rfl, rfl⟩ | ⟨b, cur, rfl, hb, hlc, hs, ht, hcm⟩
  · omega
  · refine ⟨h0, h1, ?_⟩
    have hin : i.toNat * sz + j < cur.size := by
      rw [hs]
      have : (i.toNat + 1) * sz ≤ c * sz := Nat.mul_le_mul_right _ (by omega)
      rw [Nat.add_mul, Nat.one_mul] at this
      omega
    show St1 m b (0 + i.toNat * sz + j) v K
    rw [Nat.zero_add]
    refine St1.of hb hin hv ?_
    refine k _ ((Chg.set _ _ _).mono (fun k e => by subst e; rfl)) ⟨by simpa using hl, .inr ⟨b, _, rfl, set_same _ _ _, hlc, by simp [hs], ?_, hcm⟩⟩
    rw [Array.toList_setIfInBounds, List.take_set, ht]
theorem ElemOK.of {P : Program} {t e : TypeId} {z : Value} {sz bytes : Nat} (h0 : P.underlying t = some (.slice e)) (h : (P.info? e).map (fun i => (i.zero, i.size, i.bytes)) = some (some z, sz, bytes)) (hz : z.cells.size = sz) : ElemOK P t e z sz bytes := by
  cases hi : P.info? e with
  | none => rw [hi] at h; cases h
  | some i =>
    rw [hi] at h
    simp only [Option.map_some, Option.some.injEq, Prod.mk.injEq] at h
    exact ⟨h0, ⟨i, hi, h.1, h.2.1, h.2.2⟩, hz⟩
theorem MapIB.of {P : Program} {t : TypeId} (h : (match P.underlying t with | some (.map k e) => (P.underlying k, (P.info? e).bind (·.zero)) | _ => (none, none)) = (some (.int .i64), some (.bool false))) : MapIB P t := by
  split at h
  · rename_i k e hm
    simp only [Prod.mk.injEq] at h
    exact ⟨k, e, hm, h.1, h.2⟩
  · cases h
/-- A part of a row of elements. -/
theorem CellsAt.sub {m : Mem} {a : Option Addr} {vs : List Value} {sz lo hi c : Nat} (h : CellsAt m a vs) (hh : hi * sz ≤ vs.length) (hc : hi ≤ c) : CellsAt m (shf a lo sz c) ((vs.take (hi * sz)).drop (lo * sz)) := by
  unfold shf
  split
  · rename_i e
    have hlt : hi * sz ≤ lo * sz := Nat.mul_le_mul_right _ (by omega)
    rw [List.drop_of_length_le (by rw [List.length_take]; omega)]
    exact CellsAt.empty _ _
  · rcases h.cases with ⟨b, o, rfl, hx⟩ | ⟨rfl, _⟩
    · simp only [Option.map_some, add_none]
      intro j u hu
      rw [List.getElem?_drop, List.getElem?_take] at hu
      split at hu
      · have := hx _ u hu
        rw [Nat.add_assoc]; exact this
      · cases hu
    · simp only [List.take_nil, List.drop_nil]; exact CellsAt.empty _ _
theorem Own.cap {m : Mem} {e : TypeId} {sz : Nat} {a : Option Addr} {l c : Nat} {xs : List Value} (h : Own m e sz a l c xs) : l ≤ c := by
  obtain ⟨_, hx⟩ := h
  rcases hx with ⟨_, q, r⟩ | ⟨_, _, _, _, q, _⟩ <;> omega
/-- Both cells of a block are written. -/
theorem St1.two {m : Mem} {b : Nat} {x y u v : Value} {e : TypeId} {K : Mem → Prop} (h : m b = some (.cells #[x, y] e (0, 0))) (hu : notOne u = false) (hv : notOne v = false)
    (k : K (m.set b (.cells #[u, v] e (0, 0)))) : St1 m b 0 u fun m' => St1 m' b (0 + 1) v K := by
  refine St1.to #[u, y] (o := 0) h (by simp) hu rfl ?_
  refine St1.to #[u, v] (o := 0 + 1) (set_same _ _ _) (by simp) hv rfl ?_
  rw [set_set]; exact k
/-- Rows of other kinds lie elsewhere. -/
theorem own_ne {m : Mem} {e e2 : TypeId} {sz : Nat} {a : Option Addr} {l c : Nat} {xs : List Value} {b : Nat} {cur : Array Value} {x : Nat × Nat} (h : Own m e sz a l c xs) (hb : m b = some (.cells cur e2 x)) (hne : e ≠ e2) : blk a ≠ some b := by
  intro hb2
  obtain ⟨_, hx⟩ := h
  rcases hx with ⟨rfl, _, _⟩ | ⟨b2, cur2, rfl, h2, _⟩
  · cases hb2
  · cases hb2; rw [hb] at h2; cases h2; exact hne rfl
/-- Cells of a literal block. -/
theorem LdV.s0 {m : Mem} {b : Nat} {x : Value} {r : List Value} {e : TypeId} {fr : Nat × Nat} {K : Value → Prop} (h : m b = some (.cells (x :: r).toArray e fr)) (k : K x) : LdV m b 0 K := LdV.of h rfl k
theorem LdV.s1 {m : Mem} {b : Nat} {x0 x : Value} {r : List Value} {e : TypeId} {fr : Nat × Nat} {K : Value → Prop} (h : m b = some (.cells (x0 :: x :: r).toArray e fr)) (k : K x) : LdV m b 1 K := LdV.of h rfl k
theorem LdV.s2 {m : Mem} {b : Nat} {x0 x1 x : Value} {r : List Value} {e : TypeId} {fr : Nat × Nat} {K : Value → Prop} (h : m b = some (.cells (x0 :: x1 :: x :: r).toArray e fr)) (k : K x) : LdV m b 2 K := LdV.of h rfl k
theorem LdV.s3 {m : Mem} {b : Nat} {x0 x1 x2 x : Value} {r : List Value} {e : TypeId} {fr : Nat × Nat} {K : Value → Prop} (h : m b = some (.cells (x0 :: x1 :: x2 :: x :: r).toArray e fr)) (k : K x) : LdV m b 3 K := LdV.of h rfl k
theorem LdV.s5 {m : Mem} {b : Nat} {x0 x1 x2 x3 x4 x : Value} {r : List Value} {e : TypeId} {fr : Nat × Nat} {K : Value → Prop} (h : m b = some (.cells (x0 :: x1 :: x2 :: x3 :: x4 :: x :: r).toArray e fr)) (k : K x) : LdV m b 5 K := LdV.of h rfl k
theorem UnS.mk {a : Option Addr} {l c : Nat} {K : Option Addr → Nat → Nat → Prop} (h : K a l c) : UnS (.slice a l c) K := h
theorem UnB.mk {b : Bool} {K : Bool → Prop} (h : K b) : UnB (.bool b) K := h
theorem UnP.mk {a : Option Addr} {K : Option Addr → Prop} (h : K a) : UnP (.pointer a) K := h
theorem UnStr.mk {a : ByteArray} {K : ByteArray → Prop} (h : K a) : UnStr (.string a) K := h
theorem UnTup.mk {l : List Value} {K : List Value → Prop} (h : K l) : UnTup (.tuple l.toArray) K := h
theorem UnAgg.mk {l : List Value} {K : List Value → Prop} (h : K l) : UnAgg (.agg l.toArray) K := h
theorem UnCons.mk {x : Value} {l : List Value} {K : Value → List Value → Prop} (h : K x l) : UnCons (x :: l) K := h
theorem UnNil.mk {K : Prop} (h : K) : UnNil [] K := h
end Go.H
set_option linter.unusedVariables false
namespace Go.H
open Go.RowKit
theorem HC.calls {P : Program} {f : FuncId} {fn : Func} {args : Array Value} {w : World} {v : Value} (hf : P.funcs[f]? = some fn) (hb : fn.body.isNone = false) (hn : (fn.name == "runtime.NumGoroutine") = false) (h : HC P f args (fun b => w.heap[b]?) (fun e m' => e = .returned v ∧ Le (fun b => w.heap[b]?) m')) :
    Calls P f args w fun e w' => e = .returned v ∧ Below w.heap.size w w' := by
  have hen := callFunc_enters (P := P) hf hn hb args w
  rcases h with h | h
  rotate_left
  · have := pt_sound P _ _ w (fun b o hb => hb) h
    rw [hen] at this
    exact (this.elim fun m' hx => hx.1).elim
  refine (h.2 w (fun b o hb => hb)).mono ?_
  rintro e w' ⟨m', _, ⟨rfl, hle⟩, hF, hfr⟩
  refine ⟨rfl, hfr.os, hfr.tape, hfr.output, hfr.size, fun k hk => ?_⟩
  have h1 : w.heap[k]? = some w.heap[k] := Array.getElem?_eq_getElem hk
  rw [h1]
  exact hF k _ (hle k _ h1)
theorem wf_u8 {n : Int} (h : (Lit.int .u8 n).wf = true) : 0 ≤ n ∧ n < 256 := by
  have e1 : IntKind.u8.min = 0 := rfl
  have e2 : IntKind.u8.max = 255 := rfl
  simp only [Lit.wf, e1, e2, Bool.and_eq_true, decide_eq_true_eq] at h
  omega
end Go.H
set_option linter.unusedVariables false
set_option linter.unusedSimpArgs false
namespace Go.H
theorem first_cells {P : Program} {m : Mem} (sz n : Nat) (aa : Option Addr) (cc nn : Nat) (vs : List Value) (Q : Array Value → Mem → Prop) (E : Value → Mem → Prop) (hv : CellsAt m aa vs) (hvl : vs.length = nn * sz) (hQ : Q vs.toArray m) :
    pt P (Builtin.firstCells sz nn (.slice aa n cc)) Q E m := by
  rcases hv.cases with ⟨b, o, rfl, hx⟩ | ⟨rfl, _⟩
  · simp only [Builtin.firstCells, loadCells]
    rw [← hvl]
    exact pt_loadCells vs 0 #[] (by simpa using hx) (by simpa using hQ)
  · cases aa with
    | none => exact hQ
    | some aa =>
      simp only [Builtin.firstCells, loadCells]
      rw [← hvl]
      exact hQ
/-- 'append' where there is room: in place. -/
theorem append_room {P : Program} {t e : TypeId} {z : Value} {sz bytes : Nat} (hE : ElemOK P t e z sz bytes) {m : Mem} {ty : TypeId} {cs : Array Bool}
    {b o l c : Nat} {cur : Array Value} (hb : m b = some (.cells cur e (0, 0))) {a2 : Option Addr} {l2 c2 : Nat} {news : List Value} (hc : CellsAt m a2 news) (hl : news.length = l2 * sz)
    (hone : ∀ v ∈ news, notOne v = false) (hroom : l + l2 ≤ c) (hfit : o + l * sz + news.length ≤ cur.size) {K : Value → Mem → Prop} {Pn : List PanicEntry → Mem → Prop}
    (h : K (.slice (some ⟨b, o, none⟩) (l + l2) c) (m.set b (.cells (putCells cur (o + l * sz) news) e (0, 0)))) :
    BiN P .append #[t, t] ty cs #[.slice (some ⟨b, o, none⟩) l c, .slice a2 l2 c2] m K Pn := by
  obtain ⟨i, hi, hzi, rfl, rfl⟩ := hE.hi
  unfold BiN
  show pt P (do pure (Next.value (← Builtin.append_ #[t, t] ty #[.slice (some ⟨b, o, none⟩) l c, .slice a2 l2 c2])) : Sem Next) _ _ m
  rw [pt_bind]
  unfold Builtin.append_
  simp only [List.getElem?_toArray, List.getElem?_cons_zero, List.getElem?_cons_succ]
  rw [pt_bind, pt_under hE.ht]
  simp only []
  rw [pt_bind, pt_sizeOf hi, pt_bind, pt_under hE.ht]
  simp only [pt_bind, pt_pure, Bool.false_eq_true, if_false, Builtin.lenOf]
  rw [pt_ite, if_pos hroom]
  simp only [Bool.not_false, if_true]
  rw [pt_bind]
  refine first_cells _ l2 a2 c2 l2 news _ _ hc hl ?_
  simp only []
  rw [pt_bind, add_none]
  refine pt_storeCells news 0 m cur hb hone (by simpa using hfit) ?_
  simp only [pt_pure]
  exact h
theorem zeroCells_one (z : Array Value) (n : Nat) : (Builtin.zeroCells z n).size = n * z.size := by simp [Builtin.zeroCells]
/-- 'append(s, make([]T, n)...)' where there is no room. -/
theorem append_zeros {P : Program} {t e t2 : TypeId} {z : Value} {sz bytes : Nat} (hE : ElemOK P t e z sz bytes) (ht2 : P.underlying t2 = some (.int .i64)) {m : Mem} {ty : TypeId} {cs : Array Bool}
    {a : Option Addr} {l c : Nat} {xs : List Value} (ho : CellsAt m a xs) (hxl : xs.length = l * sz) {n : Int} (h0 : 0 < n) (h1 : n ≤ 1000000) (hl1 : l ≤ 1000000) (hsz : 0 < sz) (hby : bytes ≤ 1000) (hroom : ¬ l + n.toNat ≤ c) {K : Value → Mem → Prop} {Pn : List PanicEntry → Mem → Prop}
    (h : ∀ b c' cur, m b = none → l + n.toNat ≤ c' → c' ≤ 9223372036854775807 → cur.size = c' * sz → cur.toList.take (l * sz) = xs → K (.slice (some ⟨b, 0, none⟩) (l + n.toNat) c') (m.set b (.cells cur e (0, 0)))) :
    BiN P .append #[t, t2] ty cs #[.slice a l c, .int .i64 n] m K Pn := by
  obtain ⟨i, hi, hzi, rfl, rfl⟩ := hE.hi
  unfold BiN
  show pt P (do pure (Next.value (← Builtin.append_ #[t, t2] ty #[.slice a l c, .int .i64 n])) : Sem Next) _ _ m
  rw [pt_bind]
  unfold Builtin.append_
  simp only [List.getElem?_toArray, List.getElem?_cons_zero, List.getElem?_cons_succ]
  rw [pt_bind, pt_under hE.ht]
  simp only []
  rw [pt_bind, pt_sizeOf hi, pt_bind, pt_under ht2]
  simp only [pt_bind, pt_pure, if_true]
  have hw : IntKind.i64.wrap n = n := by rw [IntKind.wrap_i64]; omega
  have hasInt : ∀ (Q : Int → Mem → Prop) E, Q n m → pt P (asInt (.int .i64 n)) Q E m := by
    intro Q E hQ
    simpa [asInt, asIntOf, pt_bind, pt_pure] using hQ
  refine hasInt _ _ ?_
  have hp : (2 : Int) ^ 48 = 281474976710656 := rfl
  have hmul : n * (i.bytes : Int) ≤ 1000000 * 1000 := Int.mul_le_mul h1 (by omega) (by omega) (by omega)
  rw [hw]
  simp only [pt_ite, pt_bind, pt_typeInfo hi, pt_pure]
  rw [if_neg (by omega), if_neg (by rw [hp]; omega)]
  have hn0 : n.toNat * i.size ≠ 0 := by
    have : 0 < n.toNat * i.size := Nat.mul_pos (by omega) hsz
    omega
  have hmax : ¬ (((l + n.toNat : Nat) : Int) > IntKind.i64.max ∧ (True ∨ i.bytes = 0)) := by
    rintro ⟨h1, _⟩
    have : IntKind.i64.max = 9223372036854775807 := rfl
    rw [this] at h1; omega
  have hnext : ¬ Builtin.nextslicecap (l + n.toNat) c * i.bytes > 2 ^ 48 := by
    have h1 := Nat.mul_le_mul (nextcap_le (l + n.toNat) c (by omega)) hby
    have : (2 : Nat) ^ 48 = 281474976710656 := rfl
    omega
  rw [if_neg hroom, if_neg hmax, if_neg hnext]
  intro tp
  have hge : l + n.toNat ≤ (Question.appendCap (l + n.toNat) c e).cut tp := by simp [Question.cut]
  have hlt63 : (Question.appendCap (l + n.toNat) c e).cut tp ≤ 9223372036854775807 := by
    have h1 : tp % (2 ^ 63 - (l + n.toNat)) < 2 ^ 63 - (l + n.toNat) := Nat.mod_lt _ (by omega)
    simp only [Question.cut]
    omega
  generalize (Question.appendCap (l + n.toNat) c e).cut tp = nc at hge hlt63 ⊢
  rw [show ∀ (Q : Nat → Mem → Prop) E, pt P (Sem.pure nc) Q E m = Q nc m from fun _ _ => rfl]
  have hask : ∀ n (Q : Unit → Mem → Prop) E, Q () m → pt P (askRoom n) Q E m := by
    intro n Q E hQ; unfold askRoom; split <;> exact hQ
  refine hask _ _ _ ?_
  refine first_cells _ l a c l xs _ _ ho hxl ?_
  simp only [Bool.not_true, Bool.false_eq_true, if_false]
  rw [if_neg hn0, pt_zero hi hzi, pt_zero hi hzi, pt_newRow]
  intro b hb
  refine h b nc _ hb hge hlt63 ?_ ?_
  · simp only [Array.size_append, zeroCells_one, hE.hz]
    simp only [List.size_toArray, hxl, ← Nat.add_mul]
    congr 1; omega
  · simp only [Array.toList_append]
    rw [← hxl, List.append_assoc]
    exact List.take_left' rfl
/-- 'clear(s)' of a row of one's own. -/
theorem clear_row {P : Program} {t e : TypeId} {z : Value} {sz bytes : Nat} (hE : ElemOK P t e z sz bytes) (hzo : ∀ v ∈ z.cells.toList, notOne v = false) {m : Mem} {ty : TypeId} {cs : Array Bool}
    {b o l c : Nat} {cur : Array Value} (hb : m b = some (.cells cur e (0, 0))) (hfit : o + l * sz ≤ cur.size) {K : Value → Mem → Prop} {Pn : List PanicEntry → Mem → Prop}
    (h : ∀ zs : List Value, zs.length = l * sz → K (.tuple #[]) (m.set b (.cells (putCells cur o zs) e (0, 0)))) :
    BiN P .clear #[t] ty cs #[.slice (some ⟨b, o, none⟩) l c] m K Pn := by
  obtain ⟨i, hi, hzi, rfl, rfl⟩ := hE.hi
  unfold BiN
  show pt P (do pure (Next.value (← Builtin.clear_ #[t] ty #[.slice (some ⟨b, o, none⟩) l c])) : Sem Next) _ _ m
  rw [pt_bind]
  unfold Builtin.clear_
  simp only [List.getElem?_toArray, List.getElem?_cons_zero]
  rw [pt_bind, pt_under hE.ht]
  have hsame : m.set b (.cells cur e (0, 0)) = m := by
    funext k; by_cases hk : k = b
    · subst hk; rw [set_same, hb]
    · rw [set_other _ _ hk]
  cases l with
  | zero =>
    simp only [pt_bind, pt_pure]
    have := h [] (by simp)
    rw [putCells, hsame] at this
    exact this
  | succ l =>
    simp only []
    rw [pt_bind, pt_zero hi hzi, pt_bind]
    refine pt_storeCells _ 0 m cur hb ?_ ?_ ?_
    · intro v hv
      simp only [Builtin.zeroCells, Array.mem_toList_iff, Array.mem_map, Array.mem_range] at hv
      obtain ⟨j, hj, rfl⟩ := hv
      have hzs : z.cells.size ≠ 0 := fun e => by rw [e] at hj; simp at hj
      have hlt : j % z.cells.size < z.cells.size := Nat.mod_lt _ (by omega)
      rw [getElem!_pos z.cells _ hlt]
      exact hzo _ (by simp)
    · rw [Array.length_toList, zeroCells_one, hE.hz]; simpa using hfit
    · simp only [pt_pure]
      exact h _ (by rw [Array.length_toList, zeroCells_one, hE.hz])
theorem sl3_ok {P : Program} {t e : TypeId} {z : Value} {sz bytes : Nat} (hE : ElemOK P t e z sz bytes) {m : Mem} {a : Option Addr} {l c : Nat} {lo hi mx : Int} (h0 : 0 ≤ lo) (h1 : lo ≤ hi) (h2 : hi ≤ mx) (h3 : mx ≤ c) {K : Value → Prop} (h : ∀ v, K v) :
    Sl3N P m t (.slice a l c) (.int .i64 lo) (.int .i64 hi) (.int .i64 mx) K := by
  obtain ⟨i, hi', hzi, rfl, rfl⟩ := hE.hi
  unfold Sl3N
  rw [pq_bind]
  unfold Instr.sliceAt
  rw [pq_bind, pq_under hE.ht]
  simp only []
  unfold Instr.slice
  rw [pq_bind, pq_under hE.ht]
  simp only []
  rw [pq_bind]
  unfold Instr.sliceBounds
  have hb : ∀ (x : Int) (y : Nat) (code : BoundsCode) (Q : Nat → Prop), 0 ≤ x → x ≤ y → Q x.toNat → pq P (Instr.sliceBound (.int .i64 x) y code) Q m := by
    intro x y code Q hx hy hQ
    unfold Instr.sliceBound
    rw [pq_bind]
    show pq P (pure (IntKind.i64, x)) _ m
    rw [pq_pure]
    simp only [hx, hy, and_self, if_true]
    exact hQ
  simp only [pq_bind]
  refine hb mx c _ _ (by omega) h3 ?_
  try simp only []
  refine hb hi mx.toNat _ _ (by omega) (by omega) ?_
  try simp only []
  refine hb lo hi.toNat _ _ h0 (by omega) ?_
  simp only [pq_pure]
  have hsz : ∀ Q : Nat → Prop, Q i.size → pq P (Go.sizeOf e) Q m := by
    intro Q hQ
    unfold Go.sizeOf
    rw [pq_bind]
    show pq P ((Sem.program .pure).bind _) _ m
    simp only [Sem.bind, pq, hi']
    exact hQ
  refine hsz _ ?_
  exact h _
theorem CallV.of {P : Program} {g : FuncId} {first cap args : Array Value} {m : Mem} {R : Ending → Mem → Prop} (h : HC P g (first ++ args ++ cap) m R) : CallV P (.func (.func g) first cap) args m R := h
theorem overlaps_pt {P : Program} {t e : TypeId} {z : Value} {i : TypeInfo} {rs : Array TypeId} (hE : ElemOK P t e z i.size i.bytes) (hi' : P.info? e = some i) {m : Mem} {b1 o1 l1 c1 b2 o2 l2 c2 : Nat} {cur1 cur2 : Array Value}
    (h1 : m b1 = some (.cells cur1 e (0, 0))) (h2 : m b2 = some (.cells cur2 e (0, 0))) (hne : b1 ≠ b2) {Q : Value → Mem → Prop} {E : Value → Mem → Prop} (k : Q (.bool false) m) :
    pt P (Extern.SlicesOverlaps.overlaps #[t, t] rs #[.slice (some ⟨b1, o1, none⟩) l1 c1, .slice (some ⟨b2, o2, none⟩) l2 c2]) Q E m := by
  delta Extern.SlicesOverlaps.overlaps
  show pt P (underlying t >>= _) Q E m
  rw [pt_bind, pt_under hE.ht]
  simp only []
  rw [pt_bind, pt_sizeOf hi']
  rw [pt_ite]
  split
  · exact k
  · have hfz : ∀ (b o : Nat) (cur : Array Value) (Q : Bool → Mem → Prop) E, m b = some (.cells cur e (0, 0)) → Q false m → pt P (frozen ⟨b, o, none⟩) Q E m := by
      intro b o cur Q E hb hQ
      refine ⟨_, hb, ?_⟩
      have : frozenOf (.cells cur e (0, 0)) o = false := by simp [frozenOf]
      show Q (frozenOf _ o) m
      rw [this]; exact hQ
    have hsh : ∀ (b : Nat) (cur : Array Value) (Q : Option (TypeId × Nat) → Mem → Prop) E, m b = some (.cells cur e (0, 0)) → Q (some (e, cur.size)) m → pt P (shape b) Q E m := by
      intro b cur Q E hb hQ
      exact ⟨_, hb, hQ⟩
    have hstr : ∀ (b o : Nat) (cur : Array Value) (Q : Bool → Mem → Prop) E, m b = some (.cells cur e (0, 0)) → Q false m → pt P (stringish ⟨b, o, none⟩) Q E m := by
      intro b o cur Q E hb hQ
      unfold stringish
      rw [pt_bind]
      refine hfz b o cur _ _ hb ?_
      simp only [Bool.false_eq_true, if_false]
      rw [pt_bind]
      refine hsh b cur _ _ hb ?_
      exact hfz b _ cur _ _ hb hQ
    have hview : ∀ (b : Nat) (cur : Array Value) (Q : Option _ → Mem → Prop) E, m b = some (.cells cur e (0, 0)) → Q none m → pt P (viewAt b) Q E m := by
      intro b cur Q E hb hQ
      unfold viewAt
      rw [pt_bind]
      refine hsh b cur _ _ hb ?_
      exact hQ
    rw [pt_bind]
    refine hfz b1 o1 cur1 _ _ h1 ?_
    rw [pt_bind]
    refine hfz b2 o2 cur2 _ _ h2 ?_
    simp only [Bool.and_false, Bool.false_and, Bool.false_eq_true, if_false]
    have hbne : (b1 != b2) = true := by simpa using hne
    simp only [hbne, if_true]
    unfold noView
    rw [pt_bind, pt_bind]
    refine hview b1 cur1 _ _ h1 ?_
    simp only [Option.isSome_none, Bool.false_eq_true, if_false, pt_pure]
    rw [pt_bind, pt_bind]
    refine hview b2 cur2 _ _ h2 ?_
    simp only [Option.isSome_none, Bool.false_eq_true, if_false, pt_pure]
    rw [pt_bind]
    unfold mayBeOne
    rw [pt_bind]
    refine hstr b1 o1 cur1 _ _ h1 ?_
    rw [pt_bind]
    refine hstr b2 o2 cur2 _ _ h2 ?_
    simp only []
    rw [pt_bind, pt_bind]
    refine hsh b1 cur1 _ _ h1 ?_
    simp only [pt_pure]
    rw [pt_bind, pt_bind]
    refine hsh b2 cur2 _ _ h2 ?_
    simp only [pt_pure, Bool.and_false, Bool.false_and, Bool.or_false, Bool.false_eq_true, if_false]
    have hbf : (b1 == b2) = false := by simpa using hne
    rw [hbf]
    exact k
/-- 'slices.overlaps' of rows of two blocks. -/
theorem overlaps_no {P : Program} {g : FuncId} {fn : Func} {t e : TypeId} {z : Value} {sz bytes : Nat} {rs : Array TypeId} (hE : ElemOK P t e z sz bytes) (hf : P.funcs[g]? = some fn) (hn : (fn.name == "runtime.NumGoroutine") = false) (hb : fn.body.isNone = true)
    (hx : Extern.findNext fn = none) (hy : Extern.find fn = some (Extern.SlicesOverlaps.overlaps #[t, t] rs)) {m : Mem} {b1 o1 l1 c1 b2 o2 l2 c2 : Nat} {cur1 cur2 : Array Value}
    (h1 : m b1 = some (.cells cur1 e (0, 0))) (h2 : m b2 = some (.cells cur2 e (0, 0))) (hne : b1 ≠ b2) {R : Ending → Mem → Prop} (k : R (.returned (.bool false)) m) :
    HC P g #[.slice (some ⟨b1, o1, none⟩) l1 c1, .slice (some ⟨b2, o2, none⟩) l2 c2] m R := by
  obtain ⟨i, hi', hzi, rfl, rfl⟩ := hE.hi
  refine .inr ?_
  generalize hov : Extern.SlicesOverlaps.overlaps #[t, t] rs = ov at hy
  have key : pt P (ov #[.slice (some ⟨b1, o1, none⟩) l1 c1, .slice (some ⟨b2, o2, none⟩) l2 c2]) (fun v m' => R (.returned v) m') (fun v m' => R (.panicked [{ v := v, recovered := false }]) m') m := by
    subst hov
    refine overlaps_pt hE hi' h1 h2 hne k
  unfold callFunc
  rw [pt_bind]
  show pt P (Sem.program .pure) _ _ m
  simp only [pt]
  rw [hf]
  simp only [hn, Bool.false_eq_true, if_false, hb, if_true]
  rw [pt_bind]
  show pt P (Sem.mark _ (Sem.pure ())) _ _ m
  simp only [pt, hx, hy]
  rw [pt_bind]
  exact key
theorem rows_get {α : Type} {f : α → List Value} {sz : Nat} (hf : ∀ x, (f x).length = sz) : ∀ {rows : List α} {i : Nat} {x : α}, rows[i]? = some x → ∀ j u, (f x)[j]? = some u → (rows.flatMap f)[i * sz + j]? = some u
  | [], i, x, h, _, _, _ => by simp at h
  | y :: r, 0, x, h, j, u, hu => by
    simp at h; subst h
    rw [List.flatMap_cons, Nat.zero_mul, Nat.zero_add, List.getElem?_append_left]
    · exact hu
    · rcases Nat.lt_or_ge j (f y).length with h | h
      · exact h
      · rw [List.getElem?_eq_none h] at hu; cases hu
  | y :: r, i + 1, x, h, j, u, hu => by
    have ih := rows_get hf (rows := r) (i := i) (x := x) (by simpa using h) j u hu
    have e : (i + 1) * sz + j - (f y).length = i * sz + j := by rw [hf, Nat.add_mul, Nat.one_mul]; omega
    rw [List.flatMap_cons, List.getElem?_append_right (by rw [hf, Nat.add_mul, Nat.one_mul]; omega), e]
    exact ih
theorem rows_len {α : Type} {f : α → List Value} {sz : Nat} (hf : ∀ x, (f x).length = sz) : ∀ (rows : List α), (rows.flatMap f).length = rows.length * sz
  | [] => by simp
  | y :: r => by rw [List.flatMap_cons, List.length_append, hf, rows_len hf r, List.length_cons, Nat.add_mul, Nat.one_mul]; omega
theorem rows_take {α : Type} {f : α → List Value} {sz : Nat} (hf : ∀ x, (f x).length = sz) : ∀ (rows : List α) (n : Nat), (rows.flatMap f).take (n * sz) = (rows.take n).flatMap f
  | [], n => by simp
  | y :: r, 0 => by simp
  | y :: r, n + 1 => by
    rw [List.flatMap_cons, List.take_succ_cons, List.flatMap_cons, ← rows_take hf r n, List.take_append, List.take_of_length_le (by rw [hf, Nat.add_mul]; omega), hf, Nat.add_mul, Nat.one_mul, Nat.add_sub_cancel]
theorem rows_drop {α : Type} {f : α → List Value} {sz : Nat} (hf : ∀ x, (f x).length = sz) : ∀ (rows : List α) (n : Nat), (rows.flatMap f).drop (n * sz) = (rows.drop n).flatMap f
  | [], n => by simp
  | y :: r, 0 => by simp
  | y :: r, n + 1 => by
    rw [List.flatMap_cons, List.drop_succ_cons, ← rows_drop hf r n, List.drop_append, List.drop_of_length_le (by rw [hf, Nat.add_mul]; omega), hf, Nat.add_mul, Nat.one_mul, Nat.add_sub_cancel, List.nil_append]
theorem IxS.rows {α : Type} {f : α → List Value} {sz : Nat} (hf : ∀ x, (f x).length = sz) (hsz : 0 < sz) {m : Mem} {a : Option Addr} {len : Nat} {rows : List α} (hc : CellsAt m a (rows.flatMap f)) (hl : rows.length = len) {i : Int} (h0 : 0 ≤ i) (h1 : i < len) {K : Nat → Nat → Prop}
    (k : ∀ b o x, rows[i.toNat]? = some x → (∀ j u, (f x)[j]? = some u → m.cell b (o + j) = some u) → K b o) : IxS a len i sz K := by
  refine ⟨h0, h1, ?_⟩
  have hlt : i.toNat < rows.length := by omega
  have hg := List.getElem?_eq_getElem hlt
  rcases hc.cases with ⟨b, o, rfl, hx⟩ | ⟨hx, _⟩
  · refine k b (o + i.toNat * sz) _ hg ?_
    intro j u hu
    have := hx _ u (rows_get hf hg j u hu)
    rw [Nat.add_assoc]; exact this
  · have := rows_len hf rows
    rw [hx] at this
    simp only [List.length_nil] at this
    have : 0 < rows.length * sz := Nat.mul_pos (by omega) hsz
    omega
theorem St1.three {m : Mem} {b : Nat} {x0 x1 x2 u0 u1 u2 : Value} {e : TypeId} {K : Mem → Prop} (h : m b = some (.cells #[x0, x1, x2] e (0, 0))) (h0 : notOne u0 = false) (h1 : notOne u1 = false) (h2 : notOne u2 = false)
    (k : K (m.set b (.cells #[u0, u1, u2] e (0, 0)))) : St1 m b 0 u0 fun m' => St1 m' b 1 u1 fun m' => St1 m' b 2 u2 K := by
  refine St1.to #[u0, x1, x2] (o := 0) h (by simp) h0 rfl ?_
  refine St1.to #[u0, u1, x2] (o := 1) (set_same _ _ _) (by simp) h1 rfl ?_
  rw [set_set]
  refine St1.to #[u0, u1, u2] (o := 2) (set_same _ _ _) (by simp) h2 rfl ?_
  rw [set_set]
  exact k
theorem St1.four {m : Mem} {b : Nat} {x0 x1 x2 x3 u0 u1 u2 u3 : Value} {e : TypeId} {K : Mem → Prop} (h : m b = some (.cells #[x0, x1, x2, x3] e (0, 0))) (h0 : notOne u0 = false) (h1 : notOne u1 = false) (h2 : notOne u2 = false) (h3 : notOne u3 = false)
    (k : K (m.set b (.cells #[u0, u1, u2, u3] e (0, 0)))) : St1 m b 0 u0 fun m' => St1 m' b 1 u1 fun m' => St1 m' b 2 u2 fun m' => St1 m' b 3 u3 K := by
  refine St1.to #[u0, x1, x2, x3] (o := 0) h (by simp) h0 rfl ?_
  refine St1.to #[u0, u1, x2, x3] (o := 1) (set_same _ _ _) (by simp) h1 rfl ?_
  rw [set_set]
  refine St1.to #[u0, u1, u2, x3] (o := 2) (set_same _ _ _) (by simp) h2 rfl ?_
  rw [set_set]
  refine St1.to #[u0, u1, u2, u3] (o := 3) (set_same _ _ _) (by simp) h3 rfl ?_
  rw [set_set]
  exact k
theorem shf0 (b o sz c : Nat) : shf (some ⟨b, o, none⟩) (0 : Int).toNat sz c = some ⟨b, o, none⟩ := by
  unfold shf; split
  · rfl
  · simp [add_none]
theorem shf_at {b o l sz c : Nat} (h : l < c) : shf (some ⟨b, o, none⟩) l sz c = some ⟨b, o + l * sz, none⟩ := by
  unfold shf
  rw [if_neg (by omega)]
  simp [add_none]
/-- Cells put behind each other, in either order of time. -/
theorem put_two {cur : Array Value} {xs ys : List Value} (h : xs.length + ys.length ≤ cur.size) : (putCells (putCells cur xs.length ys) 0 xs).toList.take (xs.length + ys.length) = xs ++ ys := by
  apply List.ext_getElem?
  intro j
  rw [List.getElem?_take, Array.getElem?_toList, putCells_get _ _ _ _ (by rw [putCells_size]; omega), putCells_get _ _ _ _ (by omega), List.getElem?_append]
  simp only [Nat.zero_add, Nat.zero_le, true_and, Nat.sub_zero]
  by_cases h1 : j < xs.length
  · rw [if_pos (by omega), if_pos h1, if_pos h1]
  · by_cases h2 : j < xs.length + ys.length
    · rw [if_pos h2, if_neg h1, if_pos (by omega), if_neg h1]
    · rw [if_neg h2, if_neg h1, List.getElem?_eq_none (by omega)]
theorem put_two' {cur : Array Value} {xs ys : List Value} (h : xs.length + ys.length ≤ cur.size) : (putCells (putCells cur 0 xs) xs.length ys).toList.take (xs.length + ys.length) = xs ++ ys := by
  apply List.ext_getElem?
  intro j
  rw [List.getElem?_take, Array.getElem?_toList, putCells_get _ _ _ _ (by rw [putCells_size]; omega), putCells_get _ _ _ _ (by omega), List.getElem?_append]
  simp only [Nat.zero_add, Nat.zero_le, true_and, Nat.sub_zero]
  by_cases h1 : j < xs.length
  · rw [if_pos (by omega), if_neg (by omega), if_pos h1, if_pos h1]
  · by_cases h2 : j < xs.length + ys.length
    · rw [if_pos h2, if_pos (by omega), if_neg h1]
    · rw [if_neg h2, if_neg h1, List.getElem?_eq_none (by omega)]
theorem put_cut {cur : Array Value} {xs ys zs : List Value} {p : Nat} (hx : cur.toList.take p = xs) (hp : p ≤ cur.size) (h : p + ys.length + zs.length ≤ cur.size) : (putCells (putCells cur p ys) (p + ys.length) zs).toList.take (p + ys.length) = xs ++ ys := by
  have hxl : xs.length = p := by rw [← hx, List.length_take]; simp; omega
  apply List.ext_getElem?
  intro j
  rw [List.getElem?_take, Array.getElem?_toList, putCells_get _ _ _ _ (by rw [putCells_size]; omega), putCells_get _ _ _ _ (by omega), List.getElem?_append]
  by_cases h1 : j < p
  · rw [if_pos (by omega), if_neg (by omega), if_neg (by omega), if_pos (by omega), ← hx, List.getElem?_take, if_pos h1, Array.getElem?_toList]
  · by_cases h2 : j < p + ys.length
    · rw [if_pos h2, if_neg (by omega), if_pos (by omega), if_neg (by omega), hxl]
    · rw [if_neg h2, if_neg (by omega), List.getElem?_eq_none (by omega)]
/-- The first elements of an own row. -/
theorem Own.take {m : Mem} {e : TypeId} {sz : Nat} {a : Option Addr} {l c : Nat} {xs : List Value} (h : Own m e sz a l c xs) {n : Nat} (hn : n ≤ l) : Own m e sz a n c (xs.take (n * sz)) := by
  obtain ⟨hl, hx⟩ := h
  have hns : n * sz ≤ l * sz := Nat.mul_le_mul_right _ hn
  refine ⟨by rw [List.length_take, hl]; omega, ?_⟩
  rcases hx with ⟨rfl, rfl, rfl⟩ | ⟨b, cur, rfl, hb, hlc, hs, ht, hcm⟩
  · exact .inl ⟨rfl, by omega, rfl⟩
  · refine .inr ⟨b, cur, rfl, hb, by omega, hs, ?_, hcm⟩
    rw [← ht, List.take_take]
    congr 1; omega
end Go.H
set_option linter.unusedVariables false
namespace Go.H
open Go.WideShapes
/-- An argument of type t, as the statement's frame tells it. -/
def Arg (P : Program) (W : World) (t : TypeId) (v : Value) : Prop :=
  ∃ (base : Nat) (H : Type) (enc : TypeId × Value → H) (d : DataW H) (p : List MemPlace), Value.okWide P W .any base t v ∧ DataW.Trod enc P W 0 (fun _ => true) true t v d p
/-- These cells can be read at type t. -/
def Rd (P : Program) (W : World) (t : TypeId) (cs : List Value) : Prop :=
  ∃ (H : Type) (enc : TypeId × Value → H) (fuel : Nat) (x : DataW H × List MemPlace), DataW.trod enc P W 0 (fun _ => true) true fuel t cs = some x
abbrev heapM (W : World) : Mem := fun b => W.heap[b]?
section
variable {P : Program} {W : World} {t : TypeId} {v : Value} {cs : List Value}
theorem Arg.rd (h : Arg P W t v) : Rd P W t v.cells.toList := by
  obtain ⟨base, H, enc, d, p, _, n, hn⟩ := h; exact ⟨H, enc, n, _, hn⟩
theorem Rd.bool (ht : P.underlying t = some .bool) (h : Rd P W t cs) : ∃ b, cs = [.bool b] := by
  obtain ⟨H, enc, n, x, h⟩ := h
  obtain ⟨b, h1, _⟩ := DataW.trod_bool ht h; exact ⟨b, h1⟩
theorem Rd.int {k : IntKind} (ht : P.underlying t = some (.int k)) (h : Rd P W t cs) : ∃ n, cs = [.int k n] ∧ (Lit.int k n).wf = true := by
  obtain ⟨H, enc, n, x, h⟩ := h
  obtain ⟨b, h1, _, h2⟩ := DataW.trod_int ht h; exact ⟨b, h1, h2⟩
theorem Rd.str (ht : P.underlying t = some .string) (h : Rd P W t cs) : ∃ s : ByteArray, cs = [.string s] ∧ s.size ≤ maxLen := by
  obtain ⟨H, enc, n, x, h⟩ := h
  obtain ⟨b, h1, _, h2⟩ := DataW.trod_string ht h; exact ⟨b, h1, h2⟩
theorem Rd.struct {fs : Array Field} (ht : P.underlying t = some (.struct fs)) (h : Rd P W t cs) : cs.length = P.cellsOf t ∧ ∀ f ∈ fs.toList, Rd P W f.type ((cs.drop f.offset).take (P.cellsOf f.type)) := by
  obtain ⟨H, enc, n, x, h⟩ := h
  cases n with
  | zero => simp [DataW.trod] at h
  | succ n =>
    unfold DataW.trod at h
    rw [ht] at h
    simp only at h
    split at h
    · rename_i hl
      refine ⟨hl, fun f hf => ?_⟩
      rw [Option.map_eq_some_iff] at h
      obtain ⟨xs, hx, _⟩ := h
      have : ∀ (l : List Field) (xs : List (DataW H × List MemPlace)), l.mapM (fun f => DataW.trod enc P W 0 (fun _ => true) true n f.type ((cs.drop f.offset).take (P.cellsOf f.type))) = some xs → ∀ f ∈ l, Rd P W f.type ((cs.drop f.offset).take (P.cellsOf f.type)) := by
        intro l
        induction l with
        | nil => intro xs _ f hf; cases hf
        | cons a l ih =>
          intro xs hx f hf
          rw [List.mapM_cons] at hx
          simp only [Option.bind_eq_bind, Option.bind_eq_some_iff] at hx
          obtain ⟨y, hy, ys, hys, _⟩ := hx
          rcases List.mem_cons.1 hf with rfl | hf
          · exact ⟨H, enc, n, y, hy⟩
          · exact ih ys hys f hf
      exact this _ _ hx f hf
    · cases h
theorem Rd.array {n : Nat} {e : TypeId} (ht : P.underlying t = some (.array n e)) (h : Rd P W t cs) : cs.length = P.cellsOf t ∧ ∀ i, i < n → Rd P W e ((cs.drop (i * P.cellsOf e)).take (P.cellsOf e)) := by
  obtain ⟨H, enc, f, x, h⟩ := h
  cases f with
  | zero => simp [DataW.trod] at h
  | succ f =>
    unfold DataW.trod at h
    rw [ht] at h
    simp only at h
    split at h
    · rename_i hl
      refine ⟨hl, fun i hi => ?_⟩
      rw [Option.map_eq_some_iff] at h
      obtain ⟨xs, hx, _⟩ := h
      have : ∀ (l : List Nat) (xs : List (DataW H × List MemPlace)), l.mapM (fun i => DataW.trod enc P W 0 (fun _ => true) true f e ((cs.drop (i * P.cellsOf e)).take (P.cellsOf e))) = some xs → ∀ i ∈ l, Rd P W e ((cs.drop (i * P.cellsOf e)).take (P.cellsOf e)) := by
        intro l
        induction l with
        | nil => intro xs _ f hf; cases hf
        | cons a l ih =>
          intro xs hx i hi
          rw [List.mapM_cons] at hx
          simp only [Option.bind_eq_bind, Option.bind_eq_some_iff] at hx
          obtain ⟨y, hy, ys, hys, _⟩ := hx
          rcases List.mem_cons.1 hi with rfl | hi
          · exact ⟨H, enc, f, y, hy⟩
          · exact ih ys hys i hi
      exact this _ _ hx i (List.mem_range.2 hi)
    · cases h
theorem Rd.len (ht : (match P.underlying t with | some (.struct _) | some (.array _ _) => true | _ => false) = true) (h : Rd P W t cs) : cs.length = P.cellsOf t := by
  split at ht
  · rename_i fs hs; exact (h.struct hs).1
  · rename_i n e hs; exact (h.array hs).1
  · cases ht
theorem Rd.field {t' : TypeId} {off : Nat} (ht : (match P.underlying t with | some (.struct fs) => fs.toList.any (fun f => Nat.beq f.offset off && Nat.beq f.type t') | _ => false) = true) (h : Rd P W t cs) : Rd P W t' ((cs.drop off).take (P.cellsOf t')) := by
  split at ht
  · rename_i fs hs
    simp only [List.any_eq_true, Bool.and_eq_true] at ht
    obtain ⟨f, hm, h1, h2⟩ := ht
    have := (h.struct hs).2 f hm
    rwa [Nat.eq_of_beq_eq_true h1, Nat.eq_of_beq_eq_true h2] at this
  · cases ht
theorem cells?_at {a : Addr} {n : Nat} {l : List Value} (h : W.cells? 0 a n = some l) : l.length = n ∧ ∀ i u, l[i]? = some u → W.cell? (a.add i) = some u := by
  unfold World.cells? at h
  rw [if_pos (Nat.zero_le _)] at h
  have : ∀ (ks : List Nat) (l : List Value), ks.mapM (fun i => W.cell? (a.add i)) = some l → l.length = ks.length ∧ ∀ (i : Nat) (u : Value) (k : Nat), l[i]? = some u → ks[i]? = some k → W.cell? (a.add k) = some u := by
    intro ks
    induction ks with
    | nil =>
      intro l h
      simp at h; subst h
      exact ⟨rfl, fun i u k hu => by simp at hu⟩
    | cons k ks ih =>
      intro l h
      rw [List.mapM_cons] at h
      simp only [Option.bind_eq_bind, Option.bind_eq_some_iff] at h
      obtain ⟨y, hy, ys, hys, h⟩ := h
      cases h
      obtain ⟨h1, h2⟩ := ih ys hys
      refine ⟨by simp [h1], fun i u k' hu hk => ?_⟩
      cases i with
      | zero => simp at hu hk; subst hu; subst hk; exact hy
      | succ i => exact h2 i u k' (by simpa using hu) (by simpa using hk)
  obtain ⟨h1, h2⟩ := this _ _ h
  refine ⟨by simpa using h1, fun i u hu => h2 i u i hu ?_⟩
  have hlt : i < l.length := by
    rcases Nat.lt_or_ge i l.length with h | h
    · exact h
    · rw [List.getElem?_eq_none h] at hu; cases hu
  rw [List.getElem?_range (by simp at h1; omega)]
theorem flat_cells {a : Addr} {sz : Nat} : ∀ (es : List (List Value)) (k : Nat), (∀ i x, es[i]? = some x → x.length = sz ∧ ∀ j u, x[j]? = some u → W.cell? (a.add ((k + i) * sz + j)) = some u) →
    ∀ j u, es.flatten[j]? = some u → W.cell? (a.add (k * sz + j)) = some u
  | [], _, _, j, u, hu => by simp at hu
  | x :: es, k, h, j, u, hu => by
    obtain ⟨hl, h0⟩ := h 0 x rfl
    rw [List.flatten_cons, List.getElem?_append] at hu
    split at hu
    · have := h0 j u hu
      simpa using this
    · have ih := flat_cells es (k + 1) (fun i y hy => by
        have := h (i + 1) y (by simpa using hy)
        rw [show k + (i + 1) = k + 1 + i by omega] at this; exact this) (j - x.length) u hu
      rw [hl, Nat.add_mul, Nat.one_mul, show k * sz + sz + (j - sz) = k * sz + j by omega] at ih
      exact ih
theorem Rd.sl {e : TypeId} (ht : P.underlying t = some (.slice e)) (h : Rd P W t cs) :
    ∃ a l c, cs = [.slice a l c] ∧ l ≤ c ∧ c ≤ maxLen ∧ ∃ es : List (List Value), es.length = c ∧ (∀ x ∈ es, x.length = P.cellsOf e ∧ Rd P W e x) ∧ CellsAt (heapM W) a es.flatten := by
  obtain ⟨H, enc, f, x, h⟩ := h
  rcases DataW.trod_slice ht h with ⟨rfl, _⟩ | ⟨a, len, cap, elems, rest, n, _, rfl, _, _, hl, hm, hlen, hel, hsp, _⟩
  · exact ⟨none, 0, 0, rfl, Nat.le_refl _, Nat.zero_le _, [], rfl, ⟨(fun x h => by cases h), CellsAt.empty _ _⟩⟩
  · obtain ⟨hrl, hrest⟩ := hsp rfl
    have each : ∀ i, i < cap → ∃ l y, W.cells? 0 (a.add (i * P.cellsOf e)) (P.cellsOf e) = some l ∧ DataW.trod enc P W 0 (fun _ => true) true n e l = some y := by
      intro i hi
      have : ∃ y, (W.cells? 0 (a.add (i * P.cellsOf e)) (P.cellsOf e)).bind (DataW.trod enc P W 0 (fun _ => true) true n e) = some y := by
        by_cases h1 : i < len
        · rw [hel i h1]; exact ⟨elems[i]'(by omega), List.getElem?_eq_getElem _⟩
        · have := hrest (i - len) (by omega)
          rw [show len + (i - len) = i by omega] at this
          rw [this]; exact ⟨rest[i - len]'(by omega), List.getElem?_eq_getElem _⟩
      obtain ⟨y, hy⟩ := this
      rw [Option.bind_eq_some_iff] at hy
      obtain ⟨l, h1, h2⟩ := hy
      exact ⟨l, y, h1, h2⟩
    refine ⟨some a, len, cap, rfl, hl, hm, (List.range cap).map (fun i => (W.cells? 0 (a.add (i * P.cellsOf e)) (P.cellsOf e)).getD []), by simp, ?_, ?_⟩
    · intro x hx
      simp only [List.mem_map, List.mem_range] at hx
      obtain ⟨i, hi, rfl⟩ := hx
      obtain ⟨l, y, h1, h2⟩ := each i hi
      rw [h1]
      exact ⟨(cells?_at h1).1, H, enc, n, y, h2⟩
    · refine CellsAt.given ?_
      have := flat_cells (W := W) (a := a) (sz := P.cellsOf e) ((List.range cap).map (fun i => (W.cells? 0 (a.add (i * P.cellsOf e)) (P.cellsOf e)).getD [])) 0 (fun i x hx => by
        rw [List.getElem?_map] at hx
        by_cases hi : i < cap
        · rw [List.getElem?_range hi] at hx
          simp only [Option.map_some, Option.some.injEq] at hx
          obtain ⟨l, y, h1, h2⟩ := each i hi
          rw [h1] at hx
          simp only [Option.getD_some] at hx
          subst hx
          obtain ⟨g1, g2⟩ := cells?_at h1
          refine ⟨g1, fun j u hu => ?_⟩
          have := g2 j u hu
          rw [Addr.add_add] at this
          rw [Nat.zero_add]; exact this
        · rw [List.getElem?_eq_none (by simp; omega)] at hx; cases hx)
      intro j u hu
      have := this j u hu
      simpa using this
theorem Arg.bool (ht : P.underlying t = some .bool) (h : Arg P W t v) : ∃ b, v = .bool b := by
  obtain ⟨base, H, enc, d, p, h1, _⟩ := h; exact okWide_bool ht h1
theorem Arg.int {k : IntKind} (ht : P.underlying t = some (.int k)) (h : Arg P W t v) : ∃ n, v = .int k n ∧ (Lit.int k n).wf = true := by
  have hr := h.rd
  obtain ⟨base, H, enc, d, p, h1, _⟩ := h
  obtain ⟨n, rfl⟩ := okWide_int ht h1
  obtain ⟨n', h2, h3⟩ := hr.int ht
  simp [Value.cells] at h2; subst h2
  exact ⟨n, rfl, h3⟩
theorem Arg.str (ht : P.underlying t = some .string) (h : Arg P W t v) : ∃ s : ByteArray, v = .string s ∧ s.size ≤ maxLen := by
  have hr := h.rd
  obtain ⟨base, H, enc, d, p, h1, _⟩ := h
  obtain ⟨n, rfl⟩ := okWide_string ht h1
  obtain ⟨n', h2, h3⟩ := hr.str ht
  simp [Value.cells] at h2; subst h2
  exact ⟨n, rfl, h3⟩
theorem Arg.sl {e : TypeId} (ht : P.underlying t = some (.slice e)) (h : Arg P W t v) :
    ∃ a l c, v = .slice a l c ∧ l ≤ c ∧ c ≤ maxLen ∧ ∃ es : List (List Value), es.length = c ∧ (∀ x ∈ es, x.length = P.cellsOf e ∧ Rd P W e x) ∧ CellsAt (heapM W) a es.flatten := by
  have hr := h.rd
  obtain ⟨base, H, enc, d, p, h1, _⟩ := h
  obtain ⟨a, l, c, rfl⟩ := okWide_slice ht h1
  obtain ⟨a', l', c', h2, h3⟩ := hr.sl ht
  simp [Value.cells] at h2
  obtain ⟨rfl, rfl, rfl⟩ := h2
  exact ⟨a, l, c, rfl, h3⟩
theorem Arg.agg (ht : (match P.underlying t with | some (.struct _) | some (.array _ _) => true | _ => false) = true) (h : Arg P W t v) : ∃ cs : List Value, v = .agg cs.toArray ∧ Rd P W t cs := by
  have hr := h.rd
  obtain ⟨base, H, enc, d, p, h1, _⟩ := h
  unfold Value.okWide at h1
  split at h1 <;> simp_all
  all_goals
    obtain ⟨cs, rfl, _⟩ := h1
    exact ⟨cs.toList, by simp, by simpa [Value.cells] using hr⟩
/-- Rows of elements of one kind. -/
theorem es_u8 {e : TypeId} (he : P.underlying e = some (.int .u8)) {es : List (List Value)} (h : ∀ x ∈ es, Rd P W e x) : ∃ bs : List UInt8, bs.length = es.length ∧ es.flatten = u8s bs := by
  induction es with
  | nil => exact ⟨[], rfl, rfl⟩
  | cons x es ih =>
    obtain ⟨bs, h1, h2⟩ := ih (fun y hy => h y (by simp [hy]))
    obtain ⟨n, hn, hw⟩ := (h x (by simp)).int he
    have hn8 := wf_u8 hw
    refine ⟨UInt8.ofNat n.toNat :: bs, by simp [h1], ?_⟩
    rw [List.flatten_cons, h2, hn]
    have : (UInt8.ofNat n.toNat).toNat = n.toNat := by rw [UInt8.toNat_ofNat']; omega
    simp only [u8s, List.map_cons, this, List.singleton_append]
    congr 2; omega
theorem es_int {e : TypeId} {k : IntKind} (he : P.underlying e = some (.int k)) {es : List (List Value)} (h : ∀ x ∈ es, Rd P W e x) : ∃ xs : List Int, xs.length = es.length ∧ es.flatten = xs.map (fun n => Value.int k n) ∧ ∀ n ∈ xs, (Lit.int k n).wf = true := by
  induction es with
  | nil => exact ⟨[], rfl, rfl, fun n h => by cases h⟩
  | cons x es ih =>
    obtain ⟨bs, h1, h2, h3⟩ := ih (fun y hy => h y (by simp [hy]))
    obtain ⟨n, hn, hw⟩ := (h x (by simp)).int he
    refine ⟨n :: bs, by simp [h1], by rw [List.flatten_cons, h2, hn]; rfl, fun m hm => ?_⟩
    rcases List.mem_cons.1 hm with rfl | hm
    · exact hw
    · exact h3 m hm
/-- A slice of bytes that came in: its bytes, its spare room's too. -/
theorem Arg.u8s {e : TypeId} (ht : P.underlying t = some (.slice e)) (he : P.underlying e = some (.int .u8)) (h : Arg P W t v) :
    ∃ a l c bs2, v = .slice a l c ∧ l ≤ c ∧ bs2.length = c ∧ CellsAt (heapM W) a (u8s bs2) ∧ CellsAt (heapM W) a (u8s (bs2.take l)) := by
  obtain ⟨a, l, c, rfl, h1, _, es, h2, h3, h4⟩ := h.sl ht
  obtain ⟨bs, h5, h6⟩ := es_u8 he (fun x hx => (h3 x hx).2)
  rw [h6] at h4
  refine ⟨a, l, c, bs, rfl, h1, by omega, h4, ?_⟩
  have : Go.H.u8s bs = Go.H.u8s (bs.take l) ++ Go.H.u8s (bs.drop l) := by simp [Go.H.u8s]
  rw [this] at h4
  exact h4.left
/-- A slice of numbers that came in. -/
theorem Arg.nums {e : TypeId} {k : IntKind} (ht : P.underlying t = some (.slice e)) (he : P.underlying e = some (.int k)) (h : Arg P W t v) :
    ∃ a l c xs, v = .slice a l c ∧ l ≤ c ∧ List.length xs = l ∧ CellsAt (heapM W) a (xs.map fun n => Value.int k n) ∧ ∀ n ∈ xs, (Lit.int k n).wf = true := by
  obtain ⟨a, l, c, rfl, h1, _, es, h2, h3, h4⟩ := h.sl ht
  obtain ⟨xs, h5, h6, h7⟩ := es_int he (fun x hx => (h3 x hx).2)
  rw [h6] at h4
  refine ⟨a, l, c, xs.take l, rfl, h1, by simp; omega, ?_, fun n hn => h7 n (List.mem_of_mem_take hn)⟩
  rw [← List.take_append_drop l xs, List.map_append] at h4
  exact h4.left
theorem Rd.u8s {e : TypeId} (ht : P.underlying t = some (.slice e)) (he : P.underlying e = some (.int .u8)) (h : Rd P W t cs) :
    ∃ a l c bs, cs = [.slice a l c] ∧ l ≤ c ∧ bs.length = l ∧ CellsAt (heapM W) a (u8s bs) := by
  obtain ⟨a, l, c, rfl, h1, _, es, h2, h3, h4⟩ := h.sl ht
  obtain ⟨bs, h5, h6⟩ := es_u8 he (fun x hx => (h3 x hx).2)
  rw [h6] at h4
  refine ⟨a, l, c, bs.take l, rfl, h1, by simp; omega, ?_⟩
  have : Go.H.u8s bs = Go.H.u8s (bs.take l) ++ Go.H.u8s (bs.drop l) := by simp [Go.H.u8s]
  rw [this] at h4
  exact h4.left
end
end Go.H
