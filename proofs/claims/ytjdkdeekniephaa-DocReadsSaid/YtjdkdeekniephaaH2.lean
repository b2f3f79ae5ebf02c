/- Operations over an environment and a map: each is told as it is read (typed), and the machine's own operation meets it. -/
import Derived.Tactics
import Derived.Test.YtjdkdeekniephaaH1
namespace Go.H

abbrev Env := Nat → Value
def upd (ρ : Env) (t : Nat) (v : Value) : Env := fun s => bif Nat.beq s t then v else ρ s
def putE (ρ : Env) : Option Tmp → Value → Env
  | some d, v => upd ρ d v
  | none, _ => ρ
def evr (ρ : Env) : Operand → Value
  | .tmp t => ρ t
  | .const v => v
  | .global g => .pointer (some ⟨g, 0, none⟩)
  | .func f => .func (.func f) #[] #[]

theorem upd_same (ρ : Env) (t : Nat) (v : Value) : upd ρ t v t = v := by simp [upd]
theorem upd_self {ρ : Env} {t : Nat} {v : Value} (h : ρ t = v) : upd ρ t v = ρ := by
  funext s
  unfold upd
  cases hb : Nat.beq s t with
  | true => simp [Nat.eq_of_beq_eq_true hb, h]
  | false => simp

/-- What stays as it is while a function's code runs: what it has deferred, and the temporaries below a bound. -/
structure DS where
  l : List Deferred
  lo : Nat
  z : Nat → Value
structure Ag (n : Nat) (ds : DS) (ρ : Env) (a : Act) : Prop where
  size : a.tmps.size = n
  get : ∀ t, a.tmps.getD t undef = ρ t
  defers : a.defers = ds.l
  keep : ∀ t, t < ds.lo → ρ t = ds.z t
theorem Ag.pan {n : Nat} {ds : DS} {ρ : Env} {a : Act} (h : Ag n ds ρ a) : a.defers = ds.l ∧ ∀ t, t < ds.lo → a.tmps.getD t undef = ds.z t :=
  ⟨h.defers, fun t ht => (h.get t).trans (h.keep t ht)⟩

def dstOk (lo n : Nat) (o : Oper) : Bool :=
  match o.dst with
  | some d => Nat.ble lo d && Nat.blt d n
  | none => true

section
variable {n : Nat} {ds : DS} {ρ : Env} {a : Act}
theorem Ag.eval (h : Ag n ds ρ a) : a.eval = evr ρ := by
  funext x
  cases x <;> simp [Act.eval, evr, h.get]
theorem Ag.put (h : Ag n ds ρ a) {dst : Option Tmp} (hd : ∀ d, dst = some d → ds.lo ≤ d ∧ d < n) (v : Value) : Ag n ds (putE ρ dst v) (a.put dst v) := by
  cases dst with
  | none => exact h
  | some d =>
    obtain ⟨hlo, hlt⟩ := hd d rfl
    refine ⟨by simp [Act.put, h.size], fun t => ?_, by simp [Act.put, h.defers], fun t ht => ?_⟩
    rotate_left
    · have : Nat.beq t d = false := by
        cases hb : Nat.beq t d with
        | false => rfl
        | true => exact absurd (Nat.eq_of_beq_eq_true hb) (by omega)
      simp only [putE, upd, this, cond_false]
      exact h.keep t ht
    simp only [Act.put, putE, upd]
    have hsz := h.size
    by_cases e : t = d
    · subst e
      simp [hsz, hlt]
    · have : Nat.beq t d = false := by
        cases hb : Nat.beq t d with
        | false => rfl
        | true => exact absurd (Nat.eq_of_beq_eq_true hb) e
      have e' : ¬ d = t := fun x => e x.symm
      rw [this]
      show _ = ρ t
      rw [← h.get t]
      simp [e']
theorem dst_lt {o : Oper} (h : dstOk ds.lo n o = true) : ∀ d, o.dst = some d → ds.lo ≤ d ∧ d < n := by
  intro d hd
  simpa [dstOk, hd] using h
end

/-! ### the shapes of values -/
inductive Kd where
  | bool | int (k : IntKind) | str | ptr | sl | map | any

abbrev UnB (v : Value) (K : Bool → Prop) : Prop := match v with | .bool b => K b | _ => False
abbrev UnI (v : Value) (k : IntKind) (K : Int → Prop) : Prop := match v with | .int k' x => (match decEq k' k with | isTrue _ => K x | isFalse _ => False) | _ => False
abbrev UnStr (v : Value) (K : ByteArray → Prop) : Prop := match v with | .string s => K s | _ => False
abbrev UnP (v : Value) (K : Option Addr → Prop) : Prop := match v with | .pointer a => K a | _ => False
abbrev UnS (v : Value) (K : Option Addr → Nat → Nat → Prop) : Prop := match v with | .slice a l c => K a l c | _ => False
abbrev UnM (v : Value) (K : Option Nat → Prop) : Prop := match v with | .map r => K r | _ => False
abbrev UnAgg (v : Value) (K : List Value → Prop) : Prop := match v with | .agg cs => K cs.toList | _ => False
abbrev UnTup (v : Value) (K : List Value → Prop) : Prop := match v with | .tuple cs => K cs.toList | _ => False
abbrev UnCons (l : List Value) (K : Value → List Value → Prop) : Prop := match l with | x :: r => K x r | [] => False
abbrev UnNil (l : List Value) (K : Prop) : Prop := match l with | [] => K | _ :: _ => False

def un1 (kd : Kd) (v : Value) (K : Value → Prop) : Prop :=
  match kd with
  | .bool => UnB v fun x => K (.bool x)
  | .int k => UnI v k fun x => K (.int k x)
  | .str => UnStr v fun x => K (.string x)
  | .ptr => UnP v fun a => K (.pointer a)
  | .sl => UnS v fun a l c => K (.slice a l c)
  | .map => UnM v fun r => K (.map r)
  | .any => K v

theorem un1_sound {kd : Kd} {v : Value} {K : Value → Prop} (h : un1 kd v K) : K v := by
  cases kd <;> simp only [un1] at h
  case bool => cases v <;> first | exact h | exact h.elim
  case int k =>
    cases v <;> try exact h.elim
    case int k' x =>
      simp only [UnI] at h
      split at h
      · rename_i e _; subst e; exact h
      · exact h.elim
  case str => cases v <;> first | exact h | exact h.elim
  case ptr => cases v <;> first | exact h | exact h.elim
  case sl => cases v <;> first | exact h | exact h.elim
  case map => cases v <;> first | exact h | exact h.elim
  case any => exact h

def unL : List Kd → List Value → (List Value → Prop) → Prop
  | [], l, K => UnNil l (K [])
  | kd :: r, l, K => UnCons l fun v t => un1 kd v fun v' => unL r t fun vs => K (v' :: vs)
theorem unL_sound : ∀ (ks : List Kd) (l : List Value) (K : List Value → Prop), unL ks l K → K l
  | [], l, K, h => by cases l <;> first | exact h | exact h.elim
  | kd :: r, l, K, h => by
    cases l with
    | nil => exact h.elim
    | cons v t => exact unL_sound r t (fun vs => K (v :: vs)) (un1_sound (K := fun v' => unL r t fun vs => K (v' :: vs)) h)

def kd1 : TypeDesc → Kd
  | .bool => .bool
  | .int k => .int k
  | .string => .str
  | .pointer _ => .ptr
  | .slice _ => .sl
  | .map _ _ => .map
  | _ => .any

def isAggD : TypeDesc → Bool
  | .struct _ | .array _ _ => true
  | _ => false

/-- The cells of a type, kind by kind. -/
def kds (P : Program) : Nat → TypeId → List Kd
  | 0, _ => []
  | f + 1, t =>
    match P.underlying t with
    | some (.struct fs) => fs.toList.flatMap fun fd => kds P f fd.type
    | some (.array n e) => (List.replicate n (kds P f e)).flatten
    | some d => [kd1 d]
    | none => []

def szOf (P : Program) (t : TypeId) : Nat := ((P.info? t).map (·.size)).getD 0
def infoOk (P : Program) (t : TypeId) (n : Nat) : Bool :=
  match P.info? t with
  | some i => Nat.beq i.size n
  | none => false

/-- A result, typed. -/
def unT (P : Program) (f : Nat) (t : TypeId) (v : Value) (K : Value → Prop) : Prop :=
  match P.underlying t with
  | some d => bif isAggD d then UnAgg v fun l => unL (kds P f t) l fun vs => K (.agg vs.toArray) else un1 (kd1 d) v K
  | none => False
theorem unT_sound {P : Program} {f : Nat} {t : TypeId} {v : Value} {K : Value → Prop} (h : unT P f t v K) : K v := by
  unfold unT at h
  split at h
  · rename_i d _
    cases hd : isAggD d with
    | true =>
      simp only [hd, cond_true] at h
      cases v <;> try exact h.elim
      case agg cs => simpa using unL_sound _ _ _ h
    | false => simp only [hd, cond_false] at h; exact un1_sound h
  · exact h.elim
def unTs (P : Program) : List TypeId → List Value → (List Value → Prop) → Prop
  | [], l, K => UnNil l (K [])
  | t :: r, l, K => UnCons l fun v s => unT P 20 t v fun v' => unTs P r s fun vs => K (v' :: vs)
theorem unTs_sound {P : Program} : ∀ (ts : List TypeId) (l : List Value) (K : List Value → Prop), unTs P ts l K → K l
  | [], l, K, h => by cases l <;> first | exact h | exact h.elim
  | t :: r, l, K, h => by
    cases l with
    | nil => exact h.elim
    | cons v s => exact unTs_sound r s (fun vs => K (v :: vs)) (unT_sound (K := fun v' => unTs P r s fun vs => K (v' :: vs)) h)
/-- What a call hands back, of the operation's type. -/
def unR (P : Program) (t : TypeId) (v : Value) (K : Value → Prop) : Prop :=
  match P.underlying t with
  | some (.tuple ts) => UnTup v fun l => unTs P ts.toList l fun vs => K (.tuple vs.toArray)
  | _ => unT P 20 t v K
theorem unR_sound {P : Program} {t : TypeId} {v : Value} {K : Value → Prop} (h : unR P t v K) : K v := by
  unfold unR at h
  split at h
  · cases v <;> try exact h.elim
    case tuple cs => simpa using unTs_sound _ _ _ h
  · exact unT_sound h

/-! ### loads and stores -/
def LdV (m : Mem) (b o : Nat) (K : Value → Prop) : Prop := match m.cell b o with | some v => K v | none => False
def ldL (m : Mem) (b o : Nat) : Nat → List Kd → (List Value → Prop) → Prop
  | _, [], K => K []
  | i, kd :: r, K => LdV m b (o + i) fun v => un1 kd v fun v' => ldL m b o (i + 1) r fun vs => K (v' :: vs)
def ldT (P : Program) (t : TypeId) (m : Mem) (b o : Nat) (K : Value → Prop) : Prop :=
  match P.underlying t with
  | some d =>
    bif isAggD d then
      bif infoOk P t (kds P 20 t).length then ldL m b o 0 (kds P 20 t) fun vs => K (.agg vs.toArray) else False
    else LdV m b o fun v => un1 (kd1 d) v K
  | none => False

theorem LdV.get {m : Mem} {b o : Nat} {K : Value → Prop} (h : LdV m b o K) : ∃ v, m.cell b o = some v ∧ K v := by
  unfold LdV at h
  split at h
  · rename_i v hv; exact ⟨v, hv, h⟩
  · exact h.elim
theorem LdV.mk {m : Mem} {b o : Nat} {K : Value → Prop} {v : Value} (hv : m.cell b o = some v) (h : K v) : LdV m b o K := by
  unfold LdV; rw [hv]; exact h

theorem ldL_sound {m : Mem} {b o : Nat} : ∀ (ks : List Kd) (i : Nat) (K : List Value → Prop), ldL m b o i ks K →
    ∃ vs, K vs ∧ vs.length = ks.length ∧ ∀ j u, vs[j]? = some u → m.cell b (o + (i + j)) = some u
  | [], i, K, h => ⟨[], h, rfl, fun j u hu => by simp at hu⟩
  | kd :: r, i, K, h => by
    obtain ⟨v, hv, h⟩ := LdV.get h
    obtain ⟨vs, hK, hl, hc⟩ := ldL_sound r (i + 1) _ (un1_sound h)
    refine ⟨v :: vs, hK, by simp [hl], fun j u hu => ?_⟩
    cases j with
    | zero => simp at hu; subst hu; exact hv
    | succ j =>
      have := hc j u (by simpa using hu)
      rw [show o + (i + (j + 1)) = o + (i + 1 + j) by omega]; exact this

theorem loadCells_run {P : Program} {w : World} {m : Mem} (hf : Fit m w) {b o : Nat} : ∀ (vs : List Value) (i : Nat) (acc : Array Value),
    (∀ j u, vs[j]? = some u → m.cell b (o + (i + j)) = some u) → (loadCellsFrom ⟨b, o, none⟩ i vs.length acc).run P w = .ok (acc ++ vs.toArray) w
  | [], i, acc, _ => by simp [loadCellsFrom]
  | v :: vs, i, acc, h => by
    have h0 : w.cell? ((⟨b, o, none⟩ : Addr).add i) = some v := by
      have hc := h 0 v (by simp)
      have e : (⟨b, o, none⟩ : Addr).add i = ⟨b, o + i, none⟩ := by
        unfold Addr.add; split <;> simp_all
      rw [e]
      exact cell?_of hf rfl (by simpa using hc)
    have ih := loadCells_run (P := P) hf vs (i + 1) (acc.push v) (fun j u hu => by
      have := h (j + 1) u (by simpa using hu)
      rw [show o + (i + 1 + j) = o + (i + (j + 1)) by omega]; exact this)
    simp only [List.length_cons, loadCellsFrom]
    rw [Sem.run_bind]
    simp only [run_load, h0, Result.andThen_ok, ih]
    simp

theorem isAgg_run {P : Program} {t : TypeId} {d : TypeDesc} (h : P.underlying t = some d) (w : World) : (isAgg t).run P w = .ok (isAggD d) w := by
  have : (underlying t).run P w = .ok d w := by
    show (Sem.program _).run P w = _
    simp [Sem.run, h, Sem.bind, pure]
  unfold isAgg
  rw [Sem.run_bind, this]
  simp only [Result.andThen_ok]
  cases d <;> rfl

theorem typeInfo_run {P : Program} {t : TypeId} {i : TypeInfo} (h : P.info? t = some i) (w : World) : (typeInfo t).run P w = .ok i w := by
  show (Sem.program _).run P w = _
  simp [Sem.run, h, Sem.bind, pure]
theorem sizeOf_run {P : Program} {t : TypeId} {n : Nat} (h : infoOk P t n = true) (w : World) : (Go.sizeOf t).run P w = .ok n w := by
  unfold infoOk at h
  cases hi : P.info? t with
  | none => simp [hi] at h
  | some i =>
    rw [hi] at h
    have : i.size = n := Nat.eq_of_beq_eq_true h
    unfold Go.sizeOf
    rw [Sem.run_bind, typeInfo_run hi]
    simp [this]

theorem ldT_sound {P : Program} {t : TypeId} {m : Mem} {b o : Nat} {K : Value → Prop} (h : ldT P t m b o K) :
    ∃ v, K v ∧ ∀ w, Fit m w → (loadVar t ⟨b, o, none⟩).run P w = .ok v w := by
  unfold ldT at h
  split at h
  · rename_i d hd
    cases ha : isAggD d with
    | false =>
      simp only [ha, cond_false] at h
      obtain ⟨v, hv, h⟩ := LdV.get h
      refine ⟨v, un1_sound h, fun w hf => ?_⟩
      unfold loadVar
      rw [Sem.run_bind, isAgg_run hd, ha]
      simp only [Result.andThen_ok]
      have : w.cell? ⟨b, o, none⟩ = some v := cell?_of hf rfl hv
      simp [run_load, this]
    | true =>
      simp only [ha, cond_true] at h
      cases hi : infoOk P t (kds P 20 t).length with
      | false => rw [hi] at h; exact h.elim
      | true =>
        rw [hi] at h; simp only [cond_true] at h
        obtain ⟨vs, hK, hl, hc⟩ := ldL_sound _ _ _ h
        refine ⟨.agg vs.toArray, hK, fun w hf => ?_⟩
        unfold loadVar
        rw [Sem.run_bind, isAgg_run hd, ha]
        simp only [Result.andThen_ok, if_true]
        have hsz : (Go.sizeOf t).run P w = .ok vs.length w := by
          rw [hl]; exact sizeOf_run hi w
        rw [Sem.run_bind, hsz, Result.andThen_ok, Sem.run_bind]
        simp only [loadCells]
        rw [loadCells_run hf vs 0 #[] (by simpa using hc)]
        simp
  · exact h.elim

/-- One cell is written. -/
def St1 (m : Mem) (b o : Nat) (v : Value) (K : Mem → Prop) : Prop :=
  match m b with
  | some (.cells c e (lo, hi)) => o < c.size ∧ notOne v = false ∧ (lo ≤ o && o < hi) = false ∧ K (m.set b (.cells (c.setIfInBounds o v) e (lo, hi)))
  | _ => False
def stL (b o : Nat) : Nat → List Value → (Mem → Prop) → Mem → Prop
  | _, [], K, m => K m
  | i, v :: r, K, m => St1 m b (o + i) v (stL b o (i + 1) r K)

end Go.H
