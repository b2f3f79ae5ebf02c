/- One operation: what it asks of the environment and the map; that the machine's operation meets it. -/
import Derived.Test.YtjdkdeekniephaaH2
import Derived.Laws.StructEq
namespace Go.H

/-- Either way by a Bool; written out where the Bool is. -/
def Br (b : Bool) (A B : Prop) : Prop := match b with | true => A | false => B
theorem Br.mk {b : Bool} {A B : Prop} (h : b = true → A) (k : b = false → B) : Br b A B := by
  cases b
  · exact k rfl
  · exact h rfl
theorem Br.t {b : Bool} {A B : Prop} (hb : b = true) (h : A) : Br b A B := by subst hb; exact h
theorem Br.f {b : Bool} {A B : Prop} (hb : b = false) (h : B) : Br b A B := by subst hb; exact h
abbrev NilC (a : Option Addr) (K : Nat → Nat → Prop) (N : Prop) : Prop := match a with | some ⟨b, o, none⟩ => K b o | none => N | _ => False
def IxS (a : Option Addr) (len : Nat) (i : Int) (sz : Nat) (K : Nat → Nat → Prop) : Prop :=
  0 ≤ i ∧ i < len ∧ match a with | some ⟨b, o, none⟩ => K b (o + i.toNat * sz) | _ => False
def bt (s : ByteArray) (i : Int) : Int := ((s.data.getD i.toNat 0).toNat : Int)
def IxB (s : ByteArray) (i : Int) (K : Int → Prop) : Prop := 0 ≤ i ∧ i < s.size ∧ K (bt s i)
def SlB (s : ByteArray) (l h : Int) (K : ByteArray → Prop) : Prop := 0 ≤ l ∧ l ≤ h ∧ h ≤ s.size ∧ K (s.extract l.toNat h.toNat)
def shf (a : Option Addr) (l sz cap : Nat) : Option Addr := if cap = l then a else a.map (·.add (l * sz))
def SlS (a : Option Addr) (cap : Nat) (l h : Int) (sz : Nat) (K : Option Addr → Nat → Nat → Prop) : Prop :=
  0 ≤ l ∧ l ≤ h ∧ h ≤ cap ∧ K (shf a l.toNat sz cap) (h.toNat - l.toNat) (cap - l.toNat)
def NzI (b : Int) (A : Prop) : Prop := match b with | .ofNat 0 => False | _ => A
def NnI (b : Int) (A : Prop) : Prop := match b with | .negSucc _ => False | _ => A
def CatB (x y : ByteArray) (A : Prop) : Prop := x.size + y.size ≤ 9223372036854775807 ∧ A
theorem NzI.mk {b : Int} {A : Prop} (h : b ≠ 0) (hA : A) : NzI b A := by
  unfold NzI; split <;> first | (exact absurd rfl h) | exact hA
theorem NzI.ne {b : Int} {A : Prop} (h : NzI b A) : b ≠ 0 ∧ A := by
  unfold NzI at h
  split at h
  · exact h.elim
  · rename_i hn; exact ⟨fun e => hn (by subst e; rfl), h⟩
theorem NnI.mk {b : Int} {A : Prop} (h : 0 ≤ b) (hA : A) : NnI b A := by
  unfold NnI; split <;> first | (exact absurd h (by omega)) | exact hA
theorem NnI.nn {b : Int} {A : Prop} (h : NnI b A) : 0 ≤ b ∧ A := by
  unfold NnI at h
  split at h
  · exact h.elim
  · rename_i hn
    refine ⟨?_, h⟩
    cases b with
    | ofNat k => exact Int.natCast_nonneg k
    | negSucc k => exact absurd rfl (hn k)

/-- Cells that lie where a slice's address says. -/
def CellsAt (m : Mem) (a : Option Addr) (vs : List Value) : Prop :=
  match a with
  | some ⟨b, o, none⟩ => ∀ j u, vs[j]? = some u → m.cell b (o + j) = some u
  | _ => vs = []
theorem CellsAt.cases {m : Mem} {a : Option Addr} {vs : List Value} (h : CellsAt m a vs) : (∃ b o, a = some ⟨b, o, none⟩ ∧ ∀ j u, vs[j]? = some u → m.cell b (o + j) = some u) ∨ (vs = [] ∧ (∀ b o, a ≠ some ⟨b, o, none⟩)) := by
  unfold CellsAt at h
  split at h
  · rename_i b o; exact .inl ⟨b, o, rfl, h⟩
  · rename_i hn; exact .inr ⟨h, fun b o e => hn b o e⟩
theorem CellsAt.empty (m : Mem) (a : Option Addr) : CellsAt m a [] := by
  unfold CellsAt
  split
  · intro j u hu; simp at hu
  · rfl
def u8s (bs : List UInt8) : List Value := bs.map fun b => Value.int .u8 b.toNat
/-- 'string(bytes)'. -/
def B2S (m : Mem) (a : Option Addr) (len : Nat) (K : ByteArray → Prop) : Prop :=
  ∃ bs : List UInt8, bs.length = len ∧ CellsAt m a (u8s bs) ∧ K ⟨bs.toArray⟩
/-- '[]byte(string)'. -/
def S2B (m : Mem) (e : TypeId) (s : ByteArray) (K : Value → Mem → Prop) : Prop :=
  ∀ cap b, s.size ≤ cap → m b = none → K (.slice (some ⟨b, 0, none⟩) s.size cap) (m.set b (.cells ((u8s s.data.toList ++ List.replicate (cap - s.size) (Value.int .u8 0)).toArray) e (cap, cap + 1)))
def isU8 (P : Program) (t : TypeId) : Bool := match P.underlying t with | some (.int .u8) => true | _ => false
def isPtrT (P : Program) (t : TypeId) : Bool := match P.underlying t with | some (.pointer _) => true | _ => false
def isSlT (P : Program) (t : TypeId) : Bool := match P.underlying t with | some (.slice _) => true | _ => false
def isMapT (P : Program) (t : TypeId) : Bool := match P.underlying t with | some (.map _ _) => true | _ => false

def sameK (k k' : IntKind) (A : Prop) : Prop := match decEq k k' with | isTrue _ => A | isFalse _ => False
theorem sameK.eq {k k' : IntKind} {A : Prop} (h : sameK k k' A) : k = k' ∧ A := by
  unfold sameK at h; split at h
  · rename_i e _; exact ⟨e, h⟩
  · exact h.elim

/-- An operand that names an int, or none: what stands for it. -/
def oInt (ρ : Env) (x : Option Operand) (d : Int) (K : Int → Prop) : Prop :=
  match x with
  | none => K d
  | some x => match evr ρ x with | .int _ i => K i | _ => False

def isValue (K : Value → Prop) : Next → Prop
  | .value v => K v
  | _ => False


/-! ### '==' of structs and arrays of plain cells -/
def eqV : Value → Value → Bool
  | .bool a, .bool b => a == b
  | .int _ a, .int _ b => a == b
  | .string a, .string b => a.toList == b.toList
  | _, _ => false
def eqL : List Value → List Value → Bool
  | x :: xs, y :: ys => eqV x y && eqL xs ys
  | _, _ => true
/-- Two cells of the plain type t. -/
def eqC (P : Program) (t : TypeId) (x y : Value) : Bool :=
  match P.underlying t, x, y with
  | some .bool, .bool _, .bool _ => true
  | some (.int _), .int k _, .int k' _ => decide (k = k')
  | some .string, .string _, .string _ => true
  | _, _, _ => false
def eqF (P : Program) : List Field → Nat → List Value → List Value → Bool
  | [], _, [], [] => true
  | f :: fs, i, x :: xs, y :: ys => (f.name != "_") && Nat.beq f.offset i && eqC P f.type x y && eqF P fs (i + 1) xs ys
  | _, _, _, _ => false
def eqA (P : Program) (e : TypeId) : List Value → List Value → Bool
  | [], [] => true
  | x :: xs, y :: ys => eqC P e x y && eqA P e xs ys
  | _, _ => false
def eqOk (P : Program) (t : TypeId) (xs ys : List Value) : Bool :=
  !(P.eqGuardType P.depth t) && match P.underlying t with
  | some (.struct _) => !(P.stoodInHeld t) && eqF P (P.fieldsOf t).toList 0 xs ys
  | some (.array len e) => infoOk P e 1 && Nat.beq xs.length len && eqA P e xs ys
  | _ => false

section
variable (P : Program)
/-- An array's cells that are all integers of one kind. -/
def allI (k : IntKind) : List Value → (List Int → Prop) → Prop
  | [], f => f []
  | v :: r, f => UnI v k fun x => allI k r fun xs => f (x :: xs)
abbrev IxI (l : List Int) (i : Int) (K : Int → Prop) : Prop := 0 ≤ i ∧ i < (l.length : Nat) ∧ K (l.getD i.toNat 0)
/-- An array's part by a variable index. -/
def IxV (i : Operand) (len : Nat) (e : TypeId) (cs : List Value) (j : Int) (K : Value → Prop) (other : Prop) : Prop :=
  match i with
  | .tmp _ =>
    match P.underlying e with
    | some (.int k) => bif infoOk P e 1 then allI k cs fun l => bif Nat.beq l.length len then IxI l j fun x => K (.int k x) else False else False
    | _ => False
  | _ => other
theorem allI_sound {k : IntKind} : ∀ {l : List Value} {f : List Int → Prop}, allI k l f → ∃ xs : List Int, l = xs.map (fun x => Value.int k x) ∧ f xs
  | [], f, h => ⟨[], rfl, h⟩
  | v :: r, f, h => by
    unfold allI UnI at h
    split at h
    · split at h
      · rename_i k' x _ e _
        subst e
        obtain ⟨xs, hr, hf⟩ := allI_sound h
        exact ⟨x :: xs, by rw [hr]; rfl, hf⟩
      · exact h.elim
    · exact h.elim
theorem allI_mono {k : IntKind} : ∀ {l : List Value} {f f' : List Int → Prop}, (∀ xs, f xs → f' xs) → allI k l f → allI k l f'
  | [], f, f', g, h => g _ h
  | v :: r, f, f', g, h => by
    unfold allI UnI at h ⊢
    split at h
    · split at h
      · exact allI_mono (fun xs => g _) h
      · exact h.elim
    · exact h.elim
/-- A quiet operation: it reads, and answers one value. -/
def qval (ρ : Env) (m : Mem) (o : Oper) (K : Value → Prop) (N : Prop) : Prop :=
  match o.op with
  | .load t x => match evr ρ x with | .pointer (some ⟨b, i, none⟩) => ldT P t m b i K | _ => False
  | .nilCheck x => match evr ρ x with | .pointer a => NilC a (fun b i => K (.pointer (some ⟨b, i, none⟩))) N | _ => False
  | .indexAddr t x i =>
    match evr ρ i with
    | .int _ i =>
      match P.underlying t, evr ρ x with
      | some (.slice e), .slice a len _ => bif infoOk P e (szOf P e) then IxS a len i (szOf P e) fun b j => K (.pointer (some ⟨b, j, none⟩)) else False
      | some (.array len e), .pointer (some ⟨b, o, none⟩) => bif infoOk P e (szOf P e) then 0 ≤ i ∧ i < len ∧ K (.pointer (some ⟨b, o + i.toNat * szOf P e, none⟩)) else False
      | _, _ => False
    | _ => False
  | .index t x i =>
    match evr ρ x, evr ρ i, P.underlying t with
    | .string s, .int _ i, some .string => IxB s i fun v => K (.int .u8 v)
    | .agg cs, .int _ j, some (.array len e) => IxV P i len e cs.toList j K (pq P (execOp (evr ρ) o) (isValue K) m)
    | _, _, _ => pq P (execOp (evr ρ) o) (isValue K) m
  | .slice t x lo hi none =>
    match P.underlying t, evr ρ x with
    | some .string, .string s => oInt ρ lo 0 fun l => oInt ρ hi s.size fun h => SlB s l h fun r => K (.string r)
    | some (.slice e), .slice a len cap => bif infoOk P e (szOf P e) then oInt ρ lo 0 fun l => oInt ρ hi len fun h => SlS a cap l h (szOf P e) fun a l c => K (.slice a l c) else False
    | _, _ => False
  | .binOp op ty x y _ =>
    match op, evr ρ x, evr ρ y with
    | .quo, .int k a, .int k' b => sameK k k' (NzI b (K (.int k (k.wrap (a.tdiv b)))))
    | .rem, .int k a, .int k' b => sameK k k' (NzI b (K (.int k (a.tmod b))))
    | .shl, .int k a, .int _ b => NnI b (K (.int k (k.wrap (a * 2 ^ min b.toNat k.bits))))
    | .shr, .int k a, .int _ b => NnI b (K (.int k (a.fdiv (2 ^ min b.toNat k.bits))))
    | .add, .string a, .string b => CatB a b (K (.string (a ++ b)))
    | .eql, .pointer a, .pointer none => bif isPtrT P ty then K (.bool a.isNone) else False
    | .neq, .pointer a, .pointer none => bif isPtrT P ty then K (.bool (!a.isNone)) else False
    | .eql, .slice a _ _, .slice none _ _ => bif isSlT P ty then K (.bool a.isNone) else False
    | .neq, .slice a _ _, .slice none _ _ => bif isSlT P ty then K (.bool (!a.isNone)) else False
    | .eql, .map a, .map none => bif isMapT P ty then K (.bool a.isNone) else False
    | .neq, .map a, .map none => bif isMapT P ty then K (.bool (!a.isNone)) else False
    | .eql, .agg xs, .agg ys => bif eqOk P ty xs.toList ys.toList then K (.bool (eqL xs.toList ys.toList)) else False
    | .neq, .agg xs, .agg ys => bif eqOk P ty xs.toList ys.toList then K (.bool (!(eqL xs.toList ys.toList))) else False
    | _, _, _ => pq P (execOp (evr ρ) o) (isValue K) m
  | .lookup .. => pq P (execOp (evr ρ) o) (isValue fun v => unR P o.type v K) m
  | .convert src dst x =>
    match P.underlying src, P.underlying dst, evr ρ x with
    | some (.slice e), some .string, .slice a len _ => bif isU8 P e then B2S m a len (fun s => K (.string s)) else False
    | _, _, _ => pq P (execOp (evr ρ) o) (isValue K) m
  | _ => pq P (execOp (evr ρ) o) (isValue K) m

/-- A call that enters function f. -/
def HE (f : FuncId) (args : Array Value) (m : Mem) (R : Ending → Mem → Prop) : Prop :=
  (∀ w, (callFunc f args).run P w = .ok (.enter f args) w) ∧
  ∀ w, Fit m w → Calls P f args w fun e w' => ∃ m', e ≠ .outgrown ∧ R e m' ∧ Fit m' w' ∧ Fr m m' w w'
/-- A call of function f: it is entered, or has no body and answers at once. -/
def HC (f : FuncId) (args : Array Value) (m : Mem) (R : Ending → Mem → Prop) : Prop :=
  HE P f args m R ∨ pt P (callFunc f args) (fun nx m' => match nx with | .value v => R (.returned v) m' | _ => False) (fun v m' => R (.panicked [{ v := v, recovered := false }]) m') m
end

/-- What goes on behind a call. -/
abbrev Cont (K : Value → Mem → Prop) (Pn : List PanicEntry → Mem → Prop) : Ending → Mem → Prop
  | .returned v, m => K v m
  | .panicked c, m => Pn c m
  | .outgrown, _ => False

abbrev nextP (P : Program) (K : Value → Mem → Prop) (Pn : List PanicEntry → Mem → Prop) : Next → Mem → Prop
  | .value v, m => K v m
  | .skip, m => K undef m
  | .enter f args, m => HE P f args m (Cont K Pn)
  | _, _ => False

def nilPanic (P : Program) : List PanicEntry := [{ v := .iface P.rt.errorString (strVal "invalid memory address or nil pointer dereference"), recovered := false }]

section
variable (P : Program)
/-- A loud operation: it writes, makes memory, or calls. -/
def nval (ρ : Env) (m : Mem) (o : Oper) (K : Value → Mem → Prop) (Pn : List PanicEntry → Mem → Prop) : Prop :=
  match o.op with
  | .store t x y =>
    match evr ρ x with
    | .pointer (some ⟨b, i, none⟩) => bif infoOk P t (evr ρ y).cells.size then stL b i 0 (evr ρ y).cells.toList (K undef) m else False
    | _ => False
  | .call { callee := .value f, args, .. } =>
    match evr ρ f with
    | .func (.func g) first cap => HC P g (first ++ args.map (evr ρ) ++ cap) m (Cont (fun v m' => unR P o.type v fun v' => K v' m') Pn)
    | _ => False
  | .convert src dst x =>
    match P.underlying src, P.underlying dst, evr ρ x with
    | some .string, some (.slice e), .string s => bif isU8 P e then S2B m e s (fun v m' => unR P dst v fun v' => K v' m') else False
    | _, _, _ => pt P (execOp (evr ρ) o) (nextP P (fun v m' => unR P dst v fun v' => K v' m') Pn) (fun v m' => Pn [{ v := v, recovered := false }] m') m
  | .makeSlice t _ _ => pt P (execOp (evr ρ) o) (nextP P (fun v m' => unR P t v fun v' => K v' m') Pn) (fun v m' => Pn [{ v := v, recovered := false }] m') m
  | .call { callee := .builtin _, .. } => pt P (execOp (evr ρ) o) (nextP P (fun v m' => unR P o.type v fun v' => K v' m') Pn) (fun v m' => Pn [{ v := v, recovered := false }] m') m
  | _ => pt P (execOp (evr ρ) o) (nextP P K Pn) (fun v m' => Pn [{ v := v, recovered := false }] m') m

def quietB : Builtin → Bool
  | .len | .cap | .min | .max => true
  | _ => false
def quietOp (o : Op) : Bool :=
  match o with
  | .move _ | .assign _ | .pick .. | .build .. | .load .. | .nilCheck _ | .binOp .. | .unOp .. | .makeInterface .. | .makeFunc .. | .slice .. | .fieldAddr .. | .field .. | .indexAddr .. | .index .. | .extract .. | .lookup .. | .typeAssert .. => true
  | .convert _ dst _ => match P.underlying dst with | some (.slice _) => false | _ => true
  | .call { callee := .builtin b, .. } => quietB b
  | _ => false

/-- 'pick c a b': by the Bool, which is written out behind. -/
def pickP (ρ : Env) (d : Option Tmp) (c : Operand) (a b : Operand) (K : Env → Prop) : Prop :=
  match c with
  | .tmp t => match ρ t with
    | .bool x => Br x (K (putE (upd ρ t (.bool true)) d (evr ρ a))) (K (putE (upd ρ t (.bool false)) d (evr ρ b)))
    | _ => False
  | _ => False

/-- The guard: by the Bool, which is written out behind. -/
def guardP (ops : Array Oper) (ρ : Env) (o : Oper) (K : Env → Prop) (Sk : Env → Prop) : Prop :=
  match o.guard with
  | none => K ρ
  | some (j, want) =>
    match (ops[j]?).bind (·.dst) with
    | some d => match ρ d with
      | .bool b => match want with
        | true => Br b (K (upd ρ d (.bool true))) (Sk (upd ρ d (.bool false)))
        | false => Br b (Sk (upd ρ d (.bool true))) (K (upd ρ d (.bool false)))
      | .tuple _ => Sk ρ
      | _ => False
    | none => False

/-- One operation in the order of the text. -/
def oneP (ρ : Env) (m : Mem) (o : Oper) (K : Env → Mem → Prop) (Pn : List PanicEntry → Mem → Prop) : Prop :=
  match o.op with
  | .pick c a b => pickP ρ o.dst c a b fun ρ' => K ρ' m
  | _ => bif quietOp P o.op then qval P ρ m o (fun v => K (putE ρ o.dst v) m) (Pn (nilPanic P) m)
         else nval P ρ m o (fun v m' => K (putE ρ o.dst v) m') Pn

def hops (ops : Array Oper) (K : Env → Mem → Prop) (Pn : List PanicEntry → Mem → Prop) : List Oper → Env → Mem → Prop
  | [], ρ, m => K ρ m
  | o :: r, ρ, m => guardP ops ρ o (fun ρ' => oneP P ρ' m o (hops ops K Pn r) Pn) (fun ρ' => hops ops K Pn r (putE ρ' o.dst undef) m)
end

/-! ### what is asked is met -/
theorem under_run {P : Program} {t : TypeId} {d : TypeDesc} (h : P.underlying t = some d) (w : World) : (underlying t).run P w = .ok d w := by
  show (Sem.program _).run P w = _
  simp [Sem.run, h, Sem.bind, pure]

theorem infoOk_szOf {P : Program} {t : TypeId} (h : infoOk P t (szOf P t) = true) (w : World) : (Go.sizeOf t).run P w = .ok (szOf P t) w := sizeOf_run h w

theorem add_none (b o n : Nat) : (⟨b, o, none⟩ : Addr).add n = ⟨b, o + n, none⟩ := by
  unfold Addr.add; split <;> simp_all

def QOut (P : Program) (ρ : Env) (m : Mem) (o : Oper) (K : Value → Prop) (N : Prop) : Prop :=
  (∃ v, K v ∧ ∀ w, Fit m w → (execOp (evr ρ) o).run P w = .ok (.value v) w) ∨
  (N ∧ ∀ w, (execOp (evr ρ) o).run P w = .halt (.panic (.iface P.rt.errorString (strVal "invalid memory address or nil pointer dereference"))) w)

theorem oInt_some {ρ : Env} {x : Option Operand} {d : Int} {K : Int → Prop} (h : oInt ρ x d K) :
    ∃ i, K i ∧ ((x = none ∧ i = d) ∨ ∃ y k, x = some y ∧ evr ρ y = .int k i) := by
  unfold oInt at h
  split at h
  · exact ⟨d, h, .inl ⟨rfl, rfl⟩⟩
  · rename_i y
    split at h
    · rename_i k i hi; exact ⟨i, h, .inr ⟨y, k, rfl, hi⟩⟩
    · exact h.elim

theorem pq_val {P : Program} {ρ : Env} {m : Mem} {o : Oper} {K : Value → Prop} {N : Prop} (h : pq P (execOp (evr ρ) o) (isValue K) m) : QOut P ρ m o K N := by
  obtain ⟨nx, hK, hr⟩ := pq_sound P _ h
  cases nx <;> try exact hK.elim
  case value v => exact .inl ⟨v, hK, hr⟩

theorem run_v {P : Program} {s : Sem Value} {v : Value} {w : World} (h : s.run P w = .ok v w) : (do pure (Next.value (← s)) : Sem Next).run P w = .ok (.value v) w := by
  rw [Sem.run_bind, h]; rfl

theorem bt_get {s : ByteArray} {i : Int} (h : i.toNat < s.size) : bt s i = ((s[i.toNat]).toNat : Int) := by
  have h' : i.toNat < s.data.size := h
  unfold bt
  rw [Array.getD_eq_getD_getElem?, Array.getElem?_eq_getElem h']
  rfl

theorem sliceBound_ok {P : Program} {k : IntKind} {i : Int} {y : Nat} {c : BoundsCode} (h0 : 0 ≤ i) (h1 : i ≤ y) (w : World) : (Instr.sliceBound (.int k i) y c).run P w = .ok i.toNat w := by
  simp [Instr.sliceBound, asIntOf, h0, h1]

theorem sliceBounds_ok {P : Program} {isS : Bool} {len cap : Nat} {ρ : Env} {lo hi : Option Operand} {l h : Int}
    (hl : (lo = none ∧ l = 0) ∨ ∃ y k, lo = some y ∧ evr ρ y = .int k l) (hh : (hi = none ∧ h = len) ∨ ∃ y k, hi = some y ∧ evr ρ y = .int k h)
    (h0 : 0 ≤ l) (h1 : l ≤ h) (h2 : h ≤ cap) (w : World) :
    (Instr.sliceBounds isS len cap (lo.map (evr ρ)) (hi.map (evr ρ)) none).run P w = .ok (l.toNat, h.toNat, cap) w := by
  have hh0 : 0 ≤ h := Int.le_trans h0 h1
  have h1' : l ≤ (h.toNat : Int) := by omega
  unfold Instr.sliceBounds
  rcases hl with ⟨rfl, rfl⟩ | ⟨y, k, rfl, hy⟩ <;> rcases hh with ⟨rfl, rfl⟩ | ⟨y', k', rfl, hy'⟩
  · simp
  · simp [hy', sliceBound_ok hh0 h2]
  · have h1'' : l ≤ (len : Int) := h1
    simp [hy, sliceBound_ok h0 h1'']
  · simp [hy, hy', sliceBound_ok hh0 h2, sliceBound_ok h0 h1']

theorem eqIn_ptr {P : Program} {w : World} (d : Nat) {t e : TypeId} (a : Option Addr) (h : P.underlying t = some (.pointer e)) : (Op.equalIn (d + 1) t (.pointer a) (.pointer none)).run P w = .ok a.isNone w := by
  cases a <;> simp [Op.equalIn, under_run h]
theorem eqIn_sl {P : Program} {w : World} (d : Nat) {t e : TypeId} (a : Option Addr) (l c l' c' : Nat) (h : P.underlying t = some (.slice e)) : (Op.equalIn (d + 1) t (.slice a l c) (.slice none l' c')).run P w = .ok a.isNone w := by
  cases a <;> simp [Op.equalIn, under_run h]
theorem eqIn_map {P : Program} {w : World} (d : Nat) {t k e : TypeId} (a : Option Nat) (h : P.underlying t = some (.map k e)) : (Op.equalIn (d + 1) t (.map a) (.map none)).run P w = .ok a.isNone w := by
  cases a <;> simp [Op.equalIn, under_run h]
theorem eql_ptr_nil {P : Program} {t e : TypeId} {a : Option Addr} (h : P.underlying t = some (.pointer e)) (w : World) : (binOp .eql t (.pointer a) (.pointer none)).run P w = .ok (.bool (a.isNone)) w := by
  simp only [binOp]
  simp [Op.equal, Op.maxDepth, eqIn_ptr 9999 a h]
theorem neq_ptr_nil {P : Program} {t e : TypeId} {a : Option Addr} (h : P.underlying t = some (.pointer e)) (w : World) : (binOp .neq t (.pointer a) (.pointer none)).run P w = .ok (.bool (!a.isNone)) w := by
  simp only [binOp]
  simp [Op.equal, Op.maxDepth, eqIn_ptr 9999 a h]
theorem eql_sl_nil {P : Program} {t e : TypeId} {a : Option Addr} {l c l' c' : Nat} (h : P.underlying t = some (.slice e)) (w : World) : (binOp .eql t (.slice a l c) (.slice none l' c')).run P w = .ok (.bool (a.isNone)) w := by
  simp only [binOp]
  simp [Op.equal, Op.maxDepth, eqIn_sl 9999 a l c l' c' h]
theorem neq_sl_nil {P : Program} {t e : TypeId} {a : Option Addr} {l c l' c' : Nat} (h : P.underlying t = some (.slice e)) (w : World) : (binOp .neq t (.slice a l c) (.slice none l' c')).run P w = .ok (.bool (!a.isNone)) w := by
  simp only [binOp]
  simp [Op.equal, Op.maxDepth, eqIn_sl 9999 a l c l' c' h]
theorem eql_map_nil {P : Program} {t k e : TypeId} {a : Option Nat} (h : P.underlying t = some (.map k e)) (w : World) : (binOp .eql t (.map a) (.map none)).run P w = .ok (.bool (a.isNone)) w := by
  simp only [binOp]
  simp [Op.equal, Op.maxDepth, eqIn_map 9999 a h]
theorem neq_map_nil {P : Program} {t k e : TypeId} {a : Option Nat} (h : P.underlying t = some (.map k e)) (w : World) : (binOp .neq t (.map a) (.map none)).run P w = .ok (.bool (!a.isNone)) w := by
  simp only [binOp]
  simp [Op.equal, Op.maxDepth, eqIn_map 9999 a h]
theorem cond_ok {b : Bool} {A : Prop} (h : bif b then A else False) : b = true ∧ A := by
  cases b with
  | true => exact ⟨rfl, h⟩
  | false => exact h.elim

theorem forIn_bytes {P : Program} {w : World} {f : Value → ByteArray → Sem (ForInStep ByteArray)} (hf : ∀ (b : UInt8) s, f (.int .u8 b.toNat) s = pure (.yield (s.push b))) : ∀ (bs : List UInt8) (acc : ByteArray),
    (forIn (m := Sem) (u8s bs) acc f).run P w = .ok ⟨acc.data ++ bs.toArray⟩ w
  | [], acc => by simp [u8s]
  | b :: r, acc => by
    have ih := forIn_bytes (P := P) (w := w) hf r (acc.push b)
    simp only [u8s, List.map_cons, List.forIn_cons, hf]
    rw [Sem.run_bind]
    simp only [Sem.run_pure, Result.andThen_ok]
    refine ih.trans ?_
    congr 2
    simp [ByteArray.push]

theorem b2s_run {P : Program} {w : World} {m : Mem} (hf : Fit m w) {a : Option Addr} {len cap : Nat} {bs : List UInt8} (hl : bs.length = len) (hc : CellsAt m a (u8s bs)) :
    (Conv.bytesToString (.slice a len cap)).run P w = .ok (.string ⟨bs.toArray⟩) w := by
  rcases hc.cases with ⟨b, o, rfl, hx⟩ | ⟨hx, _⟩
  · have hlen : (u8s bs).length = len := by simp [u8s, hl]
    simp only [Conv.bytesToString]
    rw [Sem.run_bind, loadCells, ← hlen, loadCells_run (P := P) hf (u8s bs) 0 #[] (by simpa using hx), Result.andThen_ok]
    rw [Sem.run_bind, Array.empty_append]
    rw [List.forIn_toArray, forIn_bytes (P := P) (fun b s => by simp) bs ByteArray.empty]
    simp
  · have : bs = [] := by simpa [u8s] using hx
    subst this
    subst hl
    cases a <;> rfl


theorem eqC_run {P : Program} {t : TypeId} {x y : Value} (h : eqC P t x y = true) (d : Nat) (w : World) : (Op.equalIn (d + 1) t x y).run P w = .ok (eqV x y) w ∧ (∀ xs : Array Value, ∀ i, xs[i]? = some x → (part t xs i).run P w = .ok x w) ∧ ∀ xs : Array Value, ∀ i, xs[i]? = some y → (part t xs i).run P w = .ok y w := by
  unfold eqC at h
  have hp : ∀ {D : TypeDesc}, P.underlying t = some D → isAggD D = false → ∀ v : Value, ∀ xs : Array Value, ∀ i, xs[i]? = some v → (part t xs i).run P w = .ok v w := by
    intro D hD hg v xs i hv
    unfold part
    rw [Sem.run_bind, isAgg_run hD, hg]
    simp [hv]
  split at h
  · rename_i a b hu
    exact ⟨run_equalIn_bool' w d t _ _ hu, hp hu rfl _, hp hu rfl _⟩
  · rename_i k a k' b hu
    have hk := of_decide_eq_true h
    subst hk
    exact ⟨run_equalIn_int w d t _ _ _ _ hu, hp hu rfl _, hp hu rfl _⟩
  · rename_i a b hu
    exact ⟨run_equalIn_string w d t _ _ hu, hp hu rfl _, hp hu rfl _⟩
  · cases h

theorem eqF_run {P : Program} {w : World} (d : Nat) (xs ys : Array Value) : ∀ (fs : List Field) (i : Nat) (us vs : List Value), eqF P fs i us vs = true → xs.toList.drop i = us → ys.toList.drop i = vs →
    (Op.eqFields (d + 1) xs ys fs).run P w = .ok (eqL us vs) w
  | [], _, [], [], _, _, _ => by simp [Op.eqFields, eqL]
  | f :: fs, i, u :: us, v :: vs, h, hx, hy => by
    simp only [eqF, Bool.and_eq_true, bne_iff_ne, ne_eq] at h
    obtain ⟨⟨⟨h1, h2⟩, h3⟩, h4⟩ := h
    have hi := Nat.eq_of_beq_eq_true h2
    obtain ⟨r1, r2, r3⟩ := eqC_run h3 d w
    have gx : xs[i]? = some u := by
      have := congrArg (·[0]?) hx
      simpa [List.getElem?_drop] using this
    have gy : ys[i]? = some v := by
      have := congrArg (·[0]?) hy
      simpa [List.getElem?_drop] using this
    have ih := eqF_run (P := P) (w := w) d xs ys fs (i + 1) us vs h4 (by rw [← List.drop_drop, hx]; rfl) (by rw [← List.drop_drop, hy]; rfl)
    simp only [Op.eqFields, eqL]
    rw [if_pos h1, Sem.run_bind, hi, r2 xs i gx, Result.andThen_ok, Sem.run_bind, r3 ys i gy, Result.andThen_ok, Sem.run_bind, r1, Result.andThen_ok]
    cases he : eqV u v with
    | true => simpa using ih
    | false => simp
  | [], _, _ :: _, _, h, _, _ => by simp [eqF] at h
  | [], _, [], _ :: _, h, _, _ => by simp [eqF] at h
  | _ :: _, _, [], _, h, _, _ => by simp [eqF] at h
  | _ :: _, _, _ :: _, [], h, _, _ => by simp [eqF] at h


def eqElems (d : Nat) (e : TypeId) (n : Nat) (xs ys : Array Value) : List Nat → Sem Bool
  | [] => pure true
  | i :: is => do
    let a ← part e xs (i * n)
    let b ← part e ys (i * n)
    let r ← Op.equalIn d e a b
    if (!r) = true then pure false else eqElems d e n xs ys is
theorem run_equalIn_array {P : Program} {w : World} (d : Nat) (t e : TypeId) (len n : Nat) (xs ys : Array Value) (ht : P.underlying t = some (.array len e)) (hn : ∀ w, (Go.sizeOf e).run P w = .ok n w) :
    (Op.equalIn (d + 1) t (.agg xs) (.agg ys)).run P w = (eqElems d e n xs ys (List.range' 0 len)).run P w := by
  simp only [Op.equalIn, Sem.run_bind, under_run ht, Result.andThen_ok, hn]
  simp only [Std.Legacy.Range.forIn_eq_forIn_range', Std.Legacy.Range.size, Nat.sub_zero, Nat.add_sub_cancel, Nat.div_one]
  generalize List.range' 0 len = is
  induction is generalizing w with
  | nil => simp [eqElems]
  | cons i is ih =>
    simp only [List.forIn_cons, eqElems, Sem.run_bind]
    generalize (part e xs (i * n)).run P w = r1
    cases r1 with
    | ok a w1 =>
      simp only [Result.andThen_ok]
      generalize (part e ys (i * n)).run P w1 = r2
      cases r2 with
      | ok b w2 =>
        simp only [Result.andThen_ok]
        generalize (Op.equalIn d e a b).run P w2 = r3
        cases r3 with
        | ok r w3 =>
          cases r
          · simp only [Result.andThen_ok, Bool.not_false, if_true, Sem.run_pure]
          · simp only [Result.andThen_ok, Bool.not_true, Bool.false_eq_true, if_false, Sem.run_pure]
            exact ih
        | halt x w3 => simp [Result.andThen]
      | halt x w2 => simp [Result.andThen]
    | halt x w1 => simp [Result.andThen]

theorem eqA_run {P : Program} {w : World} {e : TypeId} (d : Nat) (xs ys : Array Value) : ∀ (n i : Nat) (us vs : List Value), us.length = n → eqA P e us vs = true → xs.toList.drop i = us → ys.toList.drop i = vs →
    (eqElems (d + 1) e 1 xs ys (List.range' i n)).run P w = .ok (eqL us vs) w
  | n, i, [], [], hl, _, _, _ => by
    subst hl
    simp [eqElems, eqL]
  | n, i, u :: us, v :: vs, hl, h, hx, hy => by
    subst hl
    simp only [eqA, Bool.and_eq_true] at h
    obtain ⟨h3, h4⟩ := h
    obtain ⟨r1, r2, r3⟩ := eqC_run h3 d w
    have gx : xs[i]? = some u := by
      have := congrArg (·[0]?) hx
      simpa [List.getElem?_drop] using this
    have gy : ys[i]? = some v := by
      have := congrArg (·[0]?) hy
      simpa [List.getElem?_drop] using this
    have ih := eqA_run (P := P) (w := w) (e := e) d xs ys us.length (i + 1) us vs rfl h4 (by rw [← List.drop_drop, hx]; rfl) (by rw [← List.drop_drop, hy]; rfl)
    simp only [List.length_cons, List.range'_succ, eqElems, eqL, Nat.mul_one]
    rw [Sem.run_bind, r2 xs i gx, Result.andThen_ok, Sem.run_bind, r3 ys i gy, Result.andThen_ok, Sem.run_bind, r1, Result.andThen_ok]
    cases he : eqV u v with
    | true => simpa using ih
    | false => simp
  | _, _, [], _ :: _, _, h, _, _ => by simp [eqA] at h
  | _, _, _ :: _, [], _, h, _, _ => by simp [eqA] at h

theorem eqOk_run {P : Program} {t : TypeId} {xs ys : Array Value} (h : eqOk P t xs.toList ys.toList = true) (w : World) :
    (∀ op x y, (eqGuard op t x y (.agg xs) (.agg ys)).run P w = .ok () w) ∧ (binOp .eql t (.agg xs) (.agg ys)).run P w = .ok (.bool (eqL xs.toList ys.toList)) w ∧ (binOp .neq t (.agg xs) (.agg ys)).run P w = .ok (.bool (!(eqL xs.toList ys.toList))) w := by
  unfold eqOk at h
  simp only [Bool.and_eq_true, Bool.not_eq_true'] at h
  obtain ⟨hg, h⟩ := h
  have key : (Op.equalIn 10000 t (.agg xs) (.agg ys)).run P w = .ok (eqL xs.toList ys.toList) w := by
    split at h
    · rename_i fs hu
      simp only [Bool.and_eq_true, Bool.not_eq_true'] at h
      have hf : P.underlying t = some (.struct (P.fieldsOf t)) := by simp [Program.fieldsOf, hu]
      rw [run_equalIn_struct w 9999 t xs ys hf h.1]
      exact eqF_run 9998 xs ys _ 0 _ _ h.2 rfl rfl
    · rename_i len e hu
      simp only [Bool.and_eq_true] at h
      rw [run_equalIn_array 9999 t e len 1 xs ys hu (fun w => sizeOf_run h.1.1 w)]
      exact eqA_run 9998 xs ys len 0 _ _ (Nat.eq_of_beq_eq_true h.1.2) h.2 rfl rfl
    · cases h
  refine ⟨fun op x y => run_eqGuard_agg w op t x y xs ys hg, ?_, ?_⟩
  · rw [run_eql_struct, key]; rfl
  · rw [run_neq_struct, key]; rfl

theorem qval_sound {P : Program} {ρ : Env} {m : Mem} {o : Oper} {K : Value → Prop} {N : Prop} (h : qval P ρ m o K N) : QOut P ρ m o K N := by
  obtain ⟨dst, op, ty, pos, aft, gd⟩ := o
  unfold qval at h
  cases op with
  | load t x =>
    simp only at h
    split at h
    · rename_i b i hx
      obtain ⟨v, hK, hr⟩ := ldT_sound h
      refine .inl ⟨v, hK, fun w hf => ?_⟩
      simp only [execOp]
      refine run_v ?_
      simp [Instr.loadAt, Instr.sureAddr, hx, hr w hf]
    · exact h.elim
  | nilCheck x =>
    simp only at h
    split at h
    · rename_i a hx
      unfold NilC at h
      split at h
      · rename_i b i
        exact .inl ⟨_, h, fun w _ => by simp [execOp, hx]⟩
      · exact .inr ⟨h, fun w => by simp [execOp, hx, runtimePanic, goPanic, program, Sem.run]⟩
      · exact h.elim
    · exact h.elim
  | indexAddr t x i =>
    simp only at h
    split at h
    · rename_i k i' hi
      split at h
      · rename_i e a len cap hu hx
        cases hinf : infoOk P e (szOf P e) with
        | false => rw [hinf] at h; exact h.elim
        | true =>
          rw [hinf] at h; simp only [cond_true, IxS] at h
          obtain ⟨h0, h1, h⟩ := h
          split at h
          · rename_i b j
            refine .inl ⟨_, h, fun w hf => ?_⟩
            simp only [execOp]
            refine run_v ?_
            simp [Instr.indexAt, hi, asIntOf, under_run hu, hx, h0, h1, infoOk_szOf hinf, add_none]
          · exact h.elim
      · rename_i len e b j hu hx
        cases hinf : infoOk P e (szOf P e) with
        | false => rw [hinf] at h; exact h.elim
        | true =>
          rw [hinf] at h; simp only [cond_true] at h
          obtain ⟨h0, h1, h⟩ := h
          refine .inl ⟨_, h, fun w hf => ?_⟩
          simp only [execOp]
          refine run_v ?_
          simp [Instr.indexAt, Instr.sureAddr, hi, asIntOf, under_run hu, hx, h0, h1, infoOk_szOf hinf, add_none]
      · exact h.elim
    · exact h.elim
  | index t x i =>
    dsimp only at h
    split at h
    · rename_i s k i' hx hi hu
      obtain ⟨h0, h1, h⟩ := h
      refine .inl ⟨_, h, fun w hf => ?_⟩
      simp only [execOp]
      refine run_v ?_
      have hlt : i'.toNat < s.size := by omega
      have hg : s[i'.toNat]? = some s[i'.toNat] := by simp [hlt]
      simp [Instr.index, hi, asIntOf, under_run hu, hx, h0, hg, bt_get hlt]
    · rename_i cs k' j len e hx hi hu
      unfold IxV at h
      split at h
      · split at h
        · rename_i kk hk
          cases hinf : infoOk P e 1 with
          | false => rw [hinf] at h; exact h.elim
          | true =>
            rw [hinf] at h; simp only [cond_true] at h
            obtain ⟨l, hl, h⟩ := allI_sound h
            cases hb : Nat.beq l.length len with
            | false => rw [hb] at h; exact h.elim
            | true =>
              rw [hb] at h; simp only [cond_true] at h
              obtain ⟨h0, h1, h⟩ := h
              have hb := Nat.eq_of_beq_eq_true hb
              refine .inl ⟨_, h, fun w hf => ?_⟩
              simp only [execOp]
              refine run_v ?_
              have hlt : j.toNat < l.length := by omega
              have hcs : cs[j.toNat]? = some (.int kk (l.getD j.toNat 0)) := by
                have : cs = (l.map (fun x => Value.int kk x)).toArray := by rw [← hl]
                rw [this]; simp [hlt]
              simp [Instr.index, hi, asIntOf, under_run hu, hx, h0, ← hb, h1, sizeOf_run hinf, part, isAgg, under_run hk, hcs]
        · exact h.elim
      · exact pq_val h
    · exact pq_val h
  | slice t x lo hi mx =>
    cases mx with
    | some _ => exact pq_val h
    | none =>
      simp only at h
      split at h
      · rename_i s hu hx
        obtain ⟨l, h, hl⟩ := oInt_some h
        obtain ⟨hh, h, hhi⟩ := oInt_some h
        obtain ⟨h0, h1, h2, h⟩ := h
        refine .inl ⟨_, h, fun w hf => ?_⟩
        simp only [execOp]
        refine run_v ?_
        simp only [Instr.sliceAt]
        rw [Sem.run_bind, under_run hu, Result.andThen_ok]
        simp only [Instr.slice]
        rw [Sem.run_bind, under_run hu, Result.andThen_ok]
        simp [hx, sliceBounds_ok hl hhi h0 h1 h2]
      · rename_i e a len cap hu hx
        cases hinf : infoOk P e (szOf P e) with
        | false => rw [hinf] at h; exact h.elim
        | true =>
          rw [hinf] at h; simp only [cond_true] at h
          obtain ⟨l, h, hl⟩ := oInt_some h
          obtain ⟨hh, h, hhi⟩ := oInt_some h
          obtain ⟨h0, h1, h2, h⟩ := h
          refine .inl ⟨_, h, fun w hf => ?_⟩
          simp only [execOp]
          refine run_v ?_
          simp only [Instr.sliceAt]
          rw [Sem.run_bind, under_run hu, Result.andThen_ok]
          simp only [Instr.slice]
          rw [Sem.run_bind, under_run hu, Result.andThen_ok]
          simp [hx, sliceBounds_ok hl hhi h0 h1 h2, infoOk_szOf hinf, shf]
      · exact h.elim
  | binOp bop t x y t' =>
    simp only at h
    split at h
    · rename_i k a k' b hx hy
      have h' := sameK.eq h
      obtain ⟨e, h2⟩ := h'
      subst e
      obtain ⟨hb, h3⟩ := NzI.ne h2
      refine .inl ⟨_, h3, fun w hf => ?_⟩
      simp only [execOp]
      refine run_v ?_
      simp [eqGuard, hx, hy, binOp, Op.intDiv, hb]
    · rename_i k a k' b hx hy
      have h' := sameK.eq h
      obtain ⟨e, h2⟩ := h'
      subst e
      obtain ⟨hb, h3⟩ := NzI.ne h2
      refine .inl ⟨_, h3, fun w hf => ?_⟩
      simp only [execOp]
      refine run_v ?_
      simp [eqGuard, hx, hy, binOp, Op.intDiv, hb]
    · rename_i k a k' b hx hy
      obtain ⟨hb, h⟩ := h.nn
      have hb' : ¬ b < 0 := by omega
      refine .inl ⟨_, h, fun w hf => ?_⟩
      simp only [execOp]
      refine run_v ?_
      simp [eqGuard, hx, hy, binOp, Op.shift, hb']
    · rename_i k a k' b hx hy
      obtain ⟨hb, h⟩ := h.nn
      have hb' : ¬ b < 0 := by omega
      refine .inl ⟨_, h, fun w hf => ?_⟩
      simp only [execOp]
      refine run_v ?_
      simp [eqGuard, hx, hy, binOp, Op.shift, hb']
    · rename_i a b hx hy
      obtain ⟨hs, h⟩ := h
      refine .inl ⟨_, h, fun w hf => ?_⟩
      simp only [execOp]
      refine run_v ?_
      have : ¬ ((a.size + b.size : Nat) : Int) > IntKind.i64.max := by
        have : IntKind.i64.max = 9223372036854775807 := by rfl
        rw [this]; omega
      simp only [eqGuard, hx, hy, binOp, Op.stringOp]
      rw [if_neg this]
      simp
    · rename_i a hx hy
      obtain ⟨hT, h⟩ := cond_ok h
      unfold isPtrT at hT
      split at hT
      · rename_i el hu
        refine .inl ⟨_, h, fun w hf => ?_⟩
        simp only [execOp]
        refine run_v ?_
        rw [hx, hy]
        simp only [eqGuard]
        exact eql_ptr_nil hu _
      · cases hT
    · rename_i a hx hy
      obtain ⟨hT, h⟩ := cond_ok h
      unfold isPtrT at hT
      split at hT
      · rename_i el hu
        refine .inl ⟨_, h, fun w hf => ?_⟩
        simp only [execOp]
        refine run_v ?_
        rw [hx, hy]
        simp only [eqGuard]
        exact neq_ptr_nil hu _
      · cases hT
    · rename_i a l c l' c' hx hy
      obtain ⟨hT, h⟩ := cond_ok h
      unfold isSlT at hT
      split at hT
      · rename_i el hu
        refine .inl ⟨_, h, fun w hf => ?_⟩
        simp only [execOp]
        refine run_v ?_
        rw [hx, hy]
        simp only [eqGuard]
        exact eql_sl_nil hu _
      · cases hT
    · rename_i a l c l' c' hx hy
      obtain ⟨hT, h⟩ := cond_ok h
      unfold isSlT at hT
      split at hT
      · rename_i el hu
        refine .inl ⟨_, h, fun w hf => ?_⟩
        simp only [execOp]
        refine run_v ?_
        rw [hx, hy]
        simp only [eqGuard]
        exact neq_sl_nil hu _
      · cases hT
    · rename_i a hx hy
      obtain ⟨hT, h⟩ := cond_ok h
      unfold isMapT at hT
      split at hT
      · rename_i kt et hu
        refine .inl ⟨_, h, fun w hf => ?_⟩
        simp only [execOp]
        refine run_v ?_
        rw [hx, hy]
        simp only [eqGuard]
        exact eql_map_nil hu _
      · cases hT
    · rename_i a hx hy
      obtain ⟨hT, h⟩ := cond_ok h
      unfold isMapT at hT
      split at hT
      · rename_i kt et hu
        refine .inl ⟨_, h, fun w hf => ?_⟩
        simp only [execOp]
        refine run_v ?_
        rw [hx, hy]
        simp only [eqGuard]
        exact neq_map_nil hu _
      · cases hT
    · rename_i xs ys hx hy
      obtain ⟨hT, h⟩ := cond_ok h
      refine .inl ⟨_, h, fun w hf => ?_⟩
      obtain ⟨r1, r2, r3⟩ := eqOk_run hT w
      simp only [execOp]
      refine run_v ?_
      rw [hx, hy, Sem.run_bind, r1, Result.andThen_ok]
      exact r2
    · rename_i xs ys hx hy
      obtain ⟨hT, h⟩ := cond_ok h
      refine .inl ⟨_, h, fun w hf => ?_⟩
      obtain ⟨r1, r2, r3⟩ := eqOk_run hT w
      simp only [execOp]
      refine run_v ?_
      rw [hx, hy, Sem.run_bind, r1, Result.andThen_ok]
      exact r3
    · exact pq_val h
  | lookup t x i ok =>
    obtain ⟨nx, hK, hr⟩ := pq_sound P _ h
    cases nx <;> try exact hK.elim
    case value v => exact .inl ⟨v, unR_sound (K := K) hK, hr⟩
  | convert src dst x =>
    dsimp only at h
    split at h
    · rename_i e a len cap hs hd hx
      obtain ⟨hT, h⟩ := cond_ok h
      unfold isU8 at hT
      split at hT
      · rename_i hu
        obtain ⟨bs, hl, hc, h⟩ := h
        refine .inl ⟨_, h, fun w hf => ?_⟩
        simp only [execOp]
        refine run_v ?_
        simp only [convert]
        rw [Sem.run_bind, under_run hs, Result.andThen_ok, Sem.run_bind, under_run hd, Result.andThen_ok]
        simp only [hx]
        rw [Sem.run_bind, under_run hu, Result.andThen_ok]
        exact b2s_run hf hl hc
      · cases hT
    · exact pq_val h
  | _ => exact pq_val h

end Go.H
