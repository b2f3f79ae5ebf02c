/- What is asked grows with what is asked behind; code with cuts; the shapes of slots. -/
import Derived.Test.YtjdkdeekniephaaH5
set_option linter.unusedVariables false
namespace Go.H

section
variable {P : Program}
theorem UnB.ex {v : Value} {K : Bool → Prop} (h : UnB v K) : ∃ b, v = .bool b ∧ K b := by cases v <;> first | exact ⟨_, rfl, h⟩ | exact h.elim
theorem UnI.ex {v : Value} {k : IntKind} {K : Int → Prop} (h : UnI v k K) : ∃ x, v = .int k x ∧ K x := by
  cases v <;> try exact h.elim
  case int k' x =>
    simp only [UnI] at h
    split at h
    · rename_i e _; subst e; exact ⟨x, rfl, h⟩
    · exact h.elim
theorem UnI.mk {x : Int} {k : IntKind} {K : Int → Prop} (h : K x) : UnI (.int k x) k K := by
  simp only [UnI]; split
  · exact h
  · rename_i hn _; exact absurd rfl hn
theorem UnStr.ex {v : Value} {K : ByteArray → Prop} (h : UnStr v K) : ∃ b, v = .string b ∧ K b := by cases v <;> first | exact ⟨_, rfl, h⟩ | exact h.elim
theorem UnP.ex {v : Value} {K : Option Addr → Prop} (h : UnP v K) : ∃ b, v = .pointer b ∧ K b := by cases v <;> first | exact ⟨_, rfl, h⟩ | exact h.elim
theorem UnM.ex {v : Value} {K : Option Nat → Prop} (h : UnM v K) : ∃ b, v = .map b ∧ K b := by cases v <;> first | exact ⟨_, rfl, h⟩ | exact h.elim
theorem UnS.ex {v : Value} {K : Option Addr → Nat → Nat → Prop} (h : UnS v K) : ∃ a l c, v = .slice a l c ∧ K a l c := by cases v <;> first | exact ⟨_, _, _, rfl, h⟩ | exact h.elim
theorem UnAgg.ex {v : Value} {K : List Value → Prop} (h : UnAgg v K) : ∃ l, v = .agg l.toArray ∧ K l := by
  cases v <;> first | exact ⟨_, rfl, h⟩ | exact h.elim
theorem UnTup.ex {v : Value} {K : List Value → Prop} (h : UnTup v K) : ∃ l, v = .tuple l.toArray ∧ K l := by
  cases v <;> first | exact ⟨_, rfl, h⟩ | exact h.elim
theorem UnCons.ex {l : List Value} {K : Value → List Value → Prop} (h : UnCons l K) : ∃ x r, l = x :: r ∧ K x r := by
  cases l <;> first | exact ⟨_, _, rfl, h⟩ | exact h.elim
theorem UnNil.ex {l : List Value} {K : Prop} (h : UnNil l K) : l = [] ∧ K := by
  cases l <;> first | exact ⟨rfl, h⟩ | exact h.elim

theorem Br.mono {b : Bool} {A A' B B' : Prop} (h : A → A') (k : B → B') (x : Br b A B) : Br b A' B' := by cases b <;> first | exact h x | exact k x

theorem un1_mono {kd : Kd} {v : Value} {K K' : Value → Prop} (h : ∀ v, K v → K' v) (x : un1 kd v K) : un1 kd v K' := by
  cases kd <;> simp only [un1] at x ⊢
  case bool => obtain ⟨b, rfl, x⟩ := x.ex; exact h _ x
  case int k => obtain ⟨b, rfl, y⟩ := x.ex; exact UnI.mk (h _ y)
  case str => obtain ⟨b, rfl, x⟩ := x.ex; exact h _ x
  case ptr => obtain ⟨b, rfl, x⟩ := x.ex; exact h _ x
  case sl => obtain ⟨a, l, c, rfl, x⟩ := x.ex; exact h _ x
  case map => obtain ⟨b, rfl, x⟩ := x.ex; exact h _ x
  case any => exact h _ x
theorem unL_mono : ∀ (ks : List Kd) (l : List Value) {K K' : List Value → Prop}, (∀ v, K v → K' v) → unL ks l K → unL ks l K'
  | [], l, K, K', h, x => by obtain ⟨rfl, x⟩ := UnNil.ex x; exact h _ x
  | kd :: r, l, K, K', h, x => by
    obtain ⟨v, t, rfl, x⟩ := UnCons.ex x
    exact un1_mono (fun v' x => unL_mono r t (fun vs x => h _ x) x) x
theorem unT_mono {f : Nat} {t : TypeId} {v : Value} {K K' : Value → Prop} (h : ∀ v, K v → K' v) (x : unT P f t v K) : unT P f t v K' := by
  unfold unT at x ⊢
  split at x
  · rename_i d _
    cases hd : isAggD d with
    | true =>
      rw [hd] at x
      have x' : UnAgg v fun l => unL (kds P f t) l fun vs => K (Value.agg vs.toArray) := x
      obtain ⟨l, rfl, y⟩ := x'.ex
      exact unL_mono _ _ (fun vs x => h _ x) y
    | false => rw [hd] at x; exact un1_mono h x
  · exact x.elim
theorem unTs_mono : ∀ (ts : List TypeId) (l : List Value) {K K' : List Value → Prop}, (∀ v, K v → K' v) → unTs P ts l K → unTs P ts l K'
  | [], l, K, K', h, x => by obtain ⟨rfl, x⟩ := UnNil.ex x; exact h _ x
  | t :: r, l, K, K', h, x => by
    obtain ⟨v, s, rfl, x⟩ := UnCons.ex x
    exact unT_mono (P := P) (fun v' x => unTs_mono r s (fun vs x => h _ x) x) x
theorem unR_mono {t : TypeId} {v : Value} {K K' : Value → Prop} (h : ∀ v, K v → K' v) (x : unR P t v K) : unR P t v K' := by
  unfold unR at x ⊢
  split at x
  · obtain ⟨l, rfl, x⟩ := UnTup.ex x
    exact unTs_mono _ _ (fun vs x => h _ x) x
  · exact unT_mono h x
theorem LdV.mono {m : Mem} {b o : Nat} {K K' : Value → Prop} (h : ∀ v, K v → K' v) (x : LdV m b o K) : LdV m b o K' := by
  obtain ⟨v, hv, x⟩ := x.get; exact LdV.mk hv (h _ x)
theorem ldL_mono {m : Mem} {b o : Nat} : ∀ (ks : List Kd) (i : Nat) {K K' : List Value → Prop}, (∀ v, K v → K' v) → ldL m b o i ks K → ldL m b o i ks K'
  | [], i, K, K', h, x => h _ x
  | kd :: r, i, K, K', h, x => LdV.mono (fun v x => un1_mono (fun v' x => ldL_mono r (i + 1) (fun vs x => h _ x) x) x) x
theorem ldT_mono {t : TypeId} {m : Mem} {b o : Nat} {K K' : Value → Prop} (h : ∀ v, K v → K' v) (x : ldT P t m b o K) : ldT P t m b o K' := by
  unfold ldT at x ⊢
  split at x
  · rename_i d _
    cases hd : isAggD d with
    | true =>
      rw [hd] at x; simp only [cond_true] at x ⊢
      cases hi : infoOk P t (kds P 20 t).length with
      | true => rw [hi] at x; exact ldL_mono _ _ (fun vs x => h _ x) x
      | false => rw [hi] at x; exact x.elim
    | false => rw [hd] at x; exact LdV.mono (fun v x => un1_mono h x) x
  · exact x.elim
theorem stL_mono {b o : Nat} : ∀ (vs : List Value) (i : Nat) {K K' : Mem → Prop} (m : Mem), (∀ m, K m → K' m) → stL b o i vs K m → stL b o i vs K' m
  | [], _, _, _, m, h, x => h m x
  | v :: r, i, K, K', m, h, x => by
    simp only [stL, St1] at x ⊢
    split at x
    · exact ⟨x.1, x.2.1, x.2.2.1, stL_mono r (i + 1) _ h x.2.2.2⟩
    · exact x.elim
theorem pq_mono {α : Type} {Q Q' : α → Prop} {m : Mem} (hQ : ∀ a, Q a → Q' a) : ∀ (s : Sem α), pq P s Q m → pq P s Q' m := by
  intro s
  induction s with
  | pure a => exact hQ _
  | load md a k ih => exact fun ⟨h, v, hv, hk⟩ => ⟨h, v, hv, ih _ hk⟩
  | shape r k ih => exact fun ⟨o, ho, hk⟩ => ⟨o, ho, ih _ hk⟩
  | frozen a k ih => exact fun ⟨o, ho, hk⟩ => ⟨o, ho, ih _ hk⟩
  | getObj r k ih => exact fun ⟨o, ho, hc, hk⟩ => ⟨o, ho, hc, ih _ hk⟩
  | program k ih => exact fun h => ih _ h
  | mark mk k ih => exact fun h => ih h
  | store => exact fun h => h.elim
  | new => exact fun h => h.elim
  | freeze => exact fun h => h.elim
  | setObj => exact fun h => h.elim
  | choose => exact fun h => h.elim
  | sys => exact fun h => h.elim
  | halt => exact fun h => h.elim
theorem isValue_mono {K K' : Value → Prop} (h : ∀ v, K v → K' v) : ∀ n, isValue K n → isValue K' n := by
  intro n x; cases n <;> first | exact h _ x | exact x.elim
theorem oInt_mono {ρ : Env} {x : Option Operand} {d : Int} {K K' : Int → Prop} (h : ∀ v, K v → K' v) (y : oInt ρ x d K) : oInt ρ x d K' := by
  unfold oInt at y ⊢
  split at y
  · exact h _ y
  · split at y
    · exact h _ y
    · exact y.elim
theorem qval_mono {ρ : Env} {m : Mem} {o : Oper} {K K' : Value → Prop} {N : Prop} (h : ∀ v, K v → K' v) (x : qval P ρ m o K N) : qval P ρ m o K' N := by
  obtain ⟨dst, op, ty, pos, aft, gd⟩ := o
  unfold qval at x ⊢
  have gen : pq P (execOp (evr ρ) ⟨dst, op, ty, pos, aft, gd⟩) (isValue K) m → pq P (execOp (evr ρ) ⟨dst, op, ty, pos, aft, gd⟩) (isValue K') m := pq_mono (isValue_mono h) _
  cases op with
  | load t y => dsimp only at x ⊢; split at x <;> first | exact ldT_mono h x | exact x.elim
  | nilCheck y =>
    dsimp only at x ⊢
    split at x
    · unfold NilC at x ⊢; split at x <;> first | exact h _ x | exact x
    · exact x.elim
  | indexAddr t y i =>
    dsimp only at x ⊢
    split at x
    · split at x
      · rename_i e a len cap hu hx
        cases hinf : infoOk P e (szOf P e) with
        | false => rw [hinf] at x; exact x.elim
        | true =>
          rw [hinf] at x; simp only [cond_true, IxS] at x ⊢
          refine ⟨x.1, x.2.1, ?_⟩
          have x := x.2.2
          split at x
          · exact h _ x
          · exact x.elim
      · rename_i len e b j hu hx
        cases hinf : infoOk P e (szOf P e) with
        | false => rw [hinf] at x; exact x.elim
        | true => rw [hinf] at x; exact ⟨x.1, x.2.1, h _ x.2.2⟩
      · exact x.elim
    · exact x.elim
  | index t y i =>
    dsimp only at x ⊢
    split at x
    · exact ⟨x.1, x.2.1, h _ x.2.2⟩
    · unfold IxV at x ⊢
      split at x
      · split at x
        · rename_i kk hk
          cases hinf : infoOk P _ 1 with
          | false => rw [hinf] at x; exact x.elim
          | true =>
            rw [hinf] at x; simp only [cond_true] at x ⊢
            refine allI_mono (fun l x => ?_) x
            revert x
            cases Nat.beq l.length _ with
            | false => exact fun x => x.elim
            | true => exact fun x => ⟨x.1, x.2.1, h _ x.2.2⟩
        · exact x.elim
      · exact gen x
    · exact gen x
  | slice t y lo hi mx =>
    cases mx with
    | some _ => exact gen x
    | none =>
      dsimp only at x ⊢
      split at x
      · exact oInt_mono (fun l x => oInt_mono (fun hh x => ⟨x.1, x.2.1, x.2.2.1, h _ x.2.2.2⟩) x) x
      · rename_i e a len cap hu hx
        cases hinf : infoOk P e (szOf P e) with
        | false => rw [hinf] at x; exact x.elim
        | true => rw [hinf] at x; simp only [cond_true] at x ⊢; exact oInt_mono (fun l x => oInt_mono (fun hh x => ⟨x.1, x.2.1, x.2.2.1, h _ x.2.2.2⟩) x) x
      · exact x.elim
  | binOp bop t y z t' =>
    dsimp only at x ⊢
    split at x
    · obtain ⟨e, y⟩ := sameK.eq x; subst e; obtain ⟨hb, y'⟩ := NzI.ne y
      unfold sameK; split
      · exact NzI.mk hb (h _ y')
      · rename_i hn _; exact absurd rfl hn
    · obtain ⟨e, y⟩ := sameK.eq x; subst e; obtain ⟨hb, y'⟩ := NzI.ne y
      unfold sameK; split
      · exact NzI.mk hb (h _ y')
      · rename_i hn _; exact absurd rfl hn
    · obtain ⟨hb, x⟩ := NnI.nn x; exact NnI.mk hb (h _ x)
    · obtain ⟨hb, x⟩ := NnI.nn x; exact NnI.mk hb (h _ x)
    · exact ⟨x.1, h _ x.2⟩
    iterate 8
      · obtain ⟨hb, x⟩ := cond_ok x; rw [hb]; exact h _ x
    · exact gen x
  | lookup t y i ok =>
    refine pq_mono (fun nx y => ?_) _ x
    cases nx <;> first | exact unR_mono h y | exact y.elim
  | convert src dst y =>
    dsimp only at x ⊢
    split at x
    · obtain ⟨hb, x⟩ := cond_ok x; rw [hb]
      obtain ⟨bs, h1, h2, x⟩ := x
      exact ⟨bs, h1, h2, h _ x⟩
    · exact gen x
  | _ => exact gen x
theorem HE.cont {f : FuncId} {args : Array Value} {m : Mem} {K K' : Value → Mem → Prop} {Pn : List PanicEntry → Mem → Prop} (h : ∀ v m, K v m → K' v m) (x : HE P f args m (Cont K Pn)) : HE P f args m (Cont K' Pn) :=
  x.mono fun e m' y => by cases e <;> first | exact h _ _ y | exact y
theorem HC.cont {f : FuncId} {args : Array Value} {m : Mem} {K K' : Value → Mem → Prop} {Pn : List PanicEntry → Mem → Prop} (h : ∀ v m, K v m → K' v m) (x : HC P f args m (Cont K Pn)) : HC P f args m (Cont K' Pn) :=
  x.mono fun e m' y => by cases e <;> first | exact h _ _ y | exact y
theorem nval_mono {ρ : Env} {m : Mem} {o : Oper} {K K' : Value → Mem → Prop} {Pn : List PanicEntry → Mem → Prop} (h : ∀ v m, K v m → K' v m) (x : nval P ρ m o K Pn) : nval P ρ m o K' Pn := by
  unfold nval at x ⊢
  split at x
  · split at x
    · rename_i t y z hop _ b i hx
      cases hinf : infoOk P t (evr ρ z).cells.size with
      | false => rw [hinf] at x; exact x.elim
      | true => rw [hinf] at x; exact stL_mono _ _ _ (fun m x => h _ m x) x
    · exact x.elim
  · split at x
    · exact HC.cont (fun v m x => unR_mono (fun v' x => h _ _ x) x) x
    · exact x.elim
  · split at x
    · obtain ⟨hb, x⟩ := cond_ok x; rw [hb]
      exact fun cap b h1 h2 => unR_mono (fun v x => h _ _ x) (x cap b h1 h2)
    · refine pt_mono P (fun nx m x => ?_) (fun _ _ x => x) _ _ x
      cases nx with
      | value v => exact unR_mono (K := fun v' => K v' m) (K' := fun v' => K' v' m) (fun v x => h v m x) x
      | skip => exact unR_mono (K := fun v' => K v' m) (K' := fun v' => K' v' m) (fun v x => h v m x) x
      | enter f args => exact HE.cont (fun v m x => unR_mono (K := fun v' => K v' m) (K' := fun v' => K' v' m) (fun v x => h v m x) x) x
      | _ => exact (x : False).elim
  · refine pt_mono P (fun nx m x => ?_) (fun _ _ x => x) _ _ x
    cases nx with
    | value v => exact unR_mono (K := fun v' => K v' m) (K' := fun v' => K' v' m) (fun v x => h v m x) x
    | skip => exact unR_mono (K := fun v' => K v' m) (K' := fun v' => K' v' m) (fun v x => h v m x) x
    | enter f args => exact HE.cont (fun v m x => unR_mono (K := fun v' => K v' m) (K' := fun v' => K' v' m) (fun v x => h v m x) x) x
    | _ => exact (x : False).elim
  · refine pt_mono P (fun nx m x => ?_) (fun _ _ x => x) _ _ x
    cases nx with
    | value v => exact unR_mono (K := fun v' => K v' m) (K' := fun v' => K' v' m) (fun v x => h v m x) x
    | skip => exact unR_mono (K := fun v' => K v' m) (K' := fun v' => K' v' m) (fun v x => h v m x) x
    | enter f args => exact HE.cont (fun v m x => unR_mono (K := fun v' => K v' m) (K' := fun v' => K' v' m) (fun v x => h v m x) x) x
    | _ => exact (x : False).elim
  · refine pt_mono P (fun nx m x => ?_) (fun _ _ x => x) _ _ x
    cases nx <;> first | exact h _ _ x | exact HE.cont h x | exact x.elim
theorem pickP_mono {ρ : Env} {d : Option Tmp} {c a b : Operand} {K K' : Env → Prop} (h : ∀ ρ, K ρ → K' ρ) (x : pickP ρ d c a b K) : pickP ρ d c a b K' := by
  unfold pickP at x ⊢
  split at x
  · split at x
    · exact Br.mono (h _) (h _) x
    · exact x.elim
  · exact x.elim
theorem guardP_mono {ops : Array Oper} {ρ : Env} {o : Oper} {K K' Sk Sk' : Env → Prop} (h : ∀ ρ, K ρ → K' ρ) (k : ∀ ρ, Sk ρ → Sk' ρ) (x : guardP ops ρ o K Sk) : guardP ops ρ o K' Sk' := by
  unfold guardP at x ⊢
  split at x
  · exact h _ x
  · split at x
    · split at x
      · split at x
        · exact Br.mono (h _) (k _) x
        · exact Br.mono (k _) (h _) x
      · exact k _ x
      · exact x.elim
    · exact x.elim
theorem oneP_mono {ρ : Env} {m : Mem} {o : Oper} {K K' : Env → Mem → Prop} {Pn : List PanicEntry → Mem → Prop} (h : ∀ ρ m, K ρ m → K' ρ m) (x : oneP P ρ m o K Pn) : oneP P ρ m o K' Pn := by
  unfold oneP at x ⊢
  split at x
  · exact pickP_mono (fun ρ => h ρ m) x
  · cases hq : quietOp P o.op with
    | true => simp only [hq, cond_true] at x ⊢; exact qval_mono (fun v x => h _ _ x) x
    | false => simp only [hq, cond_false] at x ⊢; exact nval_mono (fun v m x => h _ _ x) x
theorem quietP_mono {ρ : Env} {m : Mem} {o : Oper} {K K' : Env → Prop} (h : ∀ ρ, K ρ → K' ρ) (x : quietP P ρ m o K) : quietP P ρ m o K' := by
  unfold quietP at x ⊢
  split at x
  · exact pickP_mono h x
  · exact qval_mono (fun v x => h _ x) x
theorem hops_mono {ops : Array Oper} {K K' : Env → Mem → Prop} {Pn : List PanicEntry → Mem → Prop} (h : ∀ ρ m, K ρ m → K' ρ m) :
    ∀ (l : List Oper) (ρ : Env) (m : Mem), hops P ops K Pn l ρ m → hops P ops K' Pn l ρ m
  | [], ρ, m, x => h _ _ x
  | o :: r, ρ, m, x => guardP_mono (fun ρ' x => oneP_mono (fun ρ m x => hops_mono h r ρ m x) x) (fun ρ' x => hops_mono h r _ _ x) x
theorem hstep_mono {ops : Array Oper} {Pn : List PanicEntry → Mem → Prop} {i fl : Nat} {rest rest' : Mem → Env → Mem → Prop} (h : ∀ r ρ m, rest r ρ m → rest' r ρ m) {r : Mem} {ρ : Env} {m : Mem}
    (x : hstep P ops Pn i fl rest r ρ m) : hstep P ops Pn i fl rest' r ρ m := by
  unfold hstep at x ⊢
  cases ho : ops[i]? with
  | none => simp [ho] at x
  | some o =>
    simp only [ho] at x ⊢
    refine guardP_mono (fun ρ' x => ?_) (fun ρ' x => h r _ _ x) x
    split at x
    · exact quietP_mono (fun ρ'' x => h r _ _ x) x
    · exact oneP_mono (fun ρ'' m' x => h _ _ _ x) x
    · exact quietP_mono (fun ρ'' x => h r _ _ x) x
    · cases hq : isQuiet P o with
      | true => simp only [hq, cond_true] at x ⊢; exact quietP_mono (fun ρ'' x => h r _ _ x) x
      | false =>
        simp only [hq, cond_false] at x ⊢
        exact oneP_mono (fun ρ'' m' x => by obtain ⟨r', h1, h2, x⟩ := x; exact ⟨r', h1, h2, h _ _ _ x⟩) x
theorem hdraw_mono {ops : Array Oper} {K K' : Env → Mem → Prop} {Pn : List PanicEntry → Mem → Prop} (h : ∀ ρ m, K ρ m → K' ρ m) :
    ∀ (π : Ord) (r : Mem) (ρ : Env) (m : Mem), hdraw P ops K Pn π r ρ m → hdraw P ops K' Pn π r ρ m
  | .done, r, ρ, m, x => h _ _ x
  | .one i fl π, r, ρ, m, x => by
    simp only [hdraw] at x ⊢
    exact hstep_mono (fun r ρ m x => hdraw_mono h π r ρ m x) x
  | .alt i fi u j fj v, r, ρ, m, x => by
    simp only [hdraw] at x ⊢
    exact ⟨hstep_mono (fun r ρ m x => hdraw_mono h u r ρ m x) x.1, hstep_mono (fun r ρ m x => hdraw_mono h v r ρ m x) x.2⟩
theorem cpt_mono {od : Nat → Ord} {Pn : List PanicEntry → Mem → Prop} : ∀ (c : Code) {Q Q' : Exit → Env → Mem → Prop} (_ : ∀ e ρ m, Q e ρ m → Q' e ρ m) (ρ : Env) (m : Mem),
    cpt P od Pn c Q ρ m → cpt P od Pn c Q' ρ m := by
  intro c
  induction c with
  | skip => intro Q Q' h ρ m x; exact h _ _ _ x
  | label l => intro Q Q' h ρ m x; exact h _ _ _ x
  | exit id => intro Q Q' h ρ m x; exact h _ _ _ x
  | ret => intro Q Q' h ρ m x; exact h _ _ _ x
  | region id ops draw =>
    intro Q Q' h ρ m x
    cases draw with
    | false => exact hops_mono (h .normal) _ _ _ x
    | true => obtain ⟨r, hr, x⟩ := x; exact ⟨r, hr, hdraw_mono (h .normal) _ _ _ _ x⟩
  | seq x y ihx ihy =>
    intro Q Q' h ρ m k
    refine ihx (fun e ρ m k => ?_) ρ m k
    cases e with
    | normal => exact ihy h ρ m k
    | _ => exact h _ _ _ k
  | cond c x y ihx ihy =>
    intro Q Q' h ρ m k
    simp only [cpt] at k ⊢
    split at k
    · split at k
      · exact Br.mono (ihx h _ _) (ihy h _ _) k
      · exact k.elim
    · exact Br.mono (ihx h _ _) (ihy h _ _) k
    · exact k.elim
  | block id c ih =>
    intro Q Q' h ρ m k
    refine ih (fun e ρ m k => ?_) ρ m k
    cases e with
    | exit i =>
      simp only [blockQ] at k ⊢
      cases hb : Nat.beq i id <;> simp only [hb] at k ⊢ <;> exact h _ _ _ k
    | _ => exact h _ _ _ k
  | loop c ih =>
    intro Q Q' h ρ m k
    obtain ⟨I, N, h0, hr⟩ := k
    refine ⟨I, N, h0, fun N ρ m hI => ih (fun e ρ m k => ?_) ρ m (hr N ρ m hI)⟩
    cases e with
    | normal => exact k
    | _ => exact h _ _ _ k
  | rangeFunc => intro Q Q' h ρ m k; exact k.elim
  | scope => intro Q Q' h ρ m k; exact k.elim
  | goto => intro Q Q' h ρ m k; exact k.elim
  | refuse => intro Q Q' h ρ m k; exact k.elim

/-! ### a region's order, cut -/
def dropO : Nat → Ord → Ord
  | 0, π => π
  | n + 1, .one _ _ π => dropO n π
  | _ + 1, _ => .done
/-- The first p steps of an order; L is asked of the others. -/
def hcut (P : Program) (ops : Array Oper) (L : Mem → Env → Mem → Prop) (Pn : List PanicEntry → Mem → Prop) : Nat → Ord → Mem → Env → Mem → Prop
  | 0, _, r, ρ, m => L r ρ m
  | p + 1, .one i fl π, r, ρ, m => hstep P ops Pn i fl (hcut P ops L Pn p π) r ρ m
  | _ + 1, _, _, _, _ => False
theorem hcut_sound {ops : Array Oper} {K : Env → Mem → Prop} {L : Mem → Env → Mem → Prop} {Pn : List PanicEntry → Mem → Prop} : ∀ {p : Nat} {π π2 : Ord} (_ : dropO p π = π2) (_ : ∀ r ρ m, L r ρ m → hdraw P ops K Pn π2 r ρ m) {r : Mem} {ρ : Env} {m : Mem},
    hcut P ops L Pn p π r ρ m → hdraw P ops K Pn π r ρ m
  | 0, π, π2, e, h, r, ρ, m, x => by
    have e : π = π2 := e
    subst e; exact h _ _ _ x
  | p + 1, .one i fl π, π2, e, h, r, ρ, m, x => by
    simp only [hdraw]
    exact hstep_mono (fun r ρ m x => hcut_sound (p := p) e h x) x
  | p + 1, .done, _, _, _, _, _, _, x => (x : False).elim
  | p + 1, .alt .., _, _, _, _, _, _, x => (x : False).elim
/-! ### code with cuts -/
inductive ACode where
  | code (c : Code)
  | seq (x y : ACode)
  | cond (c : Operand) (x y : ACode)
  | block (id : Nat) (c : ACode)
  /-- here stands a piece that is told apart: L is asked of it -/
  | cut (L : Env → Mem → Prop) (c : Code)
  /-- a region that draws, of whose order the first p steps are told here; L is asked of the others -/
  | draw (id : Nat) (ops : Array Oper) (p : Nat) (L : Mem → Env → Mem → Prop)

def ACode.erase : ACode → Code
  | .code c => c
  | .seq x y => .seq x.erase y.erase
  | .cond c x y => .cond c x.erase y.erase
  | .block id c => .block id c.erase
  | .cut _ c => c
  | .draw id ops _ _ => .region id ops true

section
variable (od : Nat → Ord) (Pn : List PanicEntry → Mem → Prop)
variable (P)
def acpt : ACode → (Exit → Env → Mem → Prop) → Env → Mem → Prop
  | .code c, Q, ρ, m => cpt P od Pn c Q ρ m
  | .seq x y, Q, ρ, m => acpt x (thenQ (acpt y Q) Q) ρ m
  | .cond c x y, Q, ρ, m =>
    match c with
    | .tmp t => match ρ t with
      | .bool b => Br b (acpt x Q (upd ρ t (.bool true)) m) (acpt y Q (upd ρ t (.bool false)) m)
      | _ => False
    | .const (.bool b) => Br b (acpt x Q ρ m) (acpt y Q ρ m)
    | _ => False
  | .block id c, Q, ρ, m => acpt c (blockQ id Q) ρ m
  | .cut L _, _, ρ, m => L ρ m
  | .draw id ops p L, _, ρ, m => Sub m fun r => hcut P ops L Pn p (od id) r ρ m
/-- What the cuts owe. -/
def owes : ACode → (Exit → Env → Mem → Prop) → Prop
  | .code _, _ => True
  | .seq x y, Q => owes y Q ∧ owes x (thenQ (acpt P od Pn y Q) Q)
  | .cond _ x y, Q => owes x Q ∧ owes y Q
  | .block id c, Q => owes c (blockQ id Q)
  | .cut L c, Q => ∀ ρ m, L ρ m → cpt P od Pn c Q ρ m
  | .draw id ops p L, Q => ∀ r ρ m, L r ρ m → hdraw P ops (Q .normal) Pn (dropO p (od id)) r ρ m
end
theorem acpt_sound {od : Nat → Ord} {Pn : List PanicEntry → Mem → Prop} : ∀ (a : ACode) (Q : Exit → Env → Mem → Prop) (ρ : Env) (m : Mem), owes P od Pn a Q → acpt P od Pn a Q ρ m → cpt P od Pn a.erase Q ρ m
  | .code _, _, _, _, _, h => h
  | .seq x y, Q, ρ, m, ho, h => by
    refine cpt_mono x.erase (fun e ρ m k => ?_) ρ m (acpt_sound x _ ρ m ho.2 h)
    cases e with
    | normal => exact acpt_sound y Q ρ m ho.1 k
    | _ => exact k
  | .cond c x y, Q, ρ, m, ho, h => by
    simp only [acpt] at h
    simp only [ACode.erase, cpt]
    split at h
    · split at h
      · rename_i b hb
        dsimp only
        simp only [hb]
        exact Br.mono (acpt_sound x Q _ m ho.1) (acpt_sound y Q _ m ho.2) h
      · exact h.elim
    · exact Br.mono (acpt_sound x Q _ m ho.1) (acpt_sound y Q _ m ho.2) h
    · exact h.elim
  | .block id c, Q, ρ, m, ho, h => acpt_sound c _ ρ m ho h
  | .cut L c, Q, ρ, m, ho, h => ho ρ m h
  | .draw id ops p L, Q, ρ, m, ho, h => by
    obtain ⟨r, hr, h⟩ := h
    exact ⟨r, hr, hcut_sound rfl ho h⟩
end
end Go.H
