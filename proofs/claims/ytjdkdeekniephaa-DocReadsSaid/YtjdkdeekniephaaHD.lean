/- Functions with one deferred closure that recovers. -/
import Derived.Test.YtjdkdeekniephaaH7
import Derived.Recover
set_option linter.unusedSimpArgs false
namespace Go.H

def modeB : Option Value → FrameMode
  | none => .returning
  | some v => .panicking [{ v := v, recovered := false }]
def modeE : Option Value → FrameMode
  | none => .returning
  | some v => .panicking [{ v := v, recovered := true }]
/-- What 'recover' answers. -/
def recV : Option Value → Value
  | none => .nilIface
  | some v => v
/-- A deferred call that recovers. -/
def DF (P : Program) (g : FuncId) (args : Array Value) (x : Option Value) (m : Mem) (K : Mem → Prop) : Prop :=
  ∀ w, Fit m w → CallsD P g args (modeB x) w fun e u' w' => (∃ v, e = .returned v) ∧ u' = modeE x ∧ ∃ m', K m' ∧ Fit m' w' ∧ Fr m m' w w'
def DefR (P : Program) (g : FuncId) (args : Array Value) (K : Mem → Prop) : Ending → Mem → Prop
  | .returned _, m => DF P g args none m K
  | .panicked ch, m => ∃ v, ch = [{ v := v, recovered := false }] ∧ DF P g args (some v) m K
  | .outgrown, _ => False

theorem settle_modeE (x : Option Value) : settle (modeE x) = .returning := by cases x <;> simp [modeE, settle]

theorem results_low {P : Program} {fn : Func} {ρ : Env} {m : Mem} {tmps : Array Value} (hg : ∀ r ∈ fn.results.toList, ∀ t, (match r with | .tmp t' => t' | .cell t' _ => t') = t → tmps.getD t undef = ρ t) {K : List Value → Prop}
    (h : resT P ρ m fn.results.toList K) : ∃ vs, K vs ∧ ∀ w, Fit m w → (results fn tmps).run P w = .ok (pack vs) w := by
  have key : ∀ (l : List ResultVar) (K : List Value → Prop), (∀ r ∈ l, ∀ t, (match r with | .tmp t' => t' | .cell t' _ => t') = t → tmps.getD t undef = ρ t) → resT P ρ m l K →
      ∃ vs, K vs ∧ ∀ w, Fit m w → (l.mapM (m := Sem) fun | .tmp t => pure (tmps.getD t undef) | .cell b t => do loadVar t (← asAddr (tmps.getD b undef))).run P w = .ok vs w := by
    intro l
    induction l with
    | nil => intro K _ h; exact ⟨[], h, fun _ _ => rfl⟩
    | cons r l ih =>
      intro K hg h
      have hr := hg r (by simp)
      have hl := fun r' hr' => hg r' (List.mem_cons_of_mem _ hr')
      cases r with
      | tmp t =>
        obtain ⟨vs, hK, hrun⟩ := ih _ hl h
        refine ⟨_, hK, fun w hF => ?_⟩
        simp only [List.mapM_cons]
        rw [Sem.run_bind]
        simp only [Sem.run_pure, Result.andThen_ok]
        rw [Sem.run_bind, hrun w hF, hr t rfl]
        rfl
      | cell b t =>
        simp only [resT] at h
        split at h
        · rename_i bb o hb
          obtain ⟨v, h, hv⟩ := ldT_sound h
          obtain ⟨vs, hK, hrun⟩ := ih _ hl h
          refine ⟨_, hK, fun w hF => ?_⟩
          simp only [List.mapM_cons]
          rw [Sem.run_bind, hr b rfl, hb]
          have : (do loadVar t (← asAddr (.pointer (some ⟨bb, o, none⟩))) : Sem Value).run P w = .ok v w := by
            rw [Sem.run_bind]; exact hv w hF
          rw [this, Result.andThen_ok, Sem.run_bind, hrun w hF]
          rfl
        · exact h.elim
  obtain ⟨vs, hK, hr⟩ := key _ _ hg h
  refine ⟨vs, hK, fun w hF => ?_⟩
  unfold results
  rw [Array.mapM_eq_mapM_toList, Sem.run_bind, Sem.run_map]
  erw [hr w hF]
  simp only [Result.andThen_ok, Sem.run_pure]
  congr 1
  match vs with
  | [] => rfl
  | [v] => rfl
  | _ :: _ :: _ => simp [pack]

/-- What the code behind the deferral owes. -/
def restP (P : Program) (od : Nat → Ord) (fn : Func) (rest : Code) (g : FuncId) (caps : Array Value) (R : Ending → Mem → Prop) (ρ : Env) (m : Mem) : Prop :=
  let K : Mem → Prop := fun m' => resT P ρ m' fn.results.toList fun vs => R (.returned (pack vs)) m'
  cpt P od (panicR (DefR P g caps K)) rest (bodyQ P { fn with results := #[] } (DefR P g caps K)) ρ m

def lowRes (fn : Func) (lo : Nat) : Bool := fn.results.toList.all fun | .tmp t => Nat.blt t lo | .cell t _ => Nat.blt t lo

theorem HC_defer {P : Program} {tb : Nat → Tab} {f : FuncId} {fn gn : Func} {r0 rest : Code} {od : Nat → Ord} {args : Array Value} {m : Mem} {R : Ending → Mem → Prop}
    {id d lo : Nat} {g : FuncId} {capOps : Array Operand} {ty1 ty2 : TypeId} {p1 p2 : String} {a1' a2 : Array Edge} {tys : Array TypeId}
    (hf : P.funcs[f]? = some fn)
    (hb : fn.body = some (.seq r0 (.seq (.region id #[⟨some d, .makeFunc (.func g) #[] capOps, ty1, p1, a1', none⟩, ⟨none, .defer ⟨.value (.tmp d), #[], tys⟩, ty2, p2, a2, none⟩] false) rest)))
    (hg : P.funcs[g]? = some gn) (hgb : gn.body.isNone = false) (hgn : (gn.name == "runtime.NumGoroutine") = false)
    (hn : (fn.name == "runtime.NumGoroutine") = false) (hm : P.follows .mixedOrders = true)
    (hok0 : codeOk P od tb 0 fn.ntmps r0 = true) (hok : codeOk P od tb lo fn.ntmps rest = true) (hd : Nat.blt d fn.ntmps = true) (hlow : lowRes fn lo = true) (hsz : args.size ≤ fn.ntmps)
    (h : cpt P od (fun _ _ => False) r0 (fun e ρ m => e = .normal ∧ restP P od fn rest g (capOps.map (evr ρ)) R (upd ρ d (.func (.func g) #[] (capOps.map (evr ρ)))) m) (argE args.toList) m) : HC P f args m R := by
  refine .inl ⟨fun w => callFunc_enters hf hn (by rw [hb]; rfl) args w, fun w hF => ?_⟩
  refine calls_of_wp_defers hf hb ?_
  have hA : Ag fn.ntmps ⟨[], 0, fun _ => undef⟩ (argE args.toList) { tmps := args ++ Array.replicate (fn.ntmps - args.size) undef, defers := [] } := by
    refine ⟨by simp; omega, fun t => ?_, rfl, fun t ht => absurd ht (Nat.not_lt_zero t)⟩
    simp only [argE, Array.getD_eq_getD_getElem?, Array.getElem?_append, List.getD_eq_getElem?_getD, Array.getElem?_toList]
    split
    · rfl
    · rename_i hlt
      rw [Array.getElem?_replicate]
      have : args[t]? = none := by simp; omega
      rw [this]
      split <;> rfl
  refine wp_seq (Code.wp_mono (fun e a1 w1 hq => ?_) (cpt_sound hm r0 _ _ m hok0 h _ w hA hF m w (Fr.refl _ _)))
  cases e with
  | panic c => exact hq.2.choose_spec.1.elim
  | outgrown => exact hq.elim
  | ret => obtain ⟨ρ, m1, ⟨he, _⟩, _⟩ := hq; cases he
  | exit i => obtain ⟨ρ, m1, ⟨he, _⟩, _⟩ := hq; cases he
  | goto i => obtain ⟨ρ, m1, ⟨he, _⟩, _⟩ := hq; cases he
  | normal =>
    obtain ⟨ρ, m1, ⟨_, hr⟩, hA1, hF1, hf1⟩ := hq
    refine wp_seq (wp_region_list ?_)
    have hd' : d < fn.ntmps := by simpa using hd
    have hA2 := hA1.put (dst := some d) (fun d' e => by cases e; exact ⟨Nat.zero_le _, hd'⟩) (.func (.func g) #[] (capOps.map (evr ρ)))
    generalize hcaps : capOps.map (evr ρ) = caps at hr hA2
    have hinv : ∀ w : World, (invoke (.fn (.func g) caps) #[]).run P w = .ok (.enter g caps) w := by
      intro w
      show (callFunc g (#[] ++ caps)).run P w = _
      rw [Array.empty_append]
      exact callFunc_enters hg hgn hgb caps w
    have e1 : (execOp a1.eval ⟨some d, .makeFunc (.func g) #[] capOps, ty1, p1, a1', none⟩).run P w1 = .ok (.value (.func (.func g) #[] caps)) w1 := by
      rw [hA1.eval]
      simp [execOp, Instr.makeFunc, hcaps]
    have e2 : (execOp (a1.put (some d) (.func (.func g) #[] caps)).eval ⟨none, .defer ⟨.value (.tmp d), #[], tys⟩, ty2, p2, a2, none⟩).run P w1 = .ok (.defer { target := .fn (.func g) caps, args := #[] }) w1 := by
      rw [hA2.eval]
      simp [execOp, resolve, evr, putE, upd_same, Deferred.ofValue]
    refine .inl ?_
    unfold Oper.wp
    rw [e1]
    refine .inl ?_
    show Oper.wp P _ _ w1 _ _
    unfold Oper.wp
    rw [e2]
    rw [Oper.upon_defer]
    show rest.wp P _ _ w1
    generalize ha3 : (({ a1.put (some d) (.func (.func g) #[] caps) with defers := { target := .fn (.func g) caps, args := #[] } :: (a1.put (some d) (.func (.func g) #[] caps)).defers } : Act).put none undef) = a3
    have hA3 : Ag fn.ntmps ⟨[{ target := .fn (.func g) caps, args := #[] }], lo, upd ρ d (.func (.func g) #[] caps)⟩ (upd ρ d (.func (.func g) #[] caps)) a3 := by
      subst ha3
      exact ⟨hA2.size, hA2.get, congrArg _ hA2.defers, fun _ _ => rfl⟩
    have hz : ∀ (tm : Array Value), (∀ t, t < lo → tm.getD t undef = upd ρ d (.func (.func g) #[] caps) t) →
        ∀ r ∈ fn.results.toList, ∀ t, (match r with | .tmp t' => t' | .cell t' _ => t') = t → tm.getD t undef = upd ρ d (.func (.func g) #[] caps) t := by
      intro tm ht r hr t e
      have := List.all_eq_true.1 hlow r hr
      refine ht t ?_
      cases r <;> simp only at e this <;> subst e <;> simpa using this
    have fin : ∀ (x : Option Value) (tm : Array Value) (m2 : Mem) (w2 : World), (∀ t, t < lo → tm.getD t undef = upd ρ d (.func (.func g) #[] caps) t) → Fit m2 w2 → Fr m m2 w w2 →
        DF P g caps x m2 (fun m' => resT P (upd ρ d (.func (.func g) #[] caps)) m' fn.results.toList fun vs => R (.returned (pack vs)) m') →
        Leaves P fn tm (fun e w' => ∃ m', e ≠ .outgrown ∧ R e m' ∧ Fit m' w' ∧ Fr m m' w w') [{ target := .fn (.func g) caps, args := #[] }] (modeB x) w2 := by
      intro x tm m2 w2 ht hF2 hf2 hdf
      refine leaves_cons (f := g) (args := caps) (by cases x <;> simp [modeB]) (hinv _) ((hdf w2 hF2).mono ?_)
      rintro e u' w3 ⟨⟨v, rfl⟩, rfl, m3, hK, hF3, hf3⟩
      show Leaves P fn tm _ [] (settle (modeE x)) w3
      rw [settle_modeE]
      obtain ⟨vs, hR, hrun⟩ := results_low (hz tm ht) hK
      exact ⟨_, hrun w3 hF3, m3, by simp, hR, hF3, hf2.trans hf3⟩
    refine Code.wp_mono (fun e a' w' hq => ?_) (cpt_sound hm rest _ _ m1 hok hr a3 w1 hA3 hF1 m w hf1)
    have fin2 : ∀ {ρ' m'}, Ag fn.ntmps ⟨[{ target := .fn (.func g) caps, args := #[] }], lo, upd ρ d (.func (.func g) #[] caps)⟩ ρ' a' → Fit m' w' → Fr m m' w w' →
        DF P g caps none m' (fun m' => resT P (upd ρ d (.func (.func g) #[] caps)) m' fn.results.toList fun vs => R (.returned (pack vs)) m') →
        Leaves P fn a'.tmps (fun e w' => ∃ m', e ≠ .outgrown ∧ R e m' ∧ Fit m' w' ∧ Fr m m' w w') a'.defers .returning w' := by
      intro ρ' m' hA' hF' hf' hdf
      rw [hA'.defers]
      exact fin none a'.tmps m' w' hA'.pan.2 hF' hf' hdf
    cases e with
    | normal => obtain ⟨ρ', m', hK, hA', hF', hf'⟩ := hq; exact fin2 hA' hF' hf' hK
    | ret => obtain ⟨ρ', m', hK, hA', hF', hf'⟩ := hq; exact fin2 hA' hF' hf' hK
    | panic ch =>
      obtain ⟨⟨hd1, hlo⟩, m', ⟨v, hch, hp⟩, hF', hf'⟩ := hq
      subst hch
      show Leaves P fn a'.tmps _ a'.defers _ w'
      rw [hd1]
      exact fin (some v) a'.tmps m' w' hlo hF' hf' hp
    | outgrown => exact hq.elim
    | exit i => obtain ⟨ρ', m', hK, _⟩ := hq; exact hK.elim
    | goto i => obtain ⟨ρ', m', hK, _⟩ := hq; exact hK.elim

theorem wpOpsS_of_list {P : Program} {ops : Array Oper} {U : Exit → Act → World → Prop} {Q : Exit → Act → List Frame → World → Prop} {cs : List Frame}
    (hno : ∀ a w, ¬ U .outgrown a w) (hQ : ∀ e a w, U e a w → Q e a cs w) :
    ∀ (l : List Oper) (k : Nat), (∀ j, l[j]? = ops[k + j]?) → ∀ (a : Act) (w : World), wpList P ops U l a w → wpOpsS P ops Q (List.range' k l.length) a cs w
  | [], k, _, a, w, h => hQ _ _ _ h
  | o :: r, k, hl, a, w, h => by
    have ho : ops[k]? = some o := by have := hl 0; simpa using this.symm
    have ih := wpOpsS_of_list (P := P) hno hQ r (k + 1) (fun j => by have := hl (j + 1); simpa [Nat.add_assoc, Nat.add_comm 1 j] using this)
    simp only [wpList] at h
    show wpOpsS P ops Q (k :: List.range' (k + 1) r.length) a cs w
    simp only [wpOpsS, ho]
    by_cases hw : Region.wanted o (yielded ops a.tmps) = true
    · rw [if_pos hw] at h ⊢
      rcases h with h | ⟨_, a1, w1, h⟩
      · unfold Oper.wp at h
        generalize (execOp a.eval o).run P w = res at h ⊢
        cases res with
        | ok nx w' =>
          cases nx <;> simp only [Oper.upon] at h ⊢
          case value v => exact ih _ _ h
          case skip => exact ih _ _ h
          case defer d => exact ih _ _ h
          case enter g args =>
            refine h.mono fun e w'' he => ?_
            cases e with
            | returned v => exact ih _ _ he
            | panicked c => exact hQ _ _ _ he
            | outgrown => obtain ⟨a1, w1, he⟩ := he; exact (hno _ _ he).elim
          case row rw args => exact h.mono fun v w'' he => ih _ _ he
        | halt x w' =>
          cases x <;> simp only [Oper.upon] at h ⊢
          case panic v => exact hQ _ _ _ h
      · exact (hno _ _ h).elim
    · rw [if_neg hw] at h ⊢
      exact ih _ _ h

def doneQ (K : Mem → Prop) : Exit → Env → Mem → Prop
  | .normal, _, m => K m
  | .ret, _, m => K m
  | _, _, _ => False

theorem DF_of {P : Program} {tb : Nat → Tab} {od : Nat → Ord} {g : FuncId} {gn : Func} {caps : Array Value} {x : Option Value} {m : Mem} {K : Mem → Prop}
    {id d : Nat} {ops : Array Oper} {ol : List Oper} {rest : Code} {tys : Array TypeId} {ty : TypeId} {pos : String} {af : Array Edge}
    (hg : P.funcs[g]? = some gn) (hb : gn.body = some (.seq (.region id ops false) rest)) (hm : P.follows .mixedOrders = true)
    (ho : ops.toList = ⟨some d, .call ⟨.builtin .recover, #[], tys⟩, ty, pos, af, none⟩ :: ol)
    (hok : ops.toList.all (dstOk 0 gn.ntmps) = true) (hok' : codeOk P od tb 0 gn.ntmps rest = true) (hsz : caps.size ≤ gn.ntmps) (hres : gn.results = #[])
    (h : hops P ops (fun ρ m => cpt P od (fun _ _ => False) rest (doneQ K) ρ m) (fun _ _ => False) ol (upd (argE caps.toList) d (recV x)) m) :
    DF P g caps x m K := by
  intro w hF
  refine callsD_of_wpS hg hb fun c₀ cs hu => ?_
  refine wpS_seq (wpS_region ?_)
  have hA : Ag gn.ntmps ⟨[], 0, fun _ => undef⟩ (argE caps.toList) { tmps := caps ++ Array.replicate (gn.ntmps - caps.size) undef, defers := [] } := by
    refine ⟨by simp; omega, fun t => ?_, rfl, fun t ht => absurd ht (Nat.not_lt_zero t)⟩
    simp only [argE, Array.getD_eq_getD_getElem?, Array.getElem?_append, List.getD_eq_getElem?_getD, Array.getElem?_toList]
    split
    · rfl
    · rename_i hlt
      rw [Array.getElem?_replicate]
      have : caps[t]? = none := by simp; omega
      rw [this]
      split <;> rfl
  generalize ha : ({ tmps := caps ++ Array.replicate (gn.ntmps - caps.size) undef, defers := [] } : Act) = a at hA ⊢
  have hsize : ops.size = ol.length + 1 := by rw [← Array.length_toList, ho]; rfl
  have hget : ∀ j, ops[j]? = (⟨some d, .call ⟨.builtin .recover, #[], tys⟩, ty, pos, af, none⟩ :: ol)[j]? := fun j => by rw [← ho, Array.getElem?_toList]
  rw [ho, List.all_cons, Bool.and_eq_true] at hok
  have hA' := hA.put (dst := some d) (fun d' e => by cases e; exact dst_lt (ds := ⟨[], 0, fun _ => undef⟩) hok.1 d rfl) (recV x)
  rw [hsize, List.range_eq_range']
  show wpOpsS P ops _ (0 :: List.range' 1 ol.length) a (c₀ :: cs) w
  have h0 : ops[0]? = some ⟨some d, .call ⟨.builtin .recover, #[], tys⟩, ty, pos, af, none⟩ := by rw [hget]; rfl
  have hrun : (execOp a.eval ⟨some d, .call ⟨.builtin .recover, #[], tys⟩, ty, pos, af, none⟩).run P w = .ok .recover w := by
    simp [execOp, go_sem]
  simp only [wpOpsS, h0, Region.wanted, if_true, hrun]
  have key : wpOpsS P ops (Exit.thenS (rest.wpS P (bodyPostS P gn c₀ cs fun e u' w' => (∃ v, e = .returned v) ∧ u' = modeE x ∧ ∃ m', K m' ∧ Fit m' w' ∧ Fr m m' w w')) (bodyPostS P gn c₀ cs fun e u' w' => (∃ v, e = .returned v) ∧ u' = modeE x ∧ ∃ m', K m' ∧ Fit m' w' ∧ Fr m m' w w'))
      (List.range' 1 ol.length) (a.put (some d) (recV x)) ({ c₀ with mode := modeE x } :: cs) w := by
    refine wpOpsS_of_list (P := P) (U := UpQ gn.ntmps ⟨[], 0, fun _ => undef⟩ (thenQ (fun ρ m => cpt P od (fun _ _ => False) rest (doneQ K) ρ m) fun _ _ _ => False) (fun _ _ => False) m w) (fun a w hx => hx) (fun e a' w' hq => ?_) ol 1 (fun j => by rw [hget, Nat.add_comm]; rfl) _ w
      (hops_sound ol _ m _ w hA' hF hok.2 h m w (Fr.refl _ _))
    cases e with
    | normal =>
      obtain ⟨ρ1, m1, h1, hA1, hF1, hf1⟩ := hq
      refine wpS_of_wp (Code.wp_mono (fun e2 a2 w2 hq2 => ?_) (cpt_sound hm rest _ ρ1 m1 hok' h1 a' w' hA1 hF1 m w hf1))
      have fin : ∀ {ρ2 m2}, K m2 → Ag gn.ntmps ⟨[], 0, fun _ => undef⟩ ρ2 a2 → Fit m2 w2 → Fr m m2 w w2 →
          a2.defers = [] ∧ ∃ u', ({ c₀ with mode := modeE x } : Frame) :: cs = { c₀ with mode := u' } :: cs ∧ ∃ v, (results gn a2.tmps).run P w2 = .ok v w2 ∧ (∃ v', Ending.returned v = .returned v') ∧ u' = modeE x ∧ ∃ m', K m' ∧ Fit m' w2 ∧ Fr m m' w w2 := by
        intro ρ2 m2 hK hA2 hF2 hf2
        obtain ⟨vs, e, hrun⟩ := results_run (P := P) (m := m2) (fn := gn) (K := fun vs => vs = []) hA2 (by rw [hres]; exact rfl)
        exact ⟨hA2.defers, _, rfl, _, hrun w2 hF2, ⟨_, rfl⟩, rfl, m2, hK, hF2, hf2⟩
      cases e2 with
      | normal => obtain ⟨ρ2, m2, hK, hA2, hF2, hf2⟩ := hq2; exact fin hK hA2 hF2 hf2
      | ret => obtain ⟨ρ2, m2, hK, hA2, hF2, hf2⟩ := hq2; exact fin hK hA2 hF2 hf2
      | panic c => exact hq2.2.choose_spec.1.elim
      | outgrown => exact hq2.elim
      | exit i => obtain ⟨_, _, hK, _⟩ := hq2; exact hK.elim
      | goto i => obtain ⟨_, _, hK, _⟩ := hq2; exact hK.elim
    | panic c => exact hq.2.choose_spec.1.elim
    | outgrown => exact hq.elim
    | ret => obtain ⟨_, _, hK, _⟩ := hq; exact hK.elim
    | exit i => obtain ⟨_, _, hK, _⟩ := hq; exact hK.elim
    | goto i => obtain ⟨_, _, hK, _⟩ := hq; exact hK.elim
  cases x with
  | none =>
    have hrec : recoverD (c₀ :: cs) = none := by simp [recoverD, hu, modeB]
    simp only [hrec]
    have : ({ c₀ with mode := modeE none } : Frame) = c₀ := by
      have : c₀.mode = modeE none := hu
      rw [← this]
    rw [this] at key
    exact key
  | some v =>
    have hrec : recoverD (c₀ :: cs) = some (v, { c₀ with mode := modeE (some v) } :: cs) := by simp [recoverD, hu, modeB, modeE]
    simp only [hrec]
    exact key

end Go.H
