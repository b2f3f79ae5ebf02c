/- Regions that draw their order; code; a function's call. -/
import Derived.Test.YtjdkdeekniephaaH4
namespace Go.H

section
variable {P : Program} {ops : Array Oper} {Q : Exit → Act → World → Prop} {md : Region.Mode} {S : World → Prop} {late : Nat → Bool}

def offS (late : Nat → Bool) (listed : Array Bool) : Bool := (List.range listed.size).any fun k => late k && listed.getD k false
theorem offS_set {listed : Array Bool} {j : Nat} (h : offS late listed = false) (hj : late j = false) : offS late (listed.setIfInBounds j true) = false := by
  unfold offS at *
  rw [List.any_eq_false] at *
  intro k hk
  have hk' : k < listed.size := by simpa using hk
  have := h k (by simpa using hk')
  by_cases e : k = j
  · subst e; simp [hj]
  · simp only [Array.getD_eq_getD_getElem?, Bool.and_eq_true, not_and] at this ⊢
    intro hl
    have := this hl
    rw [Array.getElem?_setIfInBounds]
    rw [if_neg (Ne.symm e)]
    exact this

def wpAnyK (P : Program) (md : Region.Mode) (ops : Array Oper) (Q : Exit → Act → World → Prop) (S : World → Prop) (late : Nat → Bool) : Nat → Array Bool → Act → World → Prop
  | 0, listed, a, w => Region.ready md ops listed = [] ∧ Q .normal a w
  | fuel + 1, listed, a, w =>
    (Region.ready md ops listed = [] → Q .normal a w) ∧
    ∀ i ∈ Region.ready md ops listed, wpOp P ops Q i (fun a' w' => (offS late (listed.setIfInBounds i true) = false → S w') ∧ wpAnyK P md ops Q S late fuel (listed.setIfInBounds i true) a' w') a w

theorem wpAny_of_K : ∀ (fuel : Nat) (listed : Array Bool) (a : Act) (w : World), wpAnyK P md ops Q S late fuel listed a w → wpAny P md ops Q fuel listed a w
  | 0, _, _, _, h => h
  | fuel + 1, _, _, _, h => ⟨h.1, fun i hi => wpOp_mono (fun a' w' h' => wpAny_of_K fuel _ a' w' h'.2) (h.2 i hi)⟩

theorem wpAnyK_mono {S' : World → Prop} (hS : ∀ w, S w → S' w) : ∀ (fuel : Nat) (listed : Array Bool) (a : Act) (w : World), wpAnyK P md ops Q S late fuel listed a w → wpAnyK P md ops Q S' late fuel listed a w
  | 0, _, _, _, h => h
  | fuel + 1, _, _, _, h => ⟨h.1, fun i hi => wpOp_mono (fun a' w' h' => ⟨fun e => hS w' (h'.1 e), wpAnyK_mono hS fuel _ a' w' h'.2⟩) (h.2 i hi)⟩
/-- Once a late one has come the condition is no matter. -/
theorem wpAnyK_off {S' : World → Prop} : ∀ (fuel : Nat) (listed : Array Bool) (a : Act) (w : World), offS late listed = true → wpAnyK P md ops Q S late fuel listed a w → wpAnyK P md ops Q S' late fuel listed a w
  | 0, _, _, _, _, h => h
  | fuel + 1, listed, _, _, ho, h => ⟨h.1, fun i hi => wpOp_mono (fun a' w' h' => by
      have hon : offS late (listed.setIfInBounds i true) = true := by
        unfold offS at *
        rw [List.any_eq_true] at *
        obtain ⟨k, hk, h1⟩ := ho
        refine ⟨k, by simpa using hk, ?_⟩
        simp only [Array.getD_eq_getD_getElem?, Bool.and_eq_true] at h1 ⊢
        refine ⟨h1.1, ?_⟩
        rw [Array.getElem?_setIfInBounds]
        split
        · split <;> simp_all
        · exact h1.2
      exact And.intro (fun e => absurd (hon.symm.trans e) (by simp)) (wpAnyK_off fuel _ a' w' hon h'.2)) (h.2 i hi)⟩

/-- Ancestors of what is listed are listed. -/
def AC (anc : Nat → Nat) (listed : Array Bool) : Prop := ∀ j k, listed.getD j false = true → (anc j).testBit k = true → listed.getD k false = true
def AncOk (md : Region.Mode) (ops : Array Oper) (anc : Nat → Nat) : Prop :=
  ∀ j oj k, ops[j]? = some oj → (anc j).testBit k = true → (∃ e ∈ oj.after, Region.binds md e = true ∧ e.on = k) ∨ ∃ d, (∃ e ∈ oj.after, Region.binds md e = true ∧ e.on = d) ∧ (anc d).testBit k = true
theorem anc_listed {anc : Nat → Nat} (hA : AncOk md ops anc) {listed : Array Bool} (hC : AC anc listed) {j : Nat} (hj : j ∈ Region.ready md ops listed) {k : Nat} (hk : (anc j).testBit k = true) : listed.getD k false = true := by
  obtain ⟨_, oj, hoj, hall⟩ := mem_ready.1 hj
  rcases hA j oj k hoj hk with ⟨e, he, hb, rfl⟩ | ⟨d, ⟨e, he, hb, rfl⟩, hd⟩
  · exact hall e he hb
  · exact hC _ _ (hall e he hb) hd
theorem AC.step {anc : Nat → Nat} (hA : AncOk md ops anc) {listed : Array Bool} (hC : AC anc listed) {j : Nat} (hj : j ∈ Region.ready md ops listed) : AC anc (listed.setIfInBounds j true) := by
  have grow : ∀ k, listed.getD k false = true → (listed.setIfInBounds j true).getD k false = true := by
    intro k hk
    simp only [Array.getD_eq_getD_getElem?, Array.getElem?_setIfInBounds] at hk ⊢
    split
    · split <;> simp_all
    · exact hk
  intro x k hx hk
  by_cases e : x = j
  · subst e; exact grow k (anc_listed hA hC hj hk)
  · refine grow k (hC x k ?_ hk)
    simp only [Array.getD_eq_getD_getElem?, Array.getElem?_setIfInBounds] at hx ⊢
    rw [if_neg (Ne.symm e)] at hx
    exact hx

theorem wpAnyK_first {i : Nat} {oi : Oper} {v : Value} (hi : ops[i]? = some oi) (hsel : ∀ (j : Nat) (o : Oper) cs b, ops[j]? = some o → o.op ≠ .select cs b)
    (hQ : ∀ c a w, Q (.panic c) (a.put oi.dst v) w → Q (.panic c) a w) {anc : Nat → Nat} (hA : AncOk md ops anc)
    (hlate : ∀ j oj, ops[j]? = some oj → late j = true → (anc j).testBit i = true) (hli : late i = false) :
    ∀ (fuel : Nat) (listed : Array Bool) (a : Act) (w : World), AC anc listed →
      (∀ j oj, ops[j]? = some oj → j ≠ i → listed.getD j true = false → (∀ e ∈ oj.after, Region.binds md e = true → e.on ≠ i) → oi.apart ops oj = true) →
      i ∈ Region.ready md ops listed → YieldsIf P ops S oi v a → S w → offS late listed = false →
      wpAnyK P md ops Q S late fuel (listed.setIfInBounds i true) (a.put oi.dst v) w → wpAnyK P md ops Q S late (fuel + 1) listed a w := by
  intro fuel
  induction fuel with
  | zero =>
    intro listed a w _ _ hr hy hS _ H
    refine ⟨fun h => (by rw [h] at hr; cases hr), fun j hj => ?_⟩
    by_cases hji : j = i
    · subst hji; exact hy.wpOp hi hS ⟨fun _ => hS, H⟩
    · have := ready_mono hj hji
      rw [H.1] at this
      cases this
  | succ fuel ih =>
    intro listed a w hC hfree hr hy hS hoff H
    refine ⟨fun h => (by rw [h] at hr; cases hr), fun j hj => ?_⟩
    by_cases hji : j = i
    · subst hji; exact hy.wpOp hi hS ⟨fun _ => hS, H⟩
    · have h1 := H.2 j (ready_mono hj hji)
      obtain ⟨hjun, oj, hoj, hall⟩ := mem_ready.1 hj
      have hno : listed.getD i false = true → False := fun h1 => by
        have h0 := (mem_ready.1 hr).1
        rcases Nat.lt_or_ge i listed.size with h' | h'
        · simp [h'] at h0 h1; rw [h0] at h1; cases h1
        · simp [Array.getElem?_eq_none h'] at h1
      have hnot : ∀ e ∈ oj.after, Region.binds md e = true → e.on ≠ i := fun e he hb heq => by
        have h1 := hall e he hb
        rw [heq] at h1
        exact hno h1
      have hlj : late j = false := by
        cases hl : late j with
        | false => rfl
        | true => exact (hno (anc_listed hA hC hj (hlate j oj hoj hl))).elim
      have h2 := wpOp_putIf hoj (hfree j oj hoj hji hjun hnot) (fun cs b => hsel i oi cs b hi) (fun cs b => hsel j oj cs b hoj) hQ hy h1
      have hfree' : ∀ k ok, ops[k]? = some ok → k ≠ i → (listed.setIfInBounds j true).getD k true = false →
          (∀ e ∈ ok.after, Region.binds md e = true → e.on ≠ i) → oi.apart ops ok = true := fun k ok hk hki hun hno => by
        refine hfree k ok hk hki ?_ hno
        by_cases hjk : j = k
        · subst hjk; exact hjun
        · rw [getD_set_ne true hjk] at hun; exact hun
      have hoff1 := offS_set hoff hlj
      have hoff2 := offS_set (offS_set hoff hli) hlj
      refine wpOp_mono (fun a' w' h3 => ⟨fun _ => h3.2.1 hoff2, ih (listed.setIfInBounds j true) a' w' (hC.step hA hj) hfree' (ready_mono hr (Ne.symm hji)) h3.1 (h3.2.1 hoff2) hoff1 ?_⟩) h2
      rw [Array.setIfInBounds_comm _ _ hji]
      exact h3.2.2

theorem offS_add {listed : Array Bool} {i : Nat} (hli : late i = false) (h : offS late (listed.setIfInBounds i true) = true) : offS late listed = true := by
  cases ho : offS late listed with
  | true => rfl
  | false => rw [offS_set ho hli] at h; cases h
/-- What reads nothing may come first whatever else is listed. -/
theorem wpAnyK_pure {i : Nat} {oi : Oper} {v : Value} (hi : ops[i]? = some oi) (hsel : ∀ (j : Nat) (o : Oper) cs b, ops[j]? = some o → o.op ≠ .select cs b)
    (hQ : ∀ c a w, Q (.panic c) (a.put oi.dst v) w → Q (.panic c) a w) (hli : late i = false) :
    ∀ (fuel : Nat) (listed : Array Bool) (a : Act) (w : World),
      (∀ j oj, ops[j]? = some oj → j ≠ i → listed.getD j true = false → (∀ e ∈ oj.after, Region.binds md e = true → e.on ≠ i) → oi.apart ops oj = true) →
      i ∈ Region.ready md ops listed → YieldsIf P ops (fun _ => True) oi v a → (offS late listed = false → S w) →
      wpAnyK P md ops Q S late fuel (listed.setIfInBounds i true) (a.put oi.dst v) w → wpAnyK P md ops Q S late (fuel + 1) listed a w := by
  intro fuel
  induction fuel with
  | zero =>
    intro listed a w _ hr hy hS H
    refine ⟨fun h => (by rw [h] at hr; cases hr), fun j hj => ?_⟩
    by_cases hji : j = i
    · subst hji; exact hy.wpOp hi trivial ⟨fun ho => hS (by cases h : offS late listed with
        | false => rfl
        | true => exact absurd ho (by
            have : offS late (listed.setIfInBounds j true) = true := by
              cases h2 : offS late (listed.setIfInBounds j true) with
              | true => rfl
              | false =>
                exfalso
                unfold offS at h h2
                rw [List.any_eq_true] at h
                rw [List.any_eq_false] at h2
                obtain ⟨k, hk, h1⟩ := h
                refine h2 k (by simpa using hk) ?_
                simp only [Array.getD_eq_getD_getElem?, Bool.and_eq_true] at h1 ⊢
                refine ⟨h1.1, ?_⟩
                rw [Array.getElem?_setIfInBounds]
                split
                · split <;> simp_all
                · exact h1.2
            rw [this]; simp)), H⟩
    · have := ready_mono hj hji
      rw [H.1] at this
      cases this
  | succ fuel ih =>
    intro listed a w hfree hr hy hS H
    have mono : ∀ (l : Array Bool) (j : Nat), offS late (l.setIfInBounds j true) = false → offS late l = false := by
      intro l j h2
      cases h : offS late l with
      | false => rfl
      | true =>
        exfalso
        unfold offS at h h2
        rw [List.any_eq_true] at h
        rw [List.any_eq_false] at h2
        obtain ⟨k, hk, h1⟩ := h
        refine h2 k (by simpa using hk) ?_
        simp only [Array.getD_eq_getD_getElem?, Bool.and_eq_true] at h1 ⊢
        refine ⟨h1.1, ?_⟩
        rw [Array.getElem?_setIfInBounds]
        split
        · split <;> simp_all
        · exact h1.2
    refine ⟨fun h => (by rw [h] at hr; cases hr), fun j hj => ?_⟩
    by_cases hji : j = i
    · subst hji; exact hy.wpOp hi trivial ⟨fun ho => hS (mono _ _ ho), H⟩
    · have h1 := H.2 j (ready_mono hj hji)
      obtain ⟨hjun, oj, hoj, hall⟩ := mem_ready.1 hj
      have hno : listed.getD i false = true → False := fun h1 => by
        have h0 := (mem_ready.1 hr).1
        rcases Nat.lt_or_ge i listed.size with h' | h'
        · simp [h'] at h0 h1; rw [h0] at h1; cases h1
        · simp [Array.getElem?_eq_none h'] at h1
      have hnot : ∀ e ∈ oj.after, Region.binds md e = true → e.on ≠ i := fun e he hb heq => by
        have h1 := hall e he hb
        rw [heq] at h1
        exact hno h1
      have h2 := wpOp_putIf hoj (hfree j oj hoj hji hjun hnot) (fun cs b => hsel i oi cs b hi) (fun cs b => hsel j oj cs b hoj) hQ hy h1
      have hfree' : ∀ k ok, ops[k]? = some ok → k ≠ i → (listed.setIfInBounds j true).getD k true = false →
          (∀ e ∈ ok.after, Region.binds md e = true → e.on ≠ i) → oi.apart ops ok = true := fun k ok hk hki hun hno => by
        refine hfree k ok hk hki ?_ hno
        by_cases hjk : j = k
        · subst hjk; exact hjun
        · rw [getD_set_ne true hjk] at hun; exact hun
      have hsame : offS late (listed.setIfInBounds j true) = false → offS late ((listed.setIfInBounds i true).setIfInBounds j true) = false := by
        intro h
        rw [Array.setIfInBounds_comm _ _ (Ne.symm hji)]
        exact offS_set h hli
      refine wpOp_mono (fun a' w' h3 => ⟨fun ho => h3.2.1 (hsame ho), ih (listed.setIfInBounds j true) a' w' hfree' (ready_mono hr (Ne.symm hji)) h3.1 (fun ho => h3.2.1 (hsame ho)) ?_⟩) h2
      rw [Array.setIfInBounds_comm _ _ hji]
      exact h3.2.2
end

/-- r says no more than m. -/
def Le (r m : Mem) : Prop := ∀ b o, r b = some o → m b = some o
theorem Le.refl (m : Mem) : Le m m := fun _ _ h => h
theorem Le.trans {a b c : Mem} (h : Le a b) (k : Le b c) : Le a c := fun x o hx => k x o (h x o hx)
theorem Fit.le {r m : Mem} {w : World} (h : Fit m w) (l : Le r m) : Fit r w := fun b o hb => h b o (l b o hb)

/-- What has been read in a region stays behind a loud operation. -/
def Lk (r m' : Mem) (K : Mem → Prop) : Prop := ∃ r', Le r r' ∧ Le r' m' ∧ K r'
theorem Lk.all {r m' : Mem} {K : Mem → Prop} (h : Le r m') (k : K m') : Lk r m' K := ⟨m', h, Le.refl _, k⟩
def Sub (m : Mem) (K : Mem → Prop) : Prop := ∃ r, Le r m ∧ K r
theorem Sub.all {m : Mem} {K : Mem → Prop} (k : K m) : Sub m K := ⟨m, Le.refl _, k⟩

section
variable (P : Program) (ops : Array Oper)
def isPick : Op → Bool
  | .pick .. => true
  | _ => false
def isQuiet (o : Oper) : Bool := isPick o.op || quietOp P o.op

def quietP (ρ : Env) (m : Mem) (o : Oper) (K : Env → Prop) : Prop :=
  match o.op with
  | .pick c a b => pickP ρ o.dst c a b K
  | _ => qval P ρ m o (fun v => K (putE ρ o.dst v)) False

/-- An order of a region: one after another (number; 1: others may come ahead of it, 3: that too, and it reads nothing, 2: no reading free one comes behind it, 0: else); or two that may come either way round. -/
inductive Ord where
  | done
  | one (i : Nat) (fl : Nat) (r : Ord)
  | alt (i : Nat) (fi : Nat) (x : Ord) (j : Nat) (fj : Nat) (y : Ord)
def Ord.len : Ord → Nat
  | .done => 0
  | .one _ _ r => r.len + 1
  | .alt _ _ x _ _ _ => x.len + 1
def hstep (Pn : List PanicEntry → Mem → Prop) (i : Nat) (fl : Nat) (rest : Mem → Env → Mem → Prop) (r : Mem) (ρ : Env) (m : Mem) : Prop :=
  match ops[i]? with
  | none => False
  | some o =>
    guardP ops ρ o
      (fun ρ' => match fl with
        | 1 => quietP P ρ' r o fun ρ'' => rest r ρ'' m
        | 2 => oneP P ρ' m o (fun ρ'' m' => rest m' ρ'' m') Pn
        | 3 => quietP P ρ' (fun _ => none) o fun ρ'' => rest r ρ'' m
        | _ => bif isQuiet P o then quietP P ρ' m o fun ρ'' => rest r ρ'' m
                   else oneP P ρ' m o (fun ρ'' m' => Lk r m' fun r' => rest r' ρ'' m') Pn)
      (fun ρ' => rest r (putE ρ' o.dst undef) m)
/-- The walk of a region that draws, in the order π. -/
def hdraw (K : Env → Mem → Prop) (Pn : List PanicEntry → Mem → Prop) : Ord → Mem → Env → Mem → Prop
  | .done, _, ρ, m => K ρ m
  | .one i fl π, r, ρ, m => hstep P ops Pn i fl (hdraw K Pn π) r ρ m
  | .alt i fi x j fj y, r, ρ, m => hstep P ops Pn i fi (hdraw K Pn x) r ρ m ∧ hstep P ops Pn j fj (hdraw K Pn y) r ρ m

def afterM (o : Oper) : Nat := o.after.toList.foldl (fun s e => if Region.binds .any e then s ||| 2 ^ e.on else s) 0
def lateOn (D : Nat) (anc : Nat → Nat) (i : Nat) : Bool := (List.range ops.size).all fun j => !(D.testBit j) || (anc j).testBit i
def stepGo (D : Nat) (anc : Nat → Nat) (listed : Array Bool) (i fl : Nat) : Bool :=
  match ops[i]? with
  | none => false
  | some o =>
    match fl with
    | 1 => isQuiet P o && (Region.free .any ops listed i && ((Region.ready .any ops listed).contains i && (!(D.testBit i) && (!(offS (fun j => D.testBit j) listed) && lateOn ops D anc i))))
    | 3 => isQuiet P o && (Region.free .any ops listed i && ((Region.ready .any ops listed).contains i && !(D.testBit i)))
    | 2 => offS (fun j => D.testBit j) (listed.setIfInBounds i true)
    | _ => true
def isFree (fl : Nat) : Bool := Nat.beq fl 1 || Nat.beq fl 3
def drawGo (D : Nat) (anc : Nat → Nat) : Array Bool → Ord → Bool
  | listed, .done => (Region.ready .any ops listed).isEmpty
  | listed, .one i fl π => stepGo P ops D anc listed i fl && ((isFree fl || Region.ready .any ops listed == [i]) && drawGo D anc (listed.setIfInBounds i true) π)
  | listed, .alt i fi x j fj y =>
    ((!(Region.ready .any ops listed).isEmpty && (Region.ready .any ops listed).all fun k => Nat.beq k i || Nat.beq k j) && (Nat.beq x.len y.len && (!(isFree fi) && (!(isFree fj) && (stepGo P ops D anc listed i fi && stepGo P ops D anc listed j fj))))) &&
      (drawGo D anc (listed.setIfInBounds i true) x && drawGo D anc (listed.setIfInBounds j true) y)
def drawOk (D : Nat) (anc : Nat → Nat) (π : Ord) : Bool := Region.noSelect ops && π.len == ops.size && drawGo P ops D anc (Array.replicate ops.size false) π
end
section
variable (P : Program)

/-! ### the same check by numbers -/
def looksM (ops : Array Oper) (o : Oper) : Nat := (o.looksAt ops).foldl (fun s t => s ||| 2 ^ t) 0
def dstM (o : Oper) : Nat := match o.dst with | some d => d + 1 | none => 0
abbrev Row := Nat × Nat × Nat
def rowOf (ops : Array Oper) (o : Oper) : Row := (afterM o, looksM ops o, dstM o)
def rowsEq : List Row → List Row → Bool
  | [], [] => true
  | (a, b, c) :: r, (a', b', c') :: s => Nat.beq a a' && (Nat.beq b b' && (Nat.beq c c' && rowsEq r s))
  | _, _ => false
def apartM (x y : Row) : Bool :=
  (Nat.beq x.2.2 0 || (!(y.2.1.testBit (x.2.2 - 1)) && !(Nat.beq y.2.2 x.2.2))) && (Nat.beq y.2.2 0 || !(x.2.1.testBit (y.2.2 - 1)))
def readyM (L j : Nat) (x : Row) : Bool := !(L.testBit j) && Nat.beq (x.1 &&& L) x.1
/-- No other row than i (from j on) that is not listed fails f. -/
def allM (L i : Nat) (f : Nat → Row → Bool) : Nat → List Row → Bool
  | _, [] => true
  | j, x :: r => (Nat.beq j i || (L.testBit j || f j x)) && allM L i f (j + 1) r
def orAnc (mask : Nat) : Nat → List Nat → Nat
  | _, [] => 0
  | j, x :: r => (bif mask.testBit j then x else 0) ||| orAnc mask (j + 1) r
def ancM (all : List Nat) : List Nat → List Row → Bool
  | [], _ => true
  | x :: xs, r :: rs => Nat.beq (x &&& (r.1 ||| orAnc r.1 0 all)) x && ancM all xs rs
  | _ :: _, [] => false
def lateM (D i : Nat) : Nat → List Nat → Bool
  | _, [] => true
  | j, x :: r => (!(D.testBit j) || x.testBit i) && lateM D i (j + 1) r
def stepM (ops : Array Oper) (anc : List Nat) (tab : List Row) (D L i fl : Nat) (x : Row) : Bool :=
  match fl with
  | 1 => (match ops[i]? with | some o => isQuiet P o | none => false) && (readyM L i x && (allM L i (fun _ y => y.1.testBit i || apartM x y) 0 tab && (!(D.testBit i) && (Nat.beq (L &&& D) 0 && lateM D i 0 anc))))
  | 3 => (match ops[i]? with | some o => isQuiet P o | none => false) && (readyM L i x && (allM L i (fun _ y => y.1.testBit i || apartM x y) 0 tab && !(D.testBit i)))
  | 2 => D.testBit i || !(Nat.beq (L &&& D) 0)
  | _ => true
def goM (ops : Array Oper) (anc : List Nat) (tab : List Row) (D : Nat) : Nat → Ord → Bool
  | L, .done => allM L tab.length (fun j x => !readyM L j x) 0 tab
  | L, .one i fl π =>
    match tab[i]? with
    | some x => stepM P ops anc tab D L i fl x && ((isFree fl || (readyM L i x && allM L i (fun j y => !readyM L j y) 0 tab)) && goM ops anc tab D (L ||| 2 ^ i) π)
    | _ => false
  | L, .alt i fi x j fj y =>
    match tab[i]?, tab[j]? with
    | some u, some v =>
      ((readyM L i u && allM L i (fun k y => Nat.beq k j || !readyM L k y) 0 tab) && (Nat.beq x.len y.len && (!(isFree fi) && (!(isFree fj) && (stepM P ops anc tab D L i fi u && stepM P ops anc tab D L j fj v))))) && (goM ops anc tab D (L ||| 2 ^ i) x && goM ops anc tab D (L ||| 2 ^ j) y)
    | _, _ => false
abbrev Tab := Nat × List Nat × List Row
def drawM (ops : Array Oper) (tab : Tab) (π : Ord) : Bool :=
  Region.noSelect ops && (Nat.beq π.len ops.size && (rowsEq tab.2.2 (ops.toList.map (rowOf ops)) && ((ancM tab.2.1 tab.2.1 tab.2.2 && Nat.beq tab.2.1.length ops.size) && goM P ops tab.2.1 tab.2.2 tab.1 0 π)))
end

theorem rowsEq_eq : ∀ {a b : List Row}, rowsEq a b = true → a = b
  | [], [], _ => rfl
  | (a, b, c) :: r, (a', b', c') :: s, h => by
    simp only [rowsEq, Bool.and_eq_true] at h
    obtain ⟨h1, h2, h3, h4⟩ := h
    rw [Nat.eq_of_beq_eq_true h1, Nat.eq_of_beq_eq_true h2, Nat.eq_of_beq_eq_true h3, rowsEq_eq h4]
  | [], _ :: _, h => by simp [rowsEq] at h
  | _ :: _, [], h => by simp [rowsEq] at h

theorem testBit_orPow (s t k : Nat) : (s ||| 2 ^ t).testBit k = (s.testBit k || decide (t = k)) := by
  rw [Nat.testBit_or, Nat.testBit_two_pow]

theorem foldl_bits (f : Edge → Bool) : ∀ (l : List Edge) (s k : Nat),
    (l.foldl (fun s e => if f e then s ||| 2 ^ e.on else s) s).testBit k = (s.testBit k || l.any fun e => f e && decide (e.on = k))
  | [], s, k => by simp
  | e :: l, s, k => by
    rw [List.foldl_cons, foldl_bits f l]
    cases hf : f e with
    | true => simp only [if_true, testBit_orPow, List.any_cons, hf, Bool.true_and, Bool.or_assoc]
    | false => simp [hf]
theorem foldl_tmps : ∀ (l : List Nat) (s k : Nat), (l.foldl (fun s t => s ||| 2 ^ t) s).testBit k = (s.testBit k || l.contains k)
  | [], s, k => by simp
  | t :: l, s, k => by
    rw [List.foldl_cons, foldl_tmps l, testBit_orPow]
    have : (decide (t = k)) = (k == t) := by
      by_cases h : t = k
      · subst h; simp
      · have h' : ¬ k = t := fun e => h e.symm
        simp [h, h']
    rw [this, List.contains_cons, Bool.or_assoc]
theorem looksM_bit (ops : Array Oper) (o : Oper) (k : Nat) : (looksM ops o).testBit k = (o.looksAt ops).contains k := by
  unfold looksM; rw [foldl_tmps]; simp
theorem afterM_bit (o : Oper) (k : Nat) : (afterM o).testBit k = o.after.toList.any fun e => Region.binds .any e && decide (e.on = k) := by
  unfold afterM; rw [foldl_bits]; simp

theorem beq_dec (a b : Nat) : Nat.beq a b = decide (a = b) := by
  cases h : Nat.beq a b with
  | true => simp [Nat.eq_of_beq_eq_true h]
  | false =>
    have : ¬ a = b := fun e => by subst e; simp at h
    simp [this]
theorem apartM_eq (ops : Array Oper) (x y : Oper) : apartM (rowOf ops x) (rowOf ops y) = x.apart ops y := by
  unfold apartM Oper.apart rowOf
  simp only [looksM_bit, dstM, beq_dec]
  cases hx : x.dst with
  | none => cases hy : y.dst <;> simp
  | some d =>
    cases hy : y.dst with
    | none => simp
    | some d' =>
      have : (d' == d) = decide (d' = d) := by by_cases h : d' = d <;> simp [h]
      simp [bne, this]

/-- The listed ones, as bits. -/
def Bits (n L : Nat) (listed : Array Bool) : Prop := listed.size = n ∧ (∀ j, j < n → listed.getD j true = L.testBit j) ∧ ∀ j, n ≤ j → L.testBit j = false
theorem Bits.getF {n L : Nat} {listed : Array Bool} (h : Bits n L listed) (j : Nat) : listed.getD j false = L.testBit j := by
  by_cases hj : j < n
  · have := h.2.1 j hj
    simp [Array.getD_eq_getD_getElem?, h.1, hj] at this ⊢; exact this
  · rw [h.2.2 j (by omega)]; simp [Array.getD_eq_getD_getElem?, h.1, hj]
theorem Bits.set {n L : Nat} {listed : Array Bool} (h : Bits n L listed) {i : Nat} (hi : i < n) : Bits n (L ||| 2 ^ i) (listed.setIfInBounds i true) := by
  refine ⟨by simp [h.1], fun j hj => ?_, fun j hj => ?_⟩
  · rw [testBit_orPow]
    by_cases e : i = j
    · subst e; simp [Array.getD_eq_getD_getElem?, h.1, hi]
    · have := h.2.1 j hj
      simp only [e, decide_false, Bool.or_false]
      rw [← this]
      simp [Array.getD_eq_getD_getElem?, e]
  · rw [testBit_orPow, h.2.2 j hj]
    have : ¬ i = j := by omega
    simp [this]

theorem after_all {n L : Nat} {listed : Array Bool} (h : Bits n L listed) (o : Oper) :
    (o.after.all fun e => !Region.binds .any e || listed.getD e.on false) = Nat.beq (afterM o &&& L) (afterM o) := by
  have key : (o.after.all fun e => !Region.binds .any e || listed.getD e.on false) = true ↔ (afterM o &&& L) = afterM o := by
    rw [Array.all_eq_true_iff_forall_mem]
    constructor
    · intro hall
      apply Nat.eq_of_testBit_eq
      intro k
      rw [Nat.testBit_and]
      cases hb : (afterM o).testBit k with
      | false => simp
      | true =>
        rw [afterM_bit, List.any_eq_true] at hb
        obtain ⟨e, he, hk⟩ := hb
        simp only [Bool.and_eq_true, decide_eq_true_eq] at hk
        have := hall e (Array.mem_toList_iff.1 he)
        rw [h.getF] at this
        rw [hk.1, hk.2] at this
        simpa using this
    · intro heq e he
      rw [h.getF]
      cases hb : Region.binds .any e with
      | false => simp
      | true =>
        have : (afterM o).testBit e.on = true := by
          rw [afterM_bit, List.any_eq_true]
          exact ⟨e, Array.mem_toList_iff.2 he, by simp [hb]⟩
        rw [← heq, Nat.testBit_and] at this
        simp only [Bool.and_eq_true] at this
        simp [this.2]
  by_cases hx : (afterM o &&& L) = afterM o
  · rw [key.2 hx, hx]; simp
  · have h1 : (o.after.all fun e => !Region.binds .any e || listed.getD e.on false) = false := by
      cases hh : (o.after.all fun e => !Region.binds .any e || listed.getD e.on false) with
      | false => rfl
      | true => exact absurd (key.1 hh) hx
    rw [h1]
    cases hb : Nat.beq (afterM o &&& L) (afterM o) with
    | false => rfl
    | true => exact absurd (Nat.eq_of_beq_eq_true hb) hx

theorem mem_ready_iff {n L : Nat} {listed : Array Bool} {ops : Array Oper} (hn : ops.size = n) (h : Bits n L listed) {j : Nat} {o : Oper} (ho : ops[j]? = some o) :
    j ∈ Region.ready .any ops listed ↔ readyM L j (rowOf ops o) = true := by
  have hj : j < n := by
    rw [← hn]
    rcases Nat.lt_or_ge j ops.size with h1 | h1
    · exact h1
    · rw [Array.getElem?_eq_none h1] at ho; cases ho
  unfold Region.ready readyM rowOf
  simp only [List.mem_filter, List.mem_range, hn, hj, true_and, ho, Option.map_some, Option.getD_some, Bool.and_eq_true]
  rw [after_all h o, h.2.1 j hj]

theorem allM_get {L i : Nat} {f : Nat → Row → Bool} : ∀ {l : List Row} {j : Nat}, allM L i f j l = true → ∀ k x, l[k]? = some x → j + k ≠ i → L.testBit (j + k) = false → f (j + k) x = true
  | [], j, _, k, x, hk, _, _ => by simp at hk
  | y :: r, j, h, k, x, hk, hne, hL => by
    simp only [allM, Bool.and_eq_true, Bool.or_eq_true] at h
    cases k with
    | zero =>
      simp at hk; subst hk
      rcases h.1 with hb | hb | hb
      · exact absurd (Nat.eq_of_beq_eq_true hb) hne
      · rw [Nat.add_zero] at hL; rw [hL] at hb; cases hb
      · exact hb
    | succ k =>
      have := allM_get h.2 k x (by simpa using hk) (by omega) (by rw [show j + 1 + k = j + (k + 1) by omega]; exact hL)
      rw [show j + (k + 1) = j + 1 + k by omega]; exact this

theorem filter_one {l : List Nat} (hl : l.Nodup) {p : Nat → Bool} {i : Nat} (hi : i ∈ l) (hp : p i = true) (ho : ∀ j ∈ l, j ≠ i → p j = false) : l.filter p = [i] := by
  induction l with
  | nil => cases hi
  | cons a r ih =>
    rw [List.nodup_cons] at hl
    by_cases e : a = i
    · subst e
      rw [List.filter_cons, if_pos hp]
      congr 1
      rw [List.filter_eq_nil_iff]
      intro j hj hpj
      have hne : j ≠ a := fun e => by subst e; exact hl.1 hj
      rw [ho j (by simp [hj]) hne] at hpj; cases hpj
    · rw [List.filter_cons, if_neg (by rw [ho a (by simp) e]; simp)]
      refine ih hl.2 ?_ (fun j hj => ho j (by simp [hj]))
      rcases List.mem_cons.1 hi with h | h
      · exact absurd h.symm e
      · exact h

theorem lateM_get {D i : Nat} : ∀ {l : List Nat} {j : Nat}, lateM D i j l = true → ∀ k x, l[k]? = some x → D.testBit (j + k) = true → x.testBit i = true
  | [], j, _, k, x, hk, _ => by simp at hk
  | y :: r, j, h, k, x, hk, hD => by
    simp only [lateM, Bool.and_eq_true, Bool.or_eq_true] at h
    cases k with
    | zero =>
      simp at hk; subst hk
      rcases h.1 with hb | hb
      · rw [Nat.add_zero] at hD; rw [hD] at hb; cases hb
      · exact hb
    | succ k => exact lateM_get h.2 k x (by simpa using hk) (by rw [show j + 1 + k = j + (k + 1) by omega]; exact hD)
theorem orAnc_bit {mask k : Nat} : ∀ {l : List Nat} {j : Nat}, (orAnc mask j l).testBit k = true → ∃ d x, mask.testBit (j + d) = true ∧ l[d]? = some x ∧ x.testBit k = true
  | [], j, h => by simp [orAnc] at h
  | x :: r, j, h => by
    unfold orAnc at h
    rw [Nat.testBit_or, Bool.or_eq_true] at h
    rcases h with h | h
    · cases hm : mask.testBit j with
      | true => rw [hm] at h; exact ⟨0, x, by simpa using hm, rfl, h⟩
      | false => rw [hm] at h; simp at h
    · obtain ⟨d, y, h1, h2, h3⟩ := orAnc_bit h
      exact ⟨d + 1, y, by rw [show j + (d + 1) = j + 1 + d by omega]; exact h1, by simpa using h2, h3⟩
theorem ancM_get {all : List Nat} : ∀ {xs : List Nat} {rs : List Row}, ancM all xs rs = true → ∀ (k x : Nat), xs[k]? = some x → ∃ r : Row, rs[k]? = some r ∧ x &&& (r.1 ||| orAnc r.1 0 all) = x
  | [], _, _, k, x, hk => by simp at hk
  | y :: xs, [], h, _, _, _ => by simp [ancM] at h
  | y :: xs, r :: rs, h, k, x, hk => by
    simp only [ancM, Bool.and_eq_true] at h
    cases k with
    | zero => simp at hk; subst hk; exact ⟨r, rfl, Nat.eq_of_beq_eq_true h.1⟩
    | succ k => simpa using ancM_get h.2 k x (by simpa using hk)
def ancF (anc : List Nat) : Nat → Nat := fun j => anc.getD j 0
theorem offS_bits {n L D : Nat} {listed : Array Bool} (h : Bits n L listed) : offS (fun j => D.testBit j) listed = !(Nat.beq (L &&& D) 0) := by
  unfold offS
  cases hb : Nat.beq (L &&& D) 0 with
  | true =>
    have h0 := Nat.eq_of_beq_eq_true hb
    show _ = false
    rw [List.any_eq_false]
    intro k _ hk
    simp only [Bool.and_eq_true] at hk
    rw [h.getF] at hk
    have : (L &&& D).testBit k = true := by rw [Nat.testBit_and, hk.1, hk.2]; rfl
    rw [h0] at this; simp at this
  | false =>
    show _ = true
    have hne : L &&& D ≠ 0 := fun e => by rw [e] at hb; cases hb
    obtain ⟨k, hk⟩ := Nat.exists_testBit_of_ne_zero hne
    rw [Nat.testBit_and, Bool.and_eq_true] at hk
    rw [List.any_eq_true]
    refine ⟨k, ?_, ?_⟩
    · rw [List.mem_range, h.1]
      rcases Nat.lt_or_ge k n with h1 | h1
      · exact h1
      · rw [h.2.2 k h1] at hk; cases hk.1
    · simp only [Bool.and_eq_true]
      rw [h.getF]; exact ⟨hk.2, hk.1⟩
theorem lt_of_get {ops : Array Oper} {i : Nat} {o : Oper} (h : ops[i]? = some o) : i < ops.size := by
  rcases Nat.lt_or_ge i ops.size with h1 | h1
  · exact h1
  · rw [Array.getElem?_eq_none h1] at h; cases h
theorem row_get {ops : Array Oper} {k : Nat} {z : Row} (hz : (ops.toList.map (rowOf ops))[k]? = some z) : k < ops.size ∧ ∃ o, ops[k]? = some o ∧ z = rowOf ops o := by
  rw [List.getElem?_map] at hz
  cases hk : ops.toList[k]? with
  | none => rw [hk] at hz; cases hz
  | some o =>
    rw [hk] at hz
    have hk' : ops[k]? = some o := by simpa using hk
    exact ⟨lt_of_get hk', o, hk', by cases hz; rfl⟩
theorem stepM_sound {P : Program} {ops : Array Oper} {n : Nat} (hn : ops.size = n) {anc : List Nat} (hal : anc.length = n) {D L i fl : Nat} {listed : Array Bool} (hB : Bits n L listed) {o : Oper} (ho : ops[i]? = some o)
    (h : stepM P ops anc (ops.toList.map (rowOf ops)) D L i fl (rowOf ops o) = true) : stepGo P ops D (ancF anc) listed i fl = true := by
  have hi : i < n := by rw [← hn]; exact lt_of_get ho
  unfold stepM at h
  unfold stepGo
  simp only [ho]
  split at h
  · simp only [ho, Bool.and_eq_true] at h
    obtain ⟨hq, hr, ha, hd, h0, hl⟩ := h
    simp only [Bool.and_eq_true]
    refine ⟨hq, ?_, ?_, hd, ?_, ?_⟩
    · unfold Region.free
      rw [ho]
      simp only [List.all_eq_true, List.mem_range]
      intro j hj
      by_cases e : j = i
      · simp [e]
      · by_cases hl : listed.getD j true = true
        · simp [hl]
        · have hjo : ops[j]? = some ops[j] := by simp [hj]
          have hL : L.testBit j = false := by rw [← hB.2.1 j (by omega)]; simpa using hl
          have := allM_get ha j (rowOf ops ops[j]) (by simp [hj]) (by simpa using e) (by simpa using hL)
          simp only [Bool.or_eq_true] at this
          rw [hjo]
          simp only [Bool.or_eq_true]
          right
          rcases this with h1 | h1
          · left
            have h1 : (afterM ops[j]).testBit i = true := h1
            rw [afterM_bit, List.any_eq_true] at h1
            obtain ⟨e', he', hk⟩ := h1
            rw [← Array.any_toList, List.any_eq_true]
            refine ⟨e', he', ?_⟩
            simp only [Bool.and_eq_true, decide_eq_true_eq] at hk
            simp [hk.1, hk.2]
          · right; rw [← apartM_eq]; exact h1
    · simpa using (mem_ready_iff hn hB ho).2 hr
    · rw [offS_bits hB, h0]; rfl
    · unfold lateOn
      rw [List.all_eq_true]
      intro j hj
      rw [List.mem_range] at hj
      have hjo : ops[j]? = some ops[j] := by simp [hj]
      cases hdj : D.testBit j with
      | false => rfl
      | true =>
        have hja : anc[j]? = some (anc[j]'(by omega)) := List.getElem?_eq_getElem (by omega)
        have := lateM_get hl j _ hja (by simpa using hdj)
        unfold ancF
        rw [List.getD_eq_getElem?_getD, hja]
        simpa using this
  · simp only [ho, Bool.and_eq_true] at h
    obtain ⟨hq, hr, ha, hd⟩ := h
    simp only [Bool.and_eq_true]
    refine ⟨hq, ?_, ?_, hd⟩
    · unfold Region.free
      rw [ho]
      simp only [List.all_eq_true, List.mem_range]
      intro j hj
      by_cases e : j = i
      · simp [e]
      · by_cases hl : listed.getD j true = true
        · simp [hl]
        · have hjo : ops[j]? = some ops[j] := by simp [hj]
          have hL : L.testBit j = false := by rw [← hB.2.1 j (by omega)]; simpa using hl
          have := allM_get ha j (rowOf ops ops[j]) (by simp [hj]) (by simpa using e) (by simpa using hL)
          simp only [Bool.or_eq_true] at this
          rw [hjo]
          simp only [Bool.or_eq_true]
          right
          rcases this with h1 | h1
          · left
            have h1 : (afterM ops[j]).testBit i = true := h1
            rw [afterM_bit, List.any_eq_true] at h1
            obtain ⟨e', he', hk⟩ := h1
            rw [← Array.any_toList, List.any_eq_true]
            refine ⟨e', he', ?_⟩
            simp only [Bool.and_eq_true, decide_eq_true_eq] at hk
            simp [hk.1, hk.2]
          · right; rw [← apartM_eq]; exact h1
    · simpa using (mem_ready_iff hn hB ho).2 hr
  · have hB2 := hB.set hi
    rw [offS_bits hB2]
    simp only [Bool.or_eq_true] at h
    cases hb : Nat.beq ((L ||| 2 ^ i) &&& D) 0 with
    | false => rfl
    | true =>
      exfalso
      have h0 := Nat.eq_of_beq_eq_true hb
      rcases h with h | h
      · have : ((L ||| 2 ^ i) &&& D).testBit i = true := by rw [Nat.testBit_and, testBit_orPow, h]; simp
        rw [h0] at this; simp at this
      · have hne : L &&& D ≠ 0 := fun e => by rw [e] at h; cases h
        obtain ⟨k, hk⟩ := Nat.exists_testBit_of_ne_zero hne
        rw [Nat.testBit_and, Bool.and_eq_true] at hk
        have : ((L ||| 2 ^ i) &&& D).testBit k = true := by rw [Nat.testBit_and, testBit_orPow, hk.1, hk.2]; rfl
        rw [h0] at this; simp at this
  · rfl
theorem goM_sound {P : Program} {ops : Array Oper} {n : Nat} (hn : ops.size = n) {anc : List Nat} (hal : anc.length = n) {D : Nat} : ∀ (π : Ord) (L : Nat) (listed : Array Bool), Bits n L listed →
    goM P ops anc (ops.toList.map (rowOf ops)) D L π = true → drawGo P ops D (ancF anc) listed π = true
  | .done, L, listed, hB, h => by
    simp only [goM] at h
    simp only [drawGo, List.isEmpty_iff]
    rw [List.eq_nil_iff_forall_not_mem]
    intro j hj
    obtain ⟨hjl, o, ho, _⟩ := mem_ready.1 hj
    have hjn : j < n := by rw [← hn]; exact lt_of_get ho
    have hr := (mem_ready_iff hn hB ho).1 hj
    have hL : L.testBit j = false := by
      unfold readyM at hr; simp only [Bool.and_eq_true] at hr; simpa using hr.1
    have := allM_get h j (rowOf ops o) (by simp [ho]) (by simp [hn]; omega) (by simpa using hL)
    simp only [Nat.zero_add] at this
    rw [hr] at this; cases this
  | .one i fl π, L, listed, hB, h => by
    simp only [goM] at h
    split at h
    · rename_i x hx
      obtain ⟨hin, o, ho, rfl⟩ := row_get hx
      simp only [Bool.and_eq_true] at h
      obtain ⟨h1, h2, h3⟩ := h
      have hi : i < n := by omega
      simp only [drawGo, Bool.and_eq_true]
      refine ⟨stepM_sound hn hal hB ho h1, ?_, goM_sound hn hal π _ _ (hB.set hi) h3⟩
      simp only [Bool.or_eq_true, Bool.and_eq_true] at h2 ⊢
      rcases h2 with h2 | ⟨hr, ha⟩
      · exact .inl h2
      · right
        have hri := (mem_ready_iff hn hB ho).2 hr
        have : Region.ready .any ops listed = [i] := by
          unfold Region.ready at hri ⊢
          rw [List.mem_filter] at hri
          refine filter_one (List.nodup_range) hri.1 hri.2 ?_
          intro j hj hne
          have hjn : j < ops.size := by simpa using hj
          have hjo : ops[j]? = some ops[j] := by simp [hjn]
          by_cases hL : L.testBit j = true
          · have : listed.getD j true = true := by rw [hB.2.1 j (by omega)]; exact hL
            simp [this]
          · have hL' : L.testBit j = false := by simpa using hL
            have := allM_get ha j (rowOf ops ops[j]) (by simp [hjn]) (by simpa using hne) (by simpa using hL')
            simp only [Nat.zero_add, Bool.not_eq_true'] at this
            have hnm : ¬ j ∈ Region.ready .any ops listed := fun hm => by
              rw [(mem_ready_iff hn hB hjo).1 hm] at this; cases this
            unfold Region.ready at hnm
            rw [List.mem_filter] at hnm
            cases hp : (!listed.getD j true && ((ops[j]?).map (·.after.all fun e => !Region.binds .any e || listed.getD e.on false)).getD false) with
            | false => rfl
            | true => exact absurd ⟨hj, hp⟩ hnm
        simp [this]
    · cases h
  | .alt i fi x j fj y, L, listed, hB, h => by
    simp only [goM] at h
    split at h
    · rename_i u v hu hv
      simp only [Bool.and_eq_true] at h
      obtain ⟨⟨⟨hr, ha⟩, hlen, hf1, hf2, hs1, hs2⟩, h1, h2⟩ := h
      obtain ⟨hin, oi, hoi, rfl⟩ := row_get hu
      obtain ⟨hjn, oj, hoj, rfl⟩ := row_get hv
      have hri := (mem_ready_iff hn hB hoi).2 hr
      simp only [drawGo, Bool.and_eq_true]
      refine ⟨⟨⟨?_, ?_⟩, hlen, hf1, hf2, stepM_sound hn hal hB hoi hs1, stepM_sound hn hal hB hoj hs2⟩, goM_sound hn hal x _ _ (hB.set (by omega)) h1, goM_sound hn hal y _ _ (hB.set (by omega)) h2⟩
      · cases hR : Region.ready .any ops listed with
        | nil => rw [hR] at hri; cases hri
        | cons _ _ => rfl
      · rw [List.all_eq_true]
        intro k hk
        by_cases e : k = i
        · subst e; simp
        · obtain ⟨hkl, o, ho, _⟩ := mem_ready.1 hk
          have hkr := (mem_ready_iff hn hB ho).1 hk
          have hL : L.testBit k = false := by
            have hkr' := hkr
            unfold readyM at hkr'; simp only [Bool.and_eq_true] at hkr'; simpa using hkr'.1
          have := allM_get ha k (rowOf ops o) (by simp [ho]) (by simpa using e) (by simpa using hL)
          simp only [Nat.zero_add] at this
          rw [hkr] at this
          simp only [Bool.not_true, Bool.or_false] at this
          rw [this]; simp
    · cases h

theorem drawM_sound {P : Program} {ops : Array Oper} {tab : Tab} {π : Ord} (h : drawM P ops tab π = true) : drawOk P ops tab.1 (ancF tab.2.1) π = true ∧ AncOk .any ops (ancF tab.2.1) := by
  obtain ⟨D, anc, tab⟩ := tab
  unfold drawM at h
  unfold drawOk
  simp only [Bool.and_eq_true] at h ⊢
  obtain ⟨h1, h2, h3, ⟨h5, h6⟩, h4⟩ := h
  have := rowsEq_eq h3
  subst this
  have hl := Nat.eq_of_beq_eq_true h6
  refine ⟨⟨⟨h1, by simpa using Nat.eq_of_beq_eq_true h2⟩, ?_⟩, ?_⟩
  · refine goM_sound rfl hl π 0 _ ⟨by simp, fun j hj => ?_, fun j _ => by simp⟩ h4
    simp [Array.getD_eq_getD_getElem?, hj]
  · intro j oj k hoj hk
    have hjl := lt_of_get hoj
    have hja : anc[j]? = some (anc[j]'(by omega)) := List.getElem?_eq_getElem (by omega)
    have hk' : (anc[j]'(by omega)).testBit k = true := by
      unfold ancF at hk
      rw [List.getD_eq_getElem?_getD, hja] at hk
      simpa using hk
    obtain ⟨r, hr, he⟩ := ancM_get h5 j _ hja
    have hr' : r = rowOf ops oj := by
      simp only [List.getElem?_map, Array.getElem?_toList, hoj] at hr
      simpa using hr.symm
    subst hr'
    rw [← he, Nat.testBit_and, Bool.and_eq_true, Nat.testBit_or, Bool.or_eq_true] at hk'
    have conv : ∀ d, (rowOf ops oj).1.testBit d = true → ∃ e ∈ oj.after, Region.binds .any e = true ∧ e.on = d := by
      intro d hd
      have hd : (afterM oj).testBit d = true := hd
      rw [afterM_bit, List.any_eq_true] at hd
      obtain ⟨e, he, hx⟩ := hd
      simp only [Bool.and_eq_true, decide_eq_true_eq] at hx
      exact ⟨e, Array.mem_toList_iff.1 he, hx⟩
    rcases hk'.2 with hx | hx
    · exact .inl (conv k hx)
    · obtain ⟨d, x, g1, g2, g3⟩ := orAnc_bit hx
      refine .inr ⟨d, conv d (by simpa using g1), ?_⟩
      unfold ancF
      rw [List.getD_eq_getElem?_getD, g2]; exact g3

theorem wpAnyK_take {P : Program} {ops : Array Oper} {Q : Exit → Act → World → Prop} {md : Region.Mode} {S : World → Prop} {late : Nat → Bool} {i : Nat} {oi : Oper} {v : Value} {fuel : Nat} {listed : Array Bool} {a : Act} {w : World} (hi : ops[i]? = some oi)
    (hs : Region.noSelect ops = true) (hf : Region.free md ops listed i = true) (hr : (Region.ready md ops listed).contains i = true)
    (hQ : ∀ c a w, Q (.panic c) (a.put oi.dst v) w → Q (.panic c) a w) {anc : Nat → Nat} (hA : AncOk md ops anc) (hC : AC anc listed)
    (hlate : ∀ j oj, ops[j]? = some oj → late j = true → (anc j).testBit i = true) (hli : late i = false)
    (hy : YieldsIf P ops S oi v a) (hS : S w) (hoff : offS late listed = false)
    (h : wpAnyK P md ops Q S late fuel (listed.setIfInBounds i true) (a.put oi.dst v) w) : wpAnyK P md ops Q S late (fuel + 1) listed a w :=
  wpAnyK_first hi (Region.noSelect_spec hs) hQ hA hlate hli fuel listed a w hC (Region.free_spec hi hf) (by simpa using hr) hy hS hoff h
theorem fit_none (w : World) : Fit (fun _ => none) w := fun b o h => by cases h
theorem quiet_yields {P : Program} {n : Nat} {ds : DS} {ρ : Env} {r : Mem} {a : Act} {o : Oper} {K : Env → Prop} {ops : Array Oper}
    (hA : Ag n ds ρ a) (hw : Region.wanted o (yielded ops a.tmps) = true) (h : quietP P ρ r o K) :
    ∃ v, K (putE ρ o.dst v) ∧ YieldsIf P ops (Fit r) o v a := by
  unfold quietP at h
  split at h
  · rename_i c x y hop
    obtain ⟨v, hK, hr⟩ := pick_sound (P := P) hop h
    exact ⟨v, hK, .inl ⟨hw, fun w _ => by rw [hA.eval]; exact hr w⟩⟩
  · rcases qval_sound h with ⟨v, hK, hr⟩ | ⟨hN, _⟩
    · exact ⟨v, hK, .inl ⟨hw, fun w hf => by rw [hA.eval]; exact hr w hf⟩⟩
    · exact hN.elim

/-- One operation, its panics told of the base. -/
theorem one_base {P : Program} {m m0 : Mem} {w w0 : World} {n : Nat} {ds : DS} {ρ : Env} {a : Act} {o : Oper}
    {K : Env → Mem → Prop} {Q : Exit → Env → Mem → Prop} {Pn : List PanicEntry → Mem → Prop} (f : Fr m0 m w0 w)
    (hA : Ag n ds ρ a) (hF : Fit m w) (hd : ∀ d, o.dst = some d → ds.lo ≤ d ∧ d < n) (hk : oneP P ρ m o K Pn) :
    o.wp P a w (UpA n ds K m w) (UpQ n ds Q Pn m0 w0) := by
  have h1 := one_sound (Q := Q) hA hF hd hk
  unfold Oper.wp at h1 ⊢
  generalize (execOp a.eval o).run P w = res at h1 ⊢
  cases res with
  | ok nx w' =>
    cases nx <;> simp only [Oper.upon] at h1 ⊢ <;> try exact h1
    case enter g args =>
      refine h1.mono fun e w'' he => ?_
      cases e with
      | returned v => exact he
      | panicked c => exact UpQ.of f he
      | outgrown => obtain ⟨a1, w1, he⟩ := he; exact he.elim
  | halt x w' =>
    cases x <;> simp only [Oper.upon] at h1 ⊢
    case panic v => exact UpQ.of f h1

theorem hstep_sound {P : Program} {n : Nat} {ds : DS} {ops : Array Oper} {Q : Exit → Env → Mem → Prop} {Pn : List PanicEntry → Mem → Prop}
    (hall : ops.toList.all (dstOk ds.lo n) = true) {D : Nat} {anc : Nat → Nat} (m0 : Mem) (w0 : World) {rest : Mem → Env → Mem → Prop} {listed : Array Bool} {fuel : Nat} {i fl : Nat} {r : Mem} {ρ : Env} {m : Mem} {a : Act} {w : World}
    (hgo : stepGo P ops D anc listed i fl = true) (hfl : isFree fl = false)
    (ih : ∀ (r : Mem) (ρ : Env) (m : Mem) (a : Act) (w : World), Ag n ds ρ a → Fit m w → Le r m → Fr m0 m w0 w → rest r ρ m → wpAnyK P .any ops (UpQ n ds Q Pn m0 w0) (Fit r) (fun j => D.testBit j) fuel (listed.setIfInBounds i true) a w)
    (hA : Ag n ds ρ a) (hF : Fit m w) (hle : Le r m) (f : Fr m0 m w0 w) (h : hstep P ops Pn i fl rest r ρ m) :
    wpOp P ops (UpQ n ds Q Pn m0 w0) i (fun a' w' => (offS (fun j => D.testBit j) (listed.setIfInBounds i true) = false → Fit r w') ∧ wpAnyK P .any ops (UpQ n ds Q Pn m0 w0) (Fit r) (fun j => D.testBit j) fuel (listed.setIfInBounds i true) a' w') a w := by
  unfold hstep at h
  unfold stepGo at hgo
  cases ho : ops[i]? with
  | none => rw [ho] at h; exact h.elim
  | some o =>
    simp only [ho] at h hgo
    have hd : ∀ d, o.dst = some d → ds.lo ≤ d ∧ d < n := dst_lt (by
      have hm : o ∈ ops.toList := by simpa using Array.mem_of_getElem? ho
      exact List.all_eq_true.1 hall o hm)
    have hFr := hF.le hle
    rcases guard_sound hA h with ⟨hw, hk⟩ | ⟨hw, hs⟩
    · split at hk
      · cases hfl
      · have hoff : offS (fun j => D.testBit j) (listed.setIfInBounds i true) = true := hgo
        unfold wpOp
        simp only [ho]
        rw [if_pos hw]
        refine .inl (Oper.wp_mono (fun a' w' hk' => ?_) (one_base f hA hF hd hk))
        obtain ⟨ρ', m', hK, hA', hF', hf'⟩ := hk'
        exact ⟨fun e => absurd (hoff.symm.trans e) (by simp), wpAnyK_off _ _ _ _ hoff (ih m' ρ' m' a' w' hA' hF' (Le.refl _) (f.trans hf') hK)⟩
      · cases hfl
      · cases hq : isQuiet P o with
        | true =>
          rw [hq] at hk; simp only [cond_true] at hk
          obtain ⟨v, hK, hy⟩ := quiet_yields (ops := ops) hA hw hk
          exact hy.wpOp ho hF ⟨fun _ => hFr, ih r _ m _ w (hA.put hd v) hF hle f hK⟩
        | false =>
          rw [hq] at hk; simp only [cond_false] at hk
          unfold wpOp
          simp only [ho]
          rw [if_pos hw]
          refine .inl (Oper.wp_mono (fun a' w' hk' => ?_) (one_base f hA hF hd hk))
          obtain ⟨ρ', m', ⟨r', h1, h2, hK⟩, hA', hF', hf'⟩ := hk'
          exact ⟨fun _ => (hF'.le h2).le h1, wpAnyK_mono (fun w hw => hw.le h1) _ _ _ _ (ih r' ρ' m' a' w' hA' hF' h2 (f.trans hf') hK)⟩
    · unfold wpOp
      simp only [ho]
      rw [if_neg (by simp [hw])]
      exact ⟨fun _ => hFr, ih r _ m _ w (hA.put hd undef) hF hle f hs⟩

theorem hdraw_sound {P : Program} {n : Nat} {ds : DS} {ops : Array Oper} {Q : Exit → Env → Mem → Prop} {Pn : List PanicEntry → Mem → Prop}
    (hsel : Region.noSelect ops = true) (hall : ops.toList.all (dstOk ds.lo n) = true) {D : Nat} {anc : Nat → Nat} (hAn : AncOk .any ops anc) (m0 : Mem) (w0 : World) :
    ∀ (π : Ord) (listed : Array Bool) (r : Mem) (ρ : Env) (m : Mem) (a : Act) (w : World), drawGo P ops D anc listed π = true → AC anc listed → Ag n ds ρ a → Fit m w → Le r m → Fr m0 m w0 w →
      hdraw P ops (Q .normal) Pn π r ρ m → wpAnyK P .any ops (UpQ n ds Q Pn m0 w0) (Fit r) (fun j => D.testBit j) π.len listed a w
  | .done, listed, r, ρ, m, a, w, hgo, hC, hA, hF, _, f, h => ⟨by simpa [drawGo] using hgo, ρ, m, h, hA, hF, f⟩
  | .one i fl π, listed, r, ρ, m, a, w, hgo, hC, hA, hF, hle, f, h => by
    simp only [drawGo, Bool.and_eq_true] at hgo
    obtain ⟨hst, hrd, hgo⟩ := hgo
    simp only [hdraw] at h
    have hFr := hF.le hle
    cases hfl : isFree fl with
    | true =>
      unfold hstep at h
      unfold stepGo at hst
      cases ho : ops[i]? with
      | none => simp [ho] at hst
      | some o =>
        simp only [ho] at hst h
        have hd : ∀ d, o.dst = some d → ds.lo ≤ d ∧ d < n := dst_lt (by
          have hm : o ∈ ops.toList := by simpa using Array.mem_of_getElem? ho
          exact List.all_eq_true.1 hall o hm)
        have hQ : ∀ v c (a : Act) w, UpQ n ds Q Pn m0 w0 (.panic c) (a.put o.dst v) w → UpQ n ds Q Pn m0 w0 (.panic c) a w := by
          intro v c a w hq
          obtain ⟨⟨h1, h3⟩, h2⟩ := hq
          cases hdst : o.dst with
          | none => exact ⟨⟨by simpa [Act.put, hdst] using h1, by simpa [Act.put, hdst] using h3⟩, h2⟩
          | some d =>
            refine ⟨⟨by simpa [Act.put, hdst] using h1, fun t ht => ?_⟩, h2⟩
            have h3 := h3 t ht
            have hlo := (hd d hdst).1
            have e : ¬ d = t := fun e => by subst e; exact absurd ht (Nat.not_lt.2 hlo)
            rw [← h3]
            simp [Act.put, hdst, Array.getD_eq_getD_getElem?, e]
        unfold isFree at hfl
        rw [Bool.or_eq_true] at hfl
        rcases hfl with e | e
        · have e := Nat.eq_of_beq_eq_true e
          subst e
          simp only [Bool.and_eq_true] at hst
          obtain ⟨_, hfree, hready, hli, hoff, hlat⟩ := hst
          have hC' := hC.step hAn (by simpa using hready : i ∈ _)
          have hli' : D.testBit i = false := by simpa using hli
          have hoff' : offS (fun j => D.testBit j) listed = false := by simpa using hoff
          have hlate : ∀ j oj, ops[j]? = some oj → (fun j => D.testBit j) j = true → (anc j).testBit i = true := by
            intro j oj hj hD
            have hjl := lt_of_get hj
            unfold lateOn at hlat
            rw [List.all_eq_true] at hlat
            have := hlat j (by simpa using hjl)
            have hD : D.testBit j = true := hD
            rw [hD] at this
            simpa using this
          rcases guard_sound hA h with ⟨hw, hk⟩ | ⟨hw, hs⟩
          · obtain ⟨v, hK, hy⟩ := quiet_yields (ops := ops) hA hw hk
            exact wpAnyK_take ho hsel hfree hready (hQ v) hAn hC hlate hli' hy hFr hoff' (hdraw_sound hsel hall hAn m0 w0 π _ r _ m _ w hgo hC' (hA.put hd v) hF hle f hK)
          · exact wpAnyK_take ho hsel hfree hready (hQ undef) hAn hC hlate hli' (.inr ⟨hw, rfl⟩) hFr hoff' (hdraw_sound hsel hall hAn m0 w0 π _ r _ m _ w hgo hC' (hA.put hd undef) hF hle f hs)
        · have e := Nat.eq_of_beq_eq_true e
          subst e
          simp only [Bool.and_eq_true] at hst
          obtain ⟨_, hfree, hready, hli⟩ := hst
          have hC' := hC.step hAn (by simpa using hready : i ∈ _)
          have hli' : D.testBit i = false := by simpa using hli
          rcases guard_sound hA h with ⟨hw, hk⟩ | ⟨hw, hs⟩
          · obtain ⟨v, hK, hy⟩ := quiet_yields (ops := ops) hA hw hk
            have hy' : YieldsIf P ops (fun _ => True) o v a := hy.imp (fun ⟨h1, h2⟩ => ⟨h1, fun w _ => h2 w (fit_none w)⟩) id
            exact wpAnyK_pure ho (Region.noSelect_spec hsel) (hQ v) hli' _ _ _ _ (Region.free_spec ho hfree) (by simpa using hready) hy' (fun _ => hFr) (hdraw_sound hsel hall hAn m0 w0 π _ r _ m _ w hgo hC' (hA.put hd v) hF hle f hK)
          · exact wpAnyK_pure ho (Region.noSelect_spec hsel) (hQ undef) hli' _ _ _ _ (Region.free_spec ho hfree) (by simpa using hready) (.inr ⟨hw, rfl⟩) (fun _ => hFr) (hdraw_sound hsel hall hAn m0 w0 π _ r _ m _ w hgo hC' (hA.put hd undef) hF hle f hs)
    | false =>
      have hi' : Region.ready .any ops listed = [i] := by
        rw [hfl] at hrd
        simpa using hrd
      have hC' := hC.step hAn (by rw [hi']; simp : i ∈ _)
      refine ⟨fun h0 => (by rw [h0] at hi'; cases hi'), fun j hj => ?_⟩
      have hj' : j = i := by rw [hi'] at hj; simpa using hj
      subst hj'
      exact hstep_sound hall m0 w0 hst hfl (fun r ρ m a w h1 h2 h3 h4 h5 => hdraw_sound hsel hall hAn m0 w0 π _ r ρ m a w hgo hC' h1 h2 h3 h4 h5) hA hF hle f h
  | .alt i fi x j fj y, listed, r, ρ, m, a, w, hgo, hC, hA, hF, hle, f, h => by
    simp only [drawGo, Bool.and_eq_true] at hgo
    obtain ⟨⟨⟨hne, hk⟩, hlen, hf1, hf2, hs1, hs2⟩, g1, g2⟩ := hgo
    simp only [hdraw] at h
    have hl := Nat.eq_of_beq_eq_true hlen
    have hfi : isFree fi = false := by simpa using hf1
    have hfj : isFree fj = false := by simpa using hf2
    refine ⟨fun e => (by rw [e] at hne; cases hne), fun k hk' => ?_⟩
    rw [List.all_eq_true] at hk
    have hkij := hk k hk'
    simp only [Bool.or_eq_true] at hkij
    have hC' := hC.step hAn hk'
    by_cases e : k = i
    · subst e
      exact hstep_sound hall m0 w0 hs1 hfi (fun r ρ m a w h1 h2 h3 h4 h5 => hdraw_sound hsel hall hAn m0 w0 x _ r ρ m a w g1 hC' h1 h2 h3 h4 h5) hA hF hle f h.1
    · have e : k = j := by
        rcases hkij with e' | e'
        · exact absurd (Nat.eq_of_beq_eq_true e') e
        · exact Nat.eq_of_beq_eq_true e'
      subst e
      have := hstep_sound hall m0 w0 hs2 hfj (fun r ρ m a w h1 h2 h3 h4 h5 => hdraw_sound hsel hall hAn m0 w0 y _ r ρ m a w g2 hC' h1 h2 h3 h4 h5) hA hF hle f h.2
      rw [← hl] at this
      exact this

/-! ### code -/
section
variable (P : Program) (od : Nat → Ord) (Pn : List PanicEntry → Mem → Prop)
def thenQ (K : Env → Mem → Prop) (Q : Exit → Env → Mem → Prop) : Exit → Env → Mem → Prop
  | .normal => K
  | e => Q e
def blockQ (id : Nat) (Q : Exit → Env → Mem → Prop) : Exit → Env → Mem → Prop
  | .exit i => match Nat.beq i id with | true => Q .normal | false => Q (.exit i)
  | e => Q e
def cpt : Code → (Exit → Env → Mem → Prop) → Env → Mem → Prop
  | .skip, Q, ρ, m => Q .normal ρ m
  | .label _, Q, ρ, m => Q .normal ρ m
  | .exit id, Q, ρ, m => Q (.exit id) ρ m
  | .ret, Q, ρ, m => Q .ret ρ m
  | .region id ops draw, Q, ρ, m =>
    match draw with
    | false => hops P ops (Q .normal) Pn ops.toList ρ m
    | true => Sub m fun r => hdraw P ops (Q .normal) Pn (od id) r ρ m
  | .seq x y, Q, ρ, m => cpt x (thenQ (cpt y Q) Q) ρ m
  | .cond c x y, Q, ρ, m =>
    match c with
    | .tmp t => match ρ t with
      | .bool b => Br b (cpt x Q (upd ρ t (.bool true)) m) (cpt y Q (upd ρ t (.bool false)) m)
      | _ => False
    | .const (.bool b) => Br b (cpt x Q ρ m) (cpt y Q ρ m)
    | _ => False
  | .block id c, Q, ρ, m => cpt c (blockQ id Q) ρ m
  | .loop c, Q, ρ, m => ∃ (I : Nat → Env → Mem → Prop) (N : Nat), I N ρ m ∧ ∀ N ρ m, I N ρ m → cpt c (thenQ (fun ρ' m' => ∃ N', N' < N ∧ I N' ρ' m') Q) ρ m
  | _, _, _, _ => False

def codeOk (tb : Nat → Tab) (lo n : Nat) : Code → Bool
  | .region id ops draw => ops.toList.all (dstOk lo n) && (match draw with | true => drawM P ops (tb id) (od id) | false => true)
  | .seq x y => codeOk tb lo n x && codeOk tb lo n y
  | .cond _ x y => codeOk tb lo n x && codeOk tb lo n y
  | .block _ c => codeOk tb lo n c
  | .loop c => codeOk tb lo n c
  | _ => true
end

theorem least {p : Nat → Prop} {N : Nat} (h : p N) : ∃ k, p k ∧ ∀ j, j < k → ¬ p j := by
  induction N using Nat.strongRecOn with
  | _ N ih =>
    by_cases hx : ∃ j, j < N ∧ p j
    · obtain ⟨j, hj, hp⟩ := hx; exact ih j hj hp
    · exact ⟨N, h, fun j hj hp => hx ⟨j, hj, hp⟩⟩

/-- A loop by a number that every round lowers, whatever the state says of it. -/
theorem wp_loop_rel {P : Program} {c : Code} {Q : Exit → Act → World → Prop} {a : Act} {w : World} (I : Nat → Act → World → Prop) (N : Nat) (h0 : I N a w)
    (round : ∀ N a w, I N a w → c.wp P (Exit.then (fun a' w' => ∃ N', N' < N ∧ I N' a' w') Q) a w) : (Code.loop c).wp P Q a w := by
  have hex : ∀ a w, (∃ N, I N a w) → ∃ k, I k a w ∧ ∀ j, j < k → ¬ I j a w := fun a w ⟨N, h⟩ => least h
  refine wp_loop (fun a w => ∃ N, I N a w) (fun a w => @dite _ (∃ N, I N a w) (Classical.propDecidable _) (fun h => Classical.choose (hex a w h)) (fun _ => 0)) ⟨N, h0⟩ ?_
  intro a w h
  have hs := Classical.choose_spec (hex a w h)
  refine Code.wp_mono (fun e a' w' hq => ?_) (round _ a w hs.1)
  cases e with
  | normal =>
    obtain ⟨N', hlt, hI⟩ := hq
    refine ⟨⟨N', hI⟩, ?_⟩
    have h' : ∃ N, I N a' w' := ⟨N', hI⟩
    have hs' := Classical.choose_spec (hex a' w' h')
    rw [dif_pos h', dif_pos h]
    refine Nat.lt_of_le_of_lt (Nat.le_of_not_lt fun hx => hs'.2 _ hx hI) hlt
  | _ => exact hq

theorem cpt_sound {P : Program} {tb : Nat → Tab} {od : Nat → Ord} {n : Nat} {ds : DS} {Pn : List PanicEntry → Mem → Prop} (hm : P.follows .mixedOrders = true) :
    ∀ (c : Code) (Q : Exit → Env → Mem → Prop) (ρ : Env) (m : Mem), codeOk P od tb ds.lo n c = true → cpt P od Pn c Q ρ m →
      ∀ (a : Act) (w : World), Ag n ds ρ a → Fit m w → ∀ (m0 : Mem) (w0 : World), Fr m0 m w0 w → c.wp P (UpQ n ds Q Pn m0 w0) a w := by
  intro c
  induction c with
  | skip => intro Q ρ m _ h a w hA hF m0 w0 f; exact wp_skip ⟨ρ, m, h, hA, hF, f⟩
  | label l => intro Q ρ m _ h a w hA hF m0 w0 f; exact wp_label ⟨ρ, m, h, hA, hF, f⟩
  | exit id => intro Q ρ m _ h a w hA hF m0 w0 f; exact wp_exit ⟨ρ, m, h, hA, hF, f⟩
  | ret => intro Q ρ m _ h a w hA hF m0 w0 f; exact wp_ret ⟨ρ, m, h, hA, hF, f⟩
  | region id ops draw =>
    intro Q ρ m hok h a w hA hF m0 w0 f
    simp only [codeOk, Bool.and_eq_true] at hok
    cases draw with
    | false => exact wp_region_list (hops_sound ops.toList ρ m a w hA hF hok.1 h m0 w0 f)
    | true =>
      obtain ⟨r, hle, h⟩ := h
      obtain ⟨hdr, hAn⟩ := drawM_sound hok.2
      simp only [drawOk, Bool.and_eq_true] at hdr
      have hlen : (od id).len = ops.size := by simpa using hdr.1.2
      refine wp_region_any hm (wpAny_of_K (S := Fit r) (late := fun j => (tb id).1.testBit j) _ _ _ _ ?_)
      rw [← hlen]
      have hF' : Fit m { w with drawn := w.drawn + 1 } := hF
      have f' : Fr m0 m w0 { w with drawn := w.drawn + 1 } := ⟨f.os, f.tape, f.output, f.size, f.block, f.dom⟩
      have hgo := hdr.2
      rw [← hlen] at hgo
      have hC0 : AC (ancF (tb id).2.1) (Array.replicate ops.size false) := by
        intro j k hj hk
        rw [Array.getD_eq_getD_getElem?, Array.getElem?_replicate] at hj
        split at hj <;> simp at hj
      rw [← hlen] at hC0
      exact hdraw_sound hdr.1.1 hok.1 hAn m0 w0 _ _ r ρ m a _ hgo hC0 hA hF' hle f' h
  | seq x y ihx ihy =>
    intro Q ρ m hok h a w hA hF m0 w0 f
    simp only [codeOk, Bool.and_eq_true] at hok
    refine wp_seq (Code.wp_mono (fun e a' w' hq => ?_) (ihx _ ρ m hok.1 h a w hA hF m0 w0 f))
    cases e with
    | normal => obtain ⟨ρ', m', hK, hA', hF', f'⟩ := hq; exact ihy Q ρ' m' hok.2 hK a' w' hA' hF' m0 w0 f'
    | _ => exact hq
  | cond c x y ihx ihy =>
    intro Q ρ m hok h a w hA hF m0 w0 f
    simp only [codeOk, Bool.and_eq_true] at hok
    simp only [cpt] at h
    split at h
    · rename_i t
      split at h
      · rename_i b hb
        have he : a.eval (.tmp t) = .bool b := by rw [hA.eval]; exact hb
        cases b with
        | true =>
          have h' : cpt P od Pn x Q (upd ρ t (.bool true)) m := h
          rw [upd_self hb] at h'
          exact wp_cond_true he (ihx Q ρ m hok.1 h' a w hA hF m0 w0 f)
        | false =>
          have h' : cpt P od Pn y Q (upd ρ t (.bool false)) m := h
          rw [upd_self hb] at h'
          exact wp_cond_false he (ihy Q ρ m hok.2 h' a w hA hF m0 w0 f)
      · exact h.elim
    · rename_i b
      cases b with
      | true => exact wp_cond_true rfl (ihx Q ρ m hok.1 h a w hA hF m0 w0 f)
      | false => exact wp_cond_false rfl (ihy Q ρ m hok.2 h a w hA hF m0 w0 f)
    · exact h.elim
  | block id c ih =>
    intro Q ρ m hok h a w hA hF m0 w0 f
    refine wp_block (Code.wp_mono (fun e a' w' hq => ?_) (ih _ ρ m hok h a w hA hF m0 w0 f))
    cases e with
    | exit i =>
      have hq' : UpA n ds (blockQ id Q (.exit i)) m0 w0 a' w' := hq
      show if i = id then UpQ n ds Q Pn m0 w0 .normal a' w' else UpQ n ds Q Pn m0 w0 (.exit i) a' w'
      cases hb : Nat.beq i id with
      | true =>
        rw [if_pos (Nat.eq_of_beq_eq_true hb)]
        show UpA n ds (Q .normal) m0 w0 a' w'
        simpa [blockQ, hb] using hq'
      | false =>
        rw [if_neg (fun e => by rw [e] at hb; simp at hb)]
        show UpA n ds (Q (.exit i)) m0 w0 a' w'
        simpa [blockQ, hb] using hq'
    | _ => exact hq
  | loop c ih =>
    intro Q ρ m hok h a w hA hF m0 w0 f
    obtain ⟨I, N, h0, hr⟩ := h
    refine wp_loop_rel (fun N a w => UpA n ds (I N) m0 w0 a w) N ⟨ρ, m, h0, hA, hF, f⟩ ?_
    intro N a w hI
    obtain ⟨ρ', m', hI, hA', hF', f'⟩ := hI
    refine Code.wp_mono (fun e a' w' hq => ?_) (ih _ ρ' m' hok (hr N ρ' m' hI) a w hA' hF' m0 w0 f')
    cases e with
    | normal =>
      obtain ⟨ρ'', m'', ⟨N', hlt, hI'⟩, rest⟩ := hq
      exact ⟨N', hlt, ρ'', m'', hI', rest⟩
    | _ => exact hq
  | rangeFunc => intro Q ρ m _ h; exact h.elim
  | scope => intro Q ρ m _ h; exact h.elim
  | goto => intro Q ρ m _ h; exact h.elim
  | refuse => intro Q ρ m _ h; exact h.elim

/-! ### a function's call -/
def argE (args : List Value) : Env := fun t => args.getD t undef

def resT (P : Program) (ρ : Env) (m : Mem) : List ResultVar → (List Value → Prop) → Prop
  | [], K => K []
  | .tmp t :: r, K => resT P ρ m r fun vs => K (ρ t :: vs)
  | .cell a t :: r, K => match ρ a with
    | .pointer (some ⟨b, o, none⟩) => ldT P t m b o fun v => resT P ρ m r fun vs => K (v :: vs)
    | _ => False
def pack : List Value → Value
  | [v] => v
  | vs => .tuple vs.toArray
def bodyQ (P : Program) (fn : Func) (R : Ending → Mem → Prop) : Exit → Env → Mem → Prop
  | .normal, ρ, m => resT P ρ m fn.results.toList fun vs => R (.returned (pack vs)) m
  | .ret, ρ, m => resT P ρ m fn.results.toList fun vs => R (.returned (pack vs)) m
  | _, _, _ => False
def panicR (R : Ending → Mem → Prop) : List PanicEntry → Mem → Prop := fun ch m => R (.panicked ch) m

theorem resT_sound {P : Program} {n : Nat} {ds : DS} {ρ : Env} {m : Mem} {a : Act} (hA : Ag n ds ρ a) : ∀ (l : List ResultVar) (K : List Value → Prop), resT P ρ m l K →
    ∃ vs, K vs ∧ ∀ w, Fit m w → (l.mapM (m := Sem) fun | .tmp t => pure (a.tmps.getD t undef) | .cell b t => do loadVar t (← asAddr (a.tmps.getD b undef))).run P w = .ok vs w
  | [], K, h => ⟨[], h, fun _ _ => rfl⟩
  | .tmp t :: r, K, h => by
    obtain ⟨vs, hK, hr⟩ := resT_sound hA r _ h
    refine ⟨_, hK, fun w hF => ?_⟩
    simp only [List.mapM_cons]
    rw [Sem.run_bind]
    simp only [Sem.run_pure, Result.andThen_ok]
    rw [Sem.run_bind, hr w hF, hA.get]
    rfl
  | .cell b t :: r, K, h => by
    simp only [resT] at h
    split at h
    · rename_i bb o hb
      obtain ⟨v, h, hv⟩ := ldT_sound h
      obtain ⟨vs, hK, hr⟩ := resT_sound hA r _ h
      refine ⟨_, hK, fun w hF => ?_⟩
      simp only [List.mapM_cons]
      rw [Sem.run_bind, hA.get, hb]
      have : (do loadVar t (← asAddr (.pointer (some ⟨bb, o, none⟩))) : Sem Value).run P w = .ok v w := by
        rw [Sem.run_bind]; exact hv w hF
      rw [this, Result.andThen_ok, Sem.run_bind, hr w hF]
      rfl
    · exact h.elim

theorem results_run {P : Program} {n : Nat} {ds : DS} {ρ : Env} {m : Mem} {a : Act} {fn : Func} {K : List Value → Prop} (hA : Ag n ds ρ a)
    (h : resT P ρ m fn.results.toList K) : ∃ vs, K vs ∧ ∀ w, Fit m w → (results fn a.tmps).run P w = .ok (pack vs) w := by
  obtain ⟨vs, hK, hr⟩ := resT_sound hA _ _ h
  refine ⟨vs, hK, fun w hF => ?_⟩
  unfold results
  rw [Array.mapM_eq_mapM_toList, Sem.run_bind, Sem.run_map]
  erw [hr w hF]
  simp only [Result.andThen_ok, Sem.run_pure]
  congr 1
  match vs with
  | [] => rfl
  | [v] => rfl
  | _ :: _ :: _ => simp [pack]

theorem HC_of {P : Program} {tb : Nat → Tab} {f : FuncId} {fn : Func} {c : Code} {od : Nat → Ord} {args : Array Value} {m : Mem} {R : Ending → Mem → Prop}
    (hf : P.funcs[f]? = some fn) (hb : fn.body = some c) (hn : (fn.name == "runtime.NumGoroutine") = false) (hm : P.follows .mixedOrders = true)
    (hok : codeOk P od tb 0 fn.ntmps c = true) (hsz : args.size ≤ fn.ntmps)
    (h : cpt P od (panicR R) c (bodyQ P fn R) (argE args.toList) m) : HC P f args m R := by
  refine .inl ⟨fun w => callFunc_enters hf hn (by rw [hb]; rfl) args w, fun w hF => ?_⟩
  refine calls_of_wp hf hb ?_
  have hA : Ag fn.ntmps ⟨[], 0, fun _ => undef⟩ (argE args.toList) { tmps := args ++ Array.replicate (fn.ntmps - args.size) undef, defers := [] } := by
    refine ⟨by simp; omega, fun t => ?_, rfl, fun t ht => absurd ht (Nat.not_lt_zero t)⟩
    simp only [argE, Array.getD_eq_getD_getElem?, Array.getElem?_append, List.getD_eq_getElem?_getD, Array.getElem?_toList]
    split
    · rfl
    · rename_i hlt
      rw [Array.getElem?_replicate]
      have : args[t]? = none := by simp; omega
      rw [this]
      split <;> rfl
  refine Code.wp_mono (fun e a' w' hq => ?_) (cpt_sound hm c _ _ m hok h _ w hA hF m w (Fr.refl _ _))
  have fin : ∀ {ρ' m'}, resT P ρ' m' fn.results.toList (fun vs => R (.returned (pack vs)) m') → Ag fn.ntmps ⟨[], 0, fun _ => undef⟩ ρ' a' → Fit m' w' → Fr m m' w w' →
      a'.defers = [] ∧ ∃ v, (results fn a'.tmps).run P w' = .ok v w' ∧ ∃ m', Ending.returned v ≠ .outgrown ∧ R (.returned v) m' ∧ Fit m' w' ∧ Fr m m' w w' := by
    intro ρ' m' hr hA' hF' hf'
    obtain ⟨vs, hK, hrun⟩ := results_run hA' hr
    exact ⟨hA'.defers, _, hrun w' hF', m', by simp, hK, hF', hf'⟩
  cases e with
  | normal => obtain ⟨ρ', m', hK, hA', hF', hf'⟩ := hq; exact fin hK hA' hF' hf'
  | ret => obtain ⟨ρ', m', hK, hA', hF', hf'⟩ := hq; exact fin hK hA' hF' hf'
  | panic ch => obtain ⟨hd, m', hp, hF', hf'⟩ := hq; exact ⟨hd.1, m', by simp, hp, hF', hf'⟩
  | outgrown => exact hq.elim
  | exit i => obtain ⟨ρ', m', hK, _⟩ := hq; exact hK.elim
  | goto i => obtain ⟨ρ', m', hK, _⟩ := hq; exact hK.elim

theorem HE.mono {P : Program} {f : FuncId} {args : Array Value} {m : Mem} {R R' : Ending → Mem → Prop} (h : HE P f args m R) (k : ∀ e m', R e m' → R' e m') : HE P f args m R' :=
  ⟨h.1, fun w hF => (h.2 w hF).mono fun _ _ ⟨m', h1, h2, h3, h4⟩ => ⟨m', h1, k _ _ h2, h3, h4⟩⟩
theorem HC.mono {P : Program} {f : FuncId} {args : Array Value} {m : Mem} {R R' : Ending → Mem → Prop} (h : HC P f args m R) (k : ∀ e m', R e m' → R' e m') : HC P f args m R' := by
  rcases h with h | h
  · exact .inl (h.mono k)
  · refine .inr (pt_mono P (fun nx m' hx => ?_) (fun v m' hx => k _ _ hx) _ _ h)
    cases nx <;> try exact hx.elim
    case value v => exact k _ _ hx

end Go.H
