/- Regions that draw their order; code; a function's call. -/
import Derived.Test.YthkfeojdbneneaaH4
namespace Go.H

/-- r says no more than m. -/
def Le (r m : Mem) : Prop := ∀ b o, r b = some o → m b = some o
theorem Le.refl (m : Mem) : Le m m := fun _ _ h => h
theorem Le.trans {a b c : Mem} (h : Le a b) (k : Le b c) : Le a c := fun x o hx => k x o (h x o hx)
theorem Fit.le {r m : Mem} {w : World} (h : Fit m w) (l : Le r m) : Fit r w := fun b o hb => h b o (l b o hb)

/-- What has been read in a region stays behind a loud operation. -/
def Lk (r m' : Mem) (K : Mem → Prop) : Prop := ∃ r', Le r r' ∧ Le r' m' ∧ K r'
theorem Lk.all {r m' : Mem} {K : Mem → Prop} (h : Le r m') (k : K m') : Lk r m' K := ⟨m', h, Le.refl _, k⟩
def Sub (m : Mem) (K : Mem → Prop) : Prop := ∃ r, Le r m ∧ K r
theorem Sub.all {m : Mem} {K : Mem → Prop} (k : K m) : Sub m K := ⟨m, Le.refl _, k⟩

section
variable (P : Program) (ops : Array Oper)
def isPick : Op → Bool
  | .pick .. => true
  | _ => false
def isQuiet (o : Oper) : Bool := isPick o.op || quietOp P o.op

def quietP (ρ : Env) (m : Mem) (o : Oper) (K : Env → Prop) : Prop :=
  match o.op with
  | .pick c a b => pickP ρ o.dst c a b K
  | _ => qval P ρ m o (fun v => K (putE ρ o.dst v)) False

/-- The walk of a region that draws, in the order π: (number, may others come ahead of it?). -/
def hdraw (K : Env → Mem → Prop) (Pn : List PanicEntry → Mem → Prop) : List (Nat × Bool) → Mem → Env → Mem → Prop
  | [], _, ρ, m => K ρ m
  | (i, free) :: π, r, ρ, m =>
    match ops[i]? with
    | none => False
    | some o =>
      guardP ops ρ o
        (fun ρ' => match free with
          | true => quietP P ρ' r o fun ρ'' => hdraw K Pn π r ρ'' m
          | false => bif isQuiet P o then quietP P ρ' m o fun ρ'' => hdraw K Pn π r ρ'' m
                     else oneP P ρ' m o (fun ρ'' m' => Lk r m' fun r' => hdraw K Pn π r' ρ'' m') Pn)
        (fun ρ' => hdraw K Pn π r (putE ρ' o.dst undef) m)

def drawGo : Array Bool → List (Nat × Bool) → Bool
  | listed, [] => (Region.ready .any ops listed).isEmpty
  | listed, (i, free) :: π =>
    (match ops[i]? with
     | none => false
     | some o => match free with
       | true => isQuiet P o && Region.free .any ops listed i && (Region.ready .any ops listed).contains i
       | false => Region.ready .any ops listed == [i]) && drawGo (listed.setIfInBounds i true) π
def drawOk (π : List (Nat × Bool)) : Bool := Region.noSelect ops && π.length == ops.size && drawGo P ops (Array.replicate ops.size false) π
end
section
variable (P : Program)

/-! ### the same check by numbers -/
def afterM (o : Oper) : Nat := o.after.toList.foldl (fun s e => if Region.binds .any e then s ||| 2 ^ e.on else s) 0
def looksM (ops : Array Oper) (o : Oper) : Nat := (o.looksAt ops).foldl (fun s t => s ||| 2 ^ t) 0
def dstM (o : Oper) : Nat := match o.dst with | some d => d + 1 | none => 0
abbrev Row := Nat × Nat × Nat
def rowOf (ops : Array Oper) (o : Oper) : Row := (afterM o, looksM ops o, dstM o)
def rowsEq : List Row → List Row → Bool
  | [], [] => true
  | (a, b, c) :: r, (a', b', c') :: s => Nat.beq a a' && (Nat.beq b b' && (Nat.beq c c' && rowsEq r s))
  | _, _ => false
def apartM (x y : Row) : Bool :=
  (Nat.beq x.2.2 0 || (!(y.2.1.testBit (x.2.2 - 1)) && !(Nat.beq y.2.2 x.2.2))) && (Nat.beq y.2.2 0 || !(x.2.1.testBit (y.2.2 - 1)))
def readyM (L j : Nat) (x : Row) : Bool := !(L.testBit j) && Nat.beq (x.1 &&& L) x.1
/-- No other row than i (from j on) that is not listed fails f. -/
def allM (L i : Nat) (f : Nat → Row → Bool) : Nat → List Row → Bool
  | _, [] => true
  | j, x :: r => (Nat.beq j i || (L.testBit j || f j x)) && allM L i f (j + 1) r
def goM (ops : Array Oper) (tab : List Row) : Nat → List (Nat × Bool) → Bool
  | L, [] => allM L tab.length (fun j x => !readyM L j x) 0 tab
  | L, (i, free) :: π =>
    match tab[i]?, ops[i]? with
    | some x, some o =>
      (match free with
       | true => isQuiet P o && readyM L i x && allM L i (fun _ y => y.1.testBit i || apartM x y) 0 tab
       | false => readyM L i x && allM L i (fun j y => !readyM L j y) 0 tab) && goM ops tab (L ||| 2 ^ i) π
    | _, _ => false
def drawM (ops : Array Oper) (tab : List Row) (π : List (Nat × Bool)) : Bool :=
  Region.noSelect ops && (Nat.beq π.length ops.size && (rowsEq tab (ops.toList.map (rowOf ops)) && goM P ops tab 0 π))
end

theorem rowsEq_eq : ∀ {a b : List Row}, rowsEq a b = true → a = b
  | [], [], _ => rfl
  | (a, b, c) :: r, (a', b', c') :: s, h => by
    simp only [rowsEq, Bool.and_eq_true] at h
    obtain ⟨h1, h2, h3, h4⟩ := h
    rw [Nat.eq_of_beq_eq_true h1, Nat.eq_of_beq_eq_true h2, Nat.eq_of_beq_eq_true h3, rowsEq_eq h4]
  | [], _ :: _, h => by simp [rowsEq] at h
  | _ :: _, [], h => by simp [rowsEq] at h

theorem testBit_orPow (s t k : Nat) : (s ||| 2 ^ t).testBit k = (s.testBit k || decide (t = k)) := by
  rw [Nat.testBit_or, Nat.testBit_two_pow]

theorem foldl_bits (f : Edge → Bool) : ∀ (l : List Edge) (s k : Nat),
    (l.foldl (fun s e => if f e then s ||| 2 ^ e.on else s) s).testBit k = (s.testBit k || l.any fun e => f e && decide (e.on = k))
  | [], s, k => by simp
  | e :: l, s, k => by
    rw [List.foldl_cons, foldl_bits f l]
    cases hf : f e with
    | true => simp only [if_true, testBit_orPow, List.any_cons, hf, Bool.true_and, Bool.or_assoc]
    | false => simp [hf]
theorem foldl_tmps : ∀ (l : List Nat) (s k : Nat), (l.foldl (fun s t => s ||| 2 ^ t) s).testBit k = (s.testBit k || l.contains k)
  | [], s, k => by simp
  | t :: l, s, k => by
    rw [List.foldl_cons, foldl_tmps l, testBit_orPow]
    have : (decide (t = k)) = (k == t) := by
      by_cases h : t = k
      · subst h; simp
      · have h' : ¬ k = t := fun e => h e.symm
        simp [h, h']
    rw [this, List.contains_cons, Bool.or_assoc]
theorem looksM_bit (ops : Array Oper) (o : Oper) (k : Nat) : (looksM ops o).testBit k = (o.looksAt ops).contains k := by
  unfold looksM; rw [foldl_tmps]; simp
theorem afterM_bit (o : Oper) (k : Nat) : (afterM o).testBit k = o.after.toList.any fun e => Region.binds .any e && decide (e.on = k) := by
  unfold afterM; rw [foldl_bits]; simp

theorem beq_dec (a b : Nat) : Nat.beq a b = decide (a = b) := by
  cases h : Nat.beq a b with
  | true => simp [Nat.eq_of_beq_eq_true h]
  | false =>
    have : ¬ a = b := fun e => by subst e; simp at h
    simp [this]
theorem apartM_eq (ops : Array Oper) (x y : Oper) : apartM (rowOf ops x) (rowOf ops y) = x.apart ops y := by
  unfold apartM Oper.apart rowOf
  simp only [looksM_bit, dstM, beq_dec]
  cases hx : x.dst with
  | none => cases hy : y.dst <;> simp
  | some d =>
    cases hy : y.dst with
    | none => simp
    | some d' =>
      have : (d' == d) = decide (d' = d) := by by_cases h : d' = d <;> simp [h]
      simp [bne, this]

/-- The listed ones, as bits. -/
def Bits (n L : Nat) (listed : Array Bool) : Prop := listed.size = n ∧ (∀ j, j < n → listed.getD j true = L.testBit j) ∧ ∀ j, n ≤ j → L.testBit j = false
theorem Bits.getF {n L : Nat} {listed : Array Bool} (h : Bits n L listed) (j : Nat) : listed.getD j false = L.testBit j := by
  by_cases hj : j < n
  · have := h.2.1 j hj
    simp [Array.getD_eq_getD_getElem?, h.1, hj] at this ⊢; exact this
  · rw [h.2.2 j (by omega)]; simp [Array.getD_eq_getD_getElem?, h.1, hj]
theorem Bits.set {n L : Nat} {listed : Array Bool} (h : Bits n L listed) {i : Nat} (hi : i < n) : Bits n (L ||| 2 ^ i) (listed.setIfInBounds i true) := by
  refine ⟨by simp [h.1], fun j hj => ?_, fun j hj => ?_⟩
  · rw [testBit_orPow]
    by_cases e : i = j
    · subst e; simp [Array.getD_eq_getD_getElem?, h.1, hi]
    · have := h.2.1 j hj
      simp only [e, decide_false, Bool.or_false]
      rw [← this]
      simp [Array.getD_eq_getD_getElem?, e]
  · rw [testBit_orPow, h.2.2 j hj]
    have : ¬ i = j := by omega
    simp [this]

theorem after_all {n L : Nat} {listed : Array Bool} (h : Bits n L listed) (o : Oper) :
    (o.after.all fun e => !Region.binds .any e || listed.getD e.on false) = Nat.beq (afterM o &&& L) (afterM o) := by
  have key : (o.after.all fun e => !Region.binds .any e || listed.getD e.on false) = true ↔ (afterM o &&& L) = afterM o := by
    rw [Array.all_eq_true_iff_forall_mem]
    constructor
    · intro hall
      apply Nat.eq_of_testBit_eq
      intro k
      rw [Nat.testBit_and]
      cases hb : (afterM o).testBit k with
      | false => simp
      | true =>
        rw [afterM_bit, List.any_eq_true] at hb
        obtain ⟨e, he, hk⟩ := hb
        simp only [Bool.and_eq_true, decide_eq_true_eq] at hk
        have := hall e (Array.mem_toList_iff.1 he)
        rw [h.getF] at this
        rw [hk.1, hk.2] at this
        simpa using this
    · intro heq e he
      rw [h.getF]
      cases hb : Region.binds .any e with
      | false => simp
      | true =>
        have : (afterM o).testBit e.on = true := by
          rw [afterM_bit, List.any_eq_true]
          exact ⟨e, Array.mem_toList_iff.2 he, by simp [hb]⟩
        rw [← heq, Nat.testBit_and] at this
        simp only [Bool.and_eq_true] at this
        simp [this.2]
  by_cases hx : (afterM o &&& L) = afterM o
  · rw [key.2 hx, hx]; simp
  · have h1 : (o.after.all fun e => !Region.binds .any e || listed.getD e.on false) = false := by
      cases hh : (o.after.all fun e => !Region.binds .any e || listed.getD e.on false) with
      | false => rfl
      | true => exact absurd (key.1 hh) hx
    rw [h1]
    cases hb : Nat.beq (afterM o &&& L) (afterM o) with
    | false => rfl
    | true => exact absurd (Nat.eq_of_beq_eq_true hb) hx

theorem mem_ready_iff {n L : Nat} {listed : Array Bool} {ops : Array Oper} (hn : ops.size = n) (h : Bits n L listed) {j : Nat} {o : Oper} (ho : ops[j]? = some o) :
    j ∈ Region.ready .any ops listed ↔ readyM L j (rowOf ops o) = true := by
  have hj : j < n := by
    rw [← hn]
    rcases Nat.lt_or_ge j ops.size with h1 | h1
    · exact h1
    · rw [Array.getElem?_eq_none h1] at ho; cases ho
  unfold Region.ready readyM rowOf
  simp only [List.mem_filter, List.mem_range, hn, hj, true_and, ho, Option.map_some, Option.getD_some, Bool.and_eq_true]
  rw [after_all h o, h.2.1 j hj]

theorem allM_get {L i : Nat} {f : Nat → Row → Bool} : ∀ {l : List Row} {j : Nat}, allM L i f j l = true → ∀ k x, l[k]? = some x → j + k ≠ i → L.testBit (j + k) = false → f (j + k) x = true
  | [], j, _, k, x, hk, _, _ => by simp at hk
  | y :: r, j, h, k, x, hk, hne, hL => by
    simp only [allM, Bool.and_eq_true, Bool.or_eq_true] at h
    cases k with
    | zero =>
      simp at hk; subst hk
      rcases h.1 with hb | hb | hb
      · exact absurd (Nat.eq_of_beq_eq_true hb) hne
      · rw [Nat.add_zero] at hL; rw [hL] at hb; cases hb
      · exact hb
    | succ k =>
      have := allM_get h.2 k x (by simpa using hk) (by omega) (by rw [show j + 1 + k = j + (k + 1) by omega]; exact hL)
      rw [show j + (k + 1) = j + 1 + k by omega]; exact this

theorem filter_one {l : List Nat} (hl : l.Nodup) {p : Nat → Bool} {i : Nat} (hi : i ∈ l) (hp : p i = true) (ho : ∀ j ∈ l, j ≠ i → p j = false) : l.filter p = [i] := by
  induction l with
  | nil => cases hi
  | cons a r ih =>
    rw [List.nodup_cons] at hl
    by_cases e : a = i
    · subst e
      rw [List.filter_cons, if_pos hp]
      congr 1
      rw [List.filter_eq_nil_iff]
      intro j hj hpj
      have hne : j ≠ a := fun e => by subst e; exact hl.1 hj
      rw [ho j (by simp [hj]) hne] at hpj; cases hpj
    · rw [List.filter_cons, if_neg (by rw [ho a (by simp) e]; simp)]
      refine ih hl.2 ?_ (fun j hj => ho j (by simp [hj]))
      rcases List.mem_cons.1 hi with h | h
      · exact absurd h.symm e
      · exact h

theorem goM_sound {P : Program} {ops : Array Oper} {n : Nat} (hn : ops.size = n) : ∀ (π : List (Nat × Bool)) (L : Nat) (listed : Array Bool), Bits n L listed →
    goM P ops (ops.toList.map (rowOf ops)) L π = true → drawGo P ops listed π = true
  | [], L, listed, hB, h => by
    simp only [goM] at h
    simp only [drawGo, List.isEmpty_iff]
    rw [List.eq_nil_iff_forall_not_mem]
    intro j hj
    obtain ⟨hjl, o, ho, _⟩ := mem_ready.1 hj
    have hjn : j < n := by
      rw [← hn]
      rcases Nat.lt_or_ge j ops.size with h1 | h1
      · exact h1
      · rw [Array.getElem?_eq_none h1] at ho; cases ho
    have hr := (mem_ready_iff hn hB ho).1 hj
    have hL : L.testBit j = false := by
      unfold readyM at hr; simp only [Bool.and_eq_true] at hr; simpa using hr.1
    have := allM_get h j (rowOf ops o) (by simp [ho]) (by simp [hn]; omega) (by simpa using hL)
    simp only [Nat.zero_add] at this
    rw [hr] at this; cases this
  | (i, free) :: π, L, listed, hB, h => by
    simp only [goM] at h
    cases ho : ops[i]? with
    | none => simp [ho] at h
    | some o =>
      have hi : i < n := by
        rw [← hn]
        rcases Nat.lt_or_ge i ops.size with h1 | h1
        · exact h1
        · rw [Array.getElem?_eq_none h1] at ho; cases ho
      have hrow : (ops.toList.map (rowOf ops))[i]? = some (rowOf ops o) := by simp [ho]
      simp only [hrow, ho, Bool.and_eq_true] at h
      simp only [drawGo, ho, Bool.and_eq_true]
      refine ⟨?_, goM_sound hn π _ _ (hB.set hi) h.2⟩
      cases free with
      | true =>
        simp only [Bool.and_eq_true] at h ⊢
        obtain ⟨⟨⟨hq, hr⟩, ha⟩, _⟩ := h
        refine ⟨⟨hq, ?_⟩, ?_⟩
        · unfold Region.free
          rw [ho]
          simp only [List.all_eq_true, List.mem_range]
          intro j hj
          by_cases e : j = i
          · simp [e]
          · by_cases hl : listed.getD j true = true
            · simp [hl]
            · have hjo : ops[j]? = some ops[j] := by simp [hj]
              have hL : L.testBit j = false := by rw [← hB.2.1 j (by omega)]; simpa using hl
              have := allM_get ha j (rowOf ops ops[j]) (by simp [hj]) (by simpa using e) (by simpa using hL)
              simp only [Bool.or_eq_true] at this
              rw [hjo]
              simp only [Bool.or_eq_true]
              right
              rcases this with h1 | h1
              · left
                have h1 : (afterM ops[j]).testBit i = true := h1
                rw [afterM_bit, List.any_eq_true] at h1
                obtain ⟨e', he', hk⟩ := h1
                rw [← Array.any_toList, List.any_eq_true]
                refine ⟨e', he', ?_⟩
                simp only [Bool.and_eq_true, decide_eq_true_eq] at hk
                simp [hk.1, hk.2]
              · right; rw [← apartM_eq]; exact h1
        · simpa using (mem_ready_iff hn hB ho).2 hr
      | false =>
        simp only [Bool.and_eq_true] at h
        obtain ⟨⟨hr, ha⟩, _⟩ := h
        have hri := (mem_ready_iff hn hB ho).2 hr
        have : Region.ready .any ops listed = [i] := by
          unfold Region.ready at hri ⊢
          rw [List.mem_filter] at hri
          refine filter_one (List.nodup_range) hri.1 hri.2 ?_
          intro j hj hne
          have hjn : j < ops.size := by simpa using hj
          have hjo : ops[j]? = some ops[j] := by simp [hjn]
          by_cases hL : L.testBit j = true
          · have : listed.getD j true = true := by rw [hB.2.1 j (by omega)]; exact hL
            simp [this]
          · have hL' : L.testBit j = false := by simpa using hL
            have := allM_get ha j (rowOf ops ops[j]) (by simp [hjn]) (by simpa using hne) (by simpa using hL')
            simp only [Nat.zero_add, Bool.not_eq_true'] at this
            have hnm : ¬ j ∈ Region.ready .any ops listed := fun hm => by
              rw [(mem_ready_iff hn hB hjo).1 hm] at this; cases this
            unfold Region.ready at hnm
            rw [List.mem_filter] at hnm
            cases hp : (!listed.getD j true && ((ops[j]?).map (·.after.all fun e => !Region.binds .any e || listed.getD e.on false)).getD false) with
            | false => rfl
            | true => exact absurd ⟨hj, hp⟩ hnm
        simp [this]

theorem drawM_sound {P : Program} {ops : Array Oper} {tab : List Row} {π : List (Nat × Bool)} (h : drawM P ops tab π = true) : drawOk P ops π = true := by
  unfold drawM at h
  unfold drawOk
  simp only [Bool.and_eq_true] at h ⊢
  obtain ⟨h1, h2, h3, h4⟩ := h
  refine ⟨⟨h1, by simpa using Nat.eq_of_beq_eq_true h2⟩, ?_⟩
  have := rowsEq_eq h3
  subst this
  refine goM_sound rfl π 0 _ ⟨by simp, fun j hj => ?_, fun j _ => by simp⟩ h4
  simp [Array.getD_eq_getD_getElem?, hj]

theorem wpAnyH_monoS {P : Program} {ops : Array Oper} {Q : Exit → Act → World → Prop} {md : Region.Mode} {S S' : World → Prop} (h : ∀ w, S' w → S w) :
    ∀ (fuel : Nat) (listed : Array Bool) (a : Act) (w : World), wpAnyH P md ops Q S' fuel listed a w → wpAnyH P md ops Q S fuel listed a w
  | 0, _, _, _, k => k
  | fuel + 1, _, _, _, k => ⟨k.1, fun i hi => wpOp_mono (fun _ _ k' => ⟨h _ k'.1, wpAnyH_monoS h fuel _ _ _ k'.2⟩) (k.2 i hi)⟩

theorem quiet_yields {P : Program} {n : Nat} {ds : List Deferred} {ρ : Env} {r : Mem} {a : Act} {o : Oper} {K : Env → Prop} {ops : Array Oper}
    (hA : Ag n ds ρ a) (hw : Region.wanted o (yielded ops a.tmps) = true) (h : quietP P ρ r o K) :
    ∃ v, K (putE ρ o.dst v) ∧ YieldsIf P ops (Fit r) o v a := by
  unfold quietP at h
  split at h
  · rename_i c x y hop
    obtain ⟨v, hK, hr⟩ := pick_sound (P := P) hop h
    exact ⟨v, hK, .inl ⟨hw, fun w _ => by rw [hA.eval]; exact hr w⟩⟩
  · rcases qval_sound h with ⟨v, hK, hr⟩ | ⟨hN, _⟩
    · exact ⟨v, hK, .inl ⟨hw, fun w hf => by rw [hA.eval]; exact hr w hf⟩⟩
    · exact hN.elim

/-- One operation, its panics told of the base. -/
theorem one_base {P : Program} {m m0 : Mem} {w w0 : World} {n : Nat} {ds : List Deferred} {ρ : Env} {a : Act} {o : Oper}
    {K : Env → Mem → Prop} {Q : Exit → Env → Mem → Prop} {Pn : List PanicEntry → Mem → Prop} (f : Fr m0 m w0 w)
    (hA : Ag n ds ρ a) (hF : Fit m w) (hd : ∀ d, o.dst = some d → d < n) (hk : oneP P ρ m o K Pn) :
    o.wp P a w (UpA n ds K m w) (UpQ n ds Q Pn m0 w0) := by
  have h1 := one_sound (Q := Q) hA hF hd hk
  unfold Oper.wp at h1 ⊢
  generalize (execOp a.eval o).run P w = res at h1 ⊢
  cases res with
  | ok nx w' =>
    cases nx <;> simp only [Oper.upon] at h1 ⊢ <;> try exact h1
    case enter g args =>
      refine h1.mono fun e w'' he => ?_
      cases e with
      | returned v => exact he
      | panicked c => exact UpQ.of f he
      | outgrown => obtain ⟨a1, w1, he⟩ := he; exact he.elim
  | halt x w' =>
    cases x <;> simp only [Oper.upon] at h1 ⊢
    case panic v => exact UpQ.of f h1

theorem hdraw_sound {P : Program} {n : Nat} {ds : List Deferred} {ops : Array Oper} {Q : Exit → Env → Mem → Prop} {Pn : List PanicEntry → Mem → Prop}
    (hsel : Region.noSelect ops = true) (hall : ops.toList.all (dstOk n) = true) (m0 : Mem) (w0 : World) :
    ∀ (π : List (Nat × Bool)) (listed : Array Bool) (r : Mem) (ρ : Env) (m : Mem) (a : Act) (w : World), drawGo P ops listed π = true → Ag n ds ρ a → Fit m w → Le r m → Fr m0 m w0 w →
      hdraw P ops (Q .normal) Pn π r ρ m → wpAnyH P .any ops (UpQ n ds Q Pn m0 w0) (Fit r) π.length listed a w
  | [], listed, r, ρ, m, a, w, hgo, hA, hF, _, f, h => wpAnyH_done (by simpa [drawGo] using hgo) ⟨ρ, m, h, hA, hF, f⟩ _
  | (i, free) :: π, listed, r, ρ, m, a, w, hgo, hA, hF, hle, f, h => by
    simp only [drawGo, Bool.and_eq_true] at hgo
    obtain ⟨hi, hgo⟩ := hgo
    simp only [hdraw] at h
    cases ho : ops[i]? with
    | none => simp [ho] at hi
    | some o =>
      simp only [ho] at hi h
      have hd : ∀ d, o.dst = some d → d < n := dst_lt (by
        have hm : o ∈ ops.toList := by simpa using Array.mem_of_getElem? ho
        exact List.all_eq_true.1 hall o hm)
      have hFr := hF.le hle
      have hQ : ∀ v c (a : Act) w, UpQ n ds Q Pn m0 w0 (.panic c) (a.put o.dst v) w → UpQ n ds Q Pn m0 w0 (.panic c) a w := by
        intro v c a w hq
        obtain ⟨h1, h2⟩ := hq
        refine ⟨?_, h2⟩
        cases hdst : o.dst <;> simpa [Act.put, hdst] using h1
      cases free with
      | true =>
        simp only [Bool.and_eq_true] at hi
        obtain ⟨⟨_, hfree⟩, hready⟩ := hi
        rcases guard_sound hA h with ⟨hw, hk⟩ | ⟨hw, hs⟩
        · obtain ⟨v, hK, hy⟩ := quiet_yields (ops := ops) hA hw hk
          exact wpAnyH_take ho hsel hfree hready (hQ v) hy hFr (hdraw_sound hsel hall m0 w0 π _ r _ m _ w hgo (hA.put hd v) hF hle f hK)
        · exact wpAnyH_take ho hsel hfree hready (hQ undef) (.inr ⟨hw, rfl⟩) hFr (hdraw_sound hsel hall m0 w0 π _ r _ m _ w hgo (hA.put hd undef) hF hle f hs)
      | false =>
        have hi' : Region.ready .any ops listed = [i] := by simpa using hi
        refine wpAnyH_all hi' (by simp) fun j hj => ?_
        have hj' : j = i := by simpa using hj
        subst hj'
        rcases guard_sound hA h with ⟨hw, hk⟩ | ⟨hw, hs⟩
        · simp only at hk
          cases hq : isQuiet P o with
          | true =>
            rw [hq] at hk; simp only [cond_true] at hk
            obtain ⟨v, hK, hy⟩ := quiet_yields (ops := ops) hA hw hk
            exact hy.wpOp ho hF ⟨hFr, hdraw_sound hsel hall m0 w0 π _ r _ m _ w hgo (hA.put hd v) hF hle f hK⟩
          | false =>
            rw [hq] at hk; simp only [cond_false] at hk
            unfold wpOp
            simp only [ho]
            rw [if_pos hw]
            refine .inl (Oper.wp_mono (fun a' w' hk' => ?_) (one_base f hA hF hd hk))
            obtain ⟨ρ', m', ⟨r', h1, h2, hK⟩, hA', hF', hf'⟩ := hk'
            exact ⟨(hF'.le h2).le h1, wpAnyH_monoS (fun w hw => hw.le h1) _ _ _ _ (hdraw_sound hsel hall m0 w0 π _ r' ρ' m' a' w' hgo hA' hF' h2 (f.trans hf') hK)⟩
        · unfold wpOp
          simp only [ho]
          rw [if_neg (by simp [hw])]
          exact ⟨hFr, hdraw_sound hsel hall m0 w0 π _ r _ m _ w hgo (hA.put hd undef) hF hle f hs⟩

/-! ### code -/
section
variable (P : Program) (od : Nat → List (Nat × Bool)) (Pn : List PanicEntry → Mem → Prop)
def thenQ (K : Env → Mem → Prop) (Q : Exit → Env → Mem → Prop) : Exit → Env → Mem → Prop
  | .normal => K
  | e => Q e
def blockQ (id : Nat) (Q : Exit → Env → Mem → Prop) : Exit → Env → Mem → Prop
  | .exit i => match Nat.beq i id with | true => Q .normal | false => Q (.exit i)
  | e => Q e
def cpt : Code → (Exit → Env → Mem → Prop) → Env → Mem → Prop
  | .skip, Q, ρ, m => Q .normal ρ m
  | .label _, Q, ρ, m => Q .normal ρ m
  | .exit id, Q, ρ, m => Q (.exit id) ρ m
  | .ret, Q, ρ, m => Q .ret ρ m
  | .region id ops draw, Q, ρ, m =>
    match draw with
    | false => hops P ops (Q .normal) Pn ops.toList ρ m
    | true => Sub m fun r => hdraw P ops (Q .normal) Pn (od id) r ρ m
  | .seq x y, Q, ρ, m => cpt x (thenQ (cpt y Q) Q) ρ m
  | .cond c x y, Q, ρ, m =>
    match c with
    | .tmp t => match ρ t with
      | .bool b => Br b (cpt x Q (upd ρ t (.bool true)) m) (cpt y Q (upd ρ t (.bool false)) m)
      | _ => False
    | .const (.bool b) => Br b (cpt x Q ρ m) (cpt y Q ρ m)
    | _ => False
  | .block id c, Q, ρ, m => cpt c (blockQ id Q) ρ m
  | .loop c, Q, ρ, m => ∃ (I : Nat → Env → Mem → Prop) (N : Nat), I N ρ m ∧ ∀ N ρ m, I N ρ m → cpt c (thenQ (fun ρ' m' => ∃ N', N' < N ∧ I N' ρ' m') Q) ρ m
  | _, _, _, _ => False

def codeOk (tb : Nat → List Row) (n : Nat) : Code → Bool
  | .region id ops draw => ops.toList.all (dstOk n) && (match draw with | true => drawM P ops (tb id) (od id) | false => true)
  | .seq x y => codeOk tb n x && codeOk tb n y
  | .cond _ x y => codeOk tb n x && codeOk tb n y
  | .block _ c => codeOk tb n c
  | .loop c => codeOk tb n c
  | _ => true
end

theorem least {p : Nat → Prop} {N : Nat} (h : p N) : ∃ k, p k ∧ ∀ j, j < k → ¬ p j := by
  induction N using Nat.strongRecOn with
  | _ N ih =>
    by_cases hx : ∃ j, j < N ∧ p j
    · obtain ⟨j, hj, hp⟩ := hx; exact ih j hj hp
    · exact ⟨N, h, fun j hj hp => hx ⟨j, hj, hp⟩⟩

/-- A loop by a number that every round lowers, whatever the state says of it. -/
theorem wp_loop_rel {P : Program} {c : Code} {Q : Exit → Act → World → Prop} {a : Act} {w : World} (I : Nat → Act → World → Prop) (N : Nat) (h0 : I N a w)
    (round : ∀ N a w, I N a w → c.wp P (Exit.then (fun a' w' => ∃ N', N' < N ∧ I N' a' w') Q) a w) : (Code.loop c).wp P Q a w := by
  have hex : ∀ a w, (∃ N, I N a w) → ∃ k, I k a w ∧ ∀ j, j < k → ¬ I j a w := fun a w ⟨N, h⟩ => least h
  refine wp_loop (fun a w => ∃ N, I N a w) (fun a w => @dite _ (∃ N, I N a w) (Classical.propDecidable _) (fun h => Classical.choose (hex a w h)) (fun _ => 0)) ⟨N, h0⟩ ?_
  intro a w h
  have hs := Classical.choose_spec (hex a w h)
  refine Code.wp_mono (fun e a' w' hq => ?_) (round _ a w hs.1)
  cases e with
  | normal =>
    obtain ⟨N', hlt, hI⟩ := hq
    refine ⟨⟨N', hI⟩, ?_⟩
    have h' : ∃ N, I N a' w' := ⟨N', hI⟩
    have hs' := Classical.choose_spec (hex a' w' h')
    rw [dif_pos h', dif_pos h]
    refine Nat.lt_of_le_of_lt (Nat.le_of_not_lt fun hx => hs'.2 _ hx hI) hlt
  | _ => exact hq

theorem cpt_sound {P : Program} {tb : Nat → List Row} {od : Nat → List (Nat × Bool)} {n : Nat} {ds : List Deferred} {Pn : List PanicEntry → Mem → Prop} (hm : P.follows .mixedOrders = true) :
    ∀ (c : Code) (Q : Exit → Env → Mem → Prop) (ρ : Env) (m : Mem), codeOk P od tb n c = true → cpt P od Pn c Q ρ m →
      ∀ (a : Act) (w : World), Ag n ds ρ a → Fit m w → ∀ (m0 : Mem) (w0 : World), Fr m0 m w0 w → c.wp P (UpQ n ds Q Pn m0 w0) a w := by
  intro c
  induction c with
  | skip => intro Q ρ m _ h a w hA hF m0 w0 f; exact wp_skip ⟨ρ, m, h, hA, hF, f⟩
  | label l => intro Q ρ m _ h a w hA hF m0 w0 f; exact wp_label ⟨ρ, m, h, hA, hF, f⟩
  | exit id => intro Q ρ m _ h a w hA hF m0 w0 f; exact wp_exit ⟨ρ, m, h, hA, hF, f⟩
  | ret => intro Q ρ m _ h a w hA hF m0 w0 f; exact wp_ret ⟨ρ, m, h, hA, hF, f⟩
  | region id ops draw =>
    intro Q ρ m hok h a w hA hF m0 w0 f
    simp only [codeOk, Bool.and_eq_true] at hok
    cases draw with
    | false => exact wp_region_list (hops_sound ops.toList ρ m a w hA hF hok.1 h m0 w0 f)
    | true =>
      obtain ⟨r, hle, h⟩ := h
      have hdr := drawM_sound hok.2
      simp only [drawOk, Bool.and_eq_true] at hdr
      have hlen : (od id).length = ops.size := by simpa using hdr.1.2
      refine wp_region_held (S := Fit r) hm ?_
      rw [← hlen]
      have hF' : Fit m { w with drawn := w.drawn + 1 } := hF
      have f' : Fr m0 m w0 { w with drawn := w.drawn + 1 } := ⟨f.os, f.tape, f.output, f.size, f.block, f.dom⟩
      have hgo := hdr.2
      rw [← hlen] at hgo
      exact hdraw_sound hdr.1.1 hok.1 m0 w0 _ _ r ρ m a _ hgo hA hF' hle f' h
  | seq x y ihx ihy =>
    intro Q ρ m hok h a w hA hF m0 w0 f
    simp only [codeOk, Bool.and_eq_true] at hok
    refine wp_seq (Code.wp_mono (fun e a' w' hq => ?_) (ihx _ ρ m hok.1 h a w hA hF m0 w0 f))
    cases e with
    | normal => obtain ⟨ρ', m', hK, hA', hF', f'⟩ := hq; exact ihy Q ρ' m' hok.2 hK a' w' hA' hF' m0 w0 f'
    | _ => exact hq
  | cond c x y ihx ihy =>
    intro Q ρ m hok h a w hA hF m0 w0 f
    simp only [codeOk, Bool.and_eq_true] at hok
    simp only [cpt] at h
    split at h
    · rename_i t
      split at h
      · rename_i b hb
        have he : a.eval (.tmp t) = .bool b := by rw [hA.eval]; exact hb
        cases b with
        | true =>
          have h' : cpt P od Pn x Q (upd ρ t (.bool true)) m := h
          rw [upd_self hb] at h'
          exact wp_cond_true he (ihx Q ρ m hok.1 h' a w hA hF m0 w0 f)
        | false =>
          have h' : cpt P od Pn y Q (upd ρ t (.bool false)) m := h
          rw [upd_self hb] at h'
          exact wp_cond_false he (ihy Q ρ m hok.2 h' a w hA hF m0 w0 f)
      · exact h.elim
    · rename_i b
      cases b with
      | true => exact wp_cond_true rfl (ihx Q ρ m hok.1 h a w hA hF m0 w0 f)
      | false => exact wp_cond_false rfl (ihy Q ρ m hok.2 h a w hA hF m0 w0 f)
    · exact h.elim
  | block id c ih =>
    intro Q ρ m hok h a w hA hF m0 w0 f
    refine wp_block (Code.wp_mono (fun e a' w' hq => ?_) (ih _ ρ m hok h a w hA hF m0 w0 f))
    cases e with
    | exit i =>
      have hq' : UpA n ds (blockQ id Q (.exit i)) m0 w0 a' w' := hq
      show if i = id then UpQ n ds Q Pn m0 w0 .normal a' w' else UpQ n ds Q Pn m0 w0 (.exit i) a' w'
      cases hb : Nat.beq i id with
      | true =>
        rw [if_pos (Nat.eq_of_beq_eq_true hb)]
        show UpA n ds (Q .normal) m0 w0 a' w'
        simpa [blockQ, hb] using hq'
      | false =>
        rw [if_neg (fun e => by rw [e] at hb; simp at hb)]
        show UpA n ds (Q (.exit i)) m0 w0 a' w'
        simpa [blockQ, hb] using hq'
    | _ => exact hq
  | loop c ih =>
    intro Q ρ m hok h a w hA hF m0 w0 f
    obtain ⟨I, N, h0, hr⟩ := h
    refine wp_loop_rel (fun N a w => UpA n ds (I N) m0 w0 a w) N ⟨ρ, m, h0, hA, hF, f⟩ ?_
    intro N a w hI
    obtain ⟨ρ', m', hI, hA', hF', f'⟩ := hI
    refine Code.wp_mono (fun e a' w' hq => ?_) (ih _ ρ' m' hok (hr N ρ' m' hI) a w hA' hF' m0 w0 f')
    cases e with
    | normal =>
      obtain ⟨ρ'', m'', ⟨N', hlt, hI'⟩, rest⟩ := hq
      exact ⟨N', hlt, ρ'', m'', hI', rest⟩
    | _ => exact hq
  | rangeFunc => intro Q ρ m _ h; exact h.elim
  | scope => intro Q ρ m _ h; exact h.elim
  | goto => intro Q ρ m _ h; exact h.elim
  | refuse => intro Q ρ m _ h; exact h.elim

/-! ### a function's call -/
def argE (args : List Value) : Env := fun t => args.getD t undef

def resT (P : Program) (ρ : Env) (m : Mem) : List ResultVar → (List Value → Prop) → Prop
  | [], K => K []
  | .tmp t :: r, K => resT P ρ m r fun vs => K (ρ t :: vs)
  | .cell a t :: r, K => match ρ a with
    | .pointer (some ⟨b, o, none⟩) => ldT P t m b o fun v => resT P ρ m r fun vs => K (v :: vs)
    | _ => False
def pack : List Value → Value
  | [v] => v
  | vs => .tuple vs.toArray
def bodyQ (P : Program) (fn : Func) (R : Ending → Mem → Prop) : Exit → Env → Mem → Prop
  | .normal, ρ, m => resT P ρ m fn.results.toList fun vs => R (.returned (pack vs)) m
  | .ret, ρ, m => resT P ρ m fn.results.toList fun vs => R (.returned (pack vs)) m
  | _, _, _ => False
def panicR (R : Ending → Mem → Prop) : List PanicEntry → Mem → Prop := fun ch m => R (.panicked ch) m

theorem resT_sound {P : Program} {n : Nat} {ds : List Deferred} {ρ : Env} {m : Mem} {a : Act} (hA : Ag n ds ρ a) : ∀ (l : List ResultVar) (K : List Value → Prop), resT P ρ m l K →
    ∃ vs, K vs ∧ ∀ w, Fit m w → (l.mapM (m := Sem) fun | .tmp t => pure (a.tmps.getD t undef) | .cell b t => do loadVar t (← asAddr (a.tmps.getD b undef))).run P w = .ok vs w
  | [], K, h => ⟨[], h, fun _ _ => rfl⟩
  | .tmp t :: r, K, h => by
    obtain ⟨vs, hK, hr⟩ := resT_sound hA r _ h
    refine ⟨_, hK, fun w hF => ?_⟩
    simp only [List.mapM_cons]
    rw [Sem.run_bind]
    simp only [Sem.run_pure, Result.andThen_ok]
    rw [Sem.run_bind, hr w hF, hA.get]
    rfl
  | .cell b t :: r, K, h => by
    simp only [resT] at h
    split at h
    · rename_i bb o hb
      obtain ⟨v, h, hv⟩ := ldT_sound h
      obtain ⟨vs, hK, hr⟩ := resT_sound hA r _ h
      refine ⟨_, hK, fun w hF => ?_⟩
      simp only [List.mapM_cons]
      rw [Sem.run_bind, hA.get, hb]
      have : (do loadVar t (← asAddr (.pointer (some ⟨bb, o, none⟩))) : Sem Value).run P w = .ok v w := by
        rw [Sem.run_bind]; exact hv w hF
      rw [this, Result.andThen_ok, Sem.run_bind, hr w hF]
      rfl
    · exact h.elim

theorem results_run {P : Program} {n : Nat} {ds : List Deferred} {ρ : Env} {m : Mem} {a : Act} {fn : Func} {K : List Value → Prop} (hA : Ag n ds ρ a)
    (h : resT P ρ m fn.results.toList K) : ∃ vs, K vs ∧ ∀ w, Fit m w → (results fn a.tmps).run P w = .ok (pack vs) w := by
  obtain ⟨vs, hK, hr⟩ := resT_sound hA _ _ h
  refine ⟨vs, hK, fun w hF => ?_⟩
  unfold results
  rw [Array.mapM_eq_mapM_toList, Sem.run_bind, Sem.run_map]
  erw [hr w hF]
  simp only [Result.andThen_ok, Sem.run_pure]
  congr 1
  match vs with
  | [] => rfl
  | [v] => rfl
  | _ :: _ :: _ => simp [pack]

theorem HC_of {P : Program} {tb : Nat → List Row} {f : FuncId} {fn : Func} {c : Code} {od : Nat → List (Nat × Bool)} {args : Array Value} {m : Mem} {R : Ending → Mem → Prop}
    (hf : P.funcs[f]? = some fn) (hb : fn.body = some c) (hn : (fn.name == "runtime.NumGoroutine") = false) (hm : P.follows .mixedOrders = true)
    (hok : codeOk P od tb fn.ntmps c = true) (hsz : args.size ≤ fn.ntmps)
    (h : cpt P od (panicR R) c (bodyQ P fn R) (argE args.toList) m) : HC P f args m R := by
  refine ⟨fun w => callFunc_enters hf hn (by rw [hb]; rfl) args w, fun w hF => ?_⟩
  refine calls_of_wp hf hb ?_
  have hA : Ag fn.ntmps [] (argE args.toList) { tmps := args ++ Array.replicate (fn.ntmps - args.size) undef, defers := [] } := by
    refine ⟨by simp; omega, fun t => ?_, rfl⟩
    simp only [argE, Array.getD_eq_getD_getElem?, Array.getElem?_append, List.getD_eq_getElem?_getD, Array.getElem?_toList]
    split
    · rfl
    · rename_i hlt
      rw [Array.getElem?_replicate]
      have : args[t]? = none := by simp; omega
      rw [this]
      split <;> rfl
  refine Code.wp_mono (fun e a' w' hq => ?_) (cpt_sound hm c _ _ m hok h _ w hA hF m w (Fr.refl _ _))
  have fin : ∀ {ρ' m'}, resT P ρ' m' fn.results.toList (fun vs => R (.returned (pack vs)) m') → Ag fn.ntmps [] ρ' a' → Fit m' w' → Fr m m' w w' →
      a'.defers = [] ∧ ∃ v, (results fn a'.tmps).run P w' = .ok v w' ∧ ∃ m', Ending.returned v ≠ .outgrown ∧ R (.returned v) m' ∧ Fit m' w' ∧ Fr m m' w w' := by
    intro ρ' m' hr hA' hF' hf'
    obtain ⟨vs, hK, hrun⟩ := results_run hA' hr
    exact ⟨hA'.defers, _, hrun w' hF', m', by simp, hK, hF', hf'⟩
  cases e with
  | normal => obtain ⟨ρ', m', hK, hA', hF', hf'⟩ := hq; exact fin hK hA' hF' hf'
  | ret => obtain ⟨ρ', m', hK, hA', hF', hf'⟩ := hq; exact fin hK hA' hF' hf'
  | panic ch => obtain ⟨hd, m', hp, hF', hf'⟩ := hq; exact ⟨hd, m', by simp, hp, hF', hf'⟩
  | outgrown => exact hq.elim
  | exit i => obtain ⟨ρ', m', hK, _⟩ := hq; exact hK.elim
  | goto i => obtain ⟨ρ', m', hK, _⟩ := hq; exact hK.elim

theorem HC.mono {P : Program} {f : FuncId} {args : Array Value} {m : Mem} {R R' : Ending → Mem → Prop} (h : HC P f args m R) (k : ∀ e m', R e m' → R' e m') : HC P f args m R' :=
  ⟨h.1, fun w hF => (h.2 w hF).mono fun _ _ ⟨m', h1, h2, h3, h4⟩ => ⟨m', h1, k _ _ h2, h3, h4⟩⟩

end Go.H
