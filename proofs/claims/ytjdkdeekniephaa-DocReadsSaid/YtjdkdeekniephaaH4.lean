/- Code over an environment and a map, and a function's call. -/
import Derived.Test.YtjdkdeekniephaaH3
namespace Go.H

def UpA (n : Nat) (ds : DS) (K : Env → Mem → Prop) (m : Mem) (w : World) : Act → World → Prop :=
  fun a' w' => ∃ ρ' m', K ρ' m' ∧ Ag n ds ρ' a' ∧ Fit m' w' ∧ Fr m m' w w'
def UpQ (n : Nat) (ds : DS) (Q : Exit → Env → Mem → Prop) (Pn : List PanicEntry → Mem → Prop) (m : Mem) (w : World) : Exit → Act → World → Prop :=
  fun e a' w' => match e with
    | .panic c => (a'.defers = ds.l ∧ ∀ t, t < ds.lo → a'.tmps.getD t undef = ds.z t) ∧ ∃ m', Pn c m' ∧ Fit m' w' ∧ Fr m m' w w'
    | .outgrown => False
    | e => UpA n ds (Q e) m w a' w'

section
variable {n : Nat} {ds : DS} {m m1 : Mem} {w w1 : World}
theorem UpA.of {K : Env → Mem → Prop} (f : Fr m m1 w w1) {a : Act} {w' : World} (h : UpA n ds K m1 w1 a w') : UpA n ds K m w a w' := by
  obtain ⟨ρ', m', hK, hA, hF, hf⟩ := h
  exact ⟨ρ', m', hK, hA, hF, f.trans hf⟩
theorem UpA.mono {K K' : Env → Mem → Prop} (hk : ∀ ρ m, K ρ m → K' ρ m) {a : Act} {w' : World} (h : UpA n ds K m w a w') : UpA n ds K' m w a w' := by
  obtain ⟨ρ', m', hK, rest⟩ := h
  exact ⟨ρ', m', hk _ _ hK, rest⟩
theorem UpQ.of {Q : Exit → Env → Mem → Prop} {Pn : List PanicEntry → Mem → Prop} (f : Fr m m1 w w1) {e : Exit} {a : Act} {w' : World} (h : UpQ n ds Q Pn m1 w1 e a w') : UpQ n ds Q Pn m w e a w' := by
  cases e with
  | panic c => obtain ⟨hd, m', hp, hF, hf⟩ := h; exact ⟨hd, m', hp, hF, f.trans hf⟩
  | outgrown => exact h
  | _ => exact UpA.of f h
end

theorem callFunc_enters {P : Program} {f : FuncId} {fn : Func} (hf : P.funcs[f]? = some fn) (hn : (fn.name == "runtime.NumGoroutine") = false) (hb : fn.body.isNone = false)
    (args : Array Value) (w : World) : (callFunc f args).run P w = .ok (.enter f args) w := by
  unfold callFunc
  rw [Sem.run_bind]
  show ((Sem.pure P).run P w |>.andThen _) = _
  simp only [Sem.run, Result.andThen_ok, hf, hn, hb]
  rfl

theorem stL_sound {P : Program} {b o : Nat} {K : Mem → Prop} : ∀ (vs : List Value) (i : Nat) (m : Mem) (w : World), Fit m w → stL b o i vs K m →
    ∃ m' w', K m' ∧ (storeCells ⟨b, o, none⟩ vs i).run P w = .ok () w' ∧ Fit m' w' ∧ Fr m m' w w'
  | [], i, m, w, hf, h => ⟨m, w, h, rfl, hf, Fr.refl _ _⟩
  | v :: r, i, m, w, hf, h => by
    simp only [stL, St1] at h
    split at h
    · rename_i c e lo hi hb
      obtain ⟨ho, hno, hz, h⟩ := h
      have hw := hf _ _ hb
      obtain ⟨h1, h2⟩ := fit_set (o := .cells (c.setIfInBounds (o + i) v) e (lo, hi)) hf hb
      obtain ⟨m', w', hK, hr, hF, hFr⟩ := stL_sound (P := P) r (i + 1) _ _ h1 h
      refine ⟨m', w', hK, ?_, hF, h2.trans hFr⟩
      have hc : w.cell? ⟨b, o + i, none⟩ = some c[o + i] := by simp [World.cell?, hw, ho]
      have hfz : w.frozen? ⟨b, o + i, none⟩ = false := by simpa [World.frozen?, hw] using hz
      have hs := setCell_eq (v := v) (a := ⟨b, o + i, none⟩) rfl hw
      simp only [storeCells, add_none]
      rw [Sem.run_bind]
      have hrun : (store ⟨b, o + i, none⟩ v).run P w = .ok () (w.setCell ⟨b, o + i, none⟩ v) := by
        cases v <;> first | (simp [notOne] at hno; done) | simp_all [store, Sem.run]
      rw [hrun, Result.andThen_ok, hs]
      exact hr
    · exact h.elim

theorem Calls_up {P : Program} {f : FuncId} {args : Array Value} {m m1 : Mem} {w w1 : World} {n : Nat} {ds : DS} {ρ : Env} {a : Act} {o : Oper}
    {K : Env → Mem → Prop} {Q : Exit → Env → Mem → Prop} {Pn : List PanicEntry → Mem → Prop} {R : Ending → Mem → Prop}
    (hA : Ag n ds ρ a) (hd : ∀ d, o.dst = some d → ds.lo ≤ d ∧ d < n) (hFr : Fr m m1 w w1)
    (hR : ∀ e m', R e m' → Cont (fun v m' => K (putE ρ o.dst v) m') Pn e m')
    (h : Calls P f args w1 fun e w' => ∃ m', e ≠ .outgrown ∧ R e m' ∧ Fit m' w' ∧ Fr m1 m' w1 w') :
    Calls P f args w1 fun
      | .returned v, w'' => UpA n ds K m w (a.put o.dst v) w''
      | .panicked chain, w'' => UpQ n ds Q Pn m w (.panic chain) a w''
      | .outgrown, _ => LetsOut (UpQ n ds Q Pn m w) := by
  refine h.mono fun e w'' ⟨m', hne, hRm, hF, hf⟩ => ?_
  have hc := hR _ _ hRm
  cases e with
  | returned v => exact ⟨_, m', hc, hA.put hd v, hF, hFr.trans hf⟩
  | panicked ch => exact ⟨hA.pan, m', hc, hF, hFr.trans hf⟩
  | outgrown => exact absurd rfl hne

theorem out_upon {P : Program} {m : Mem} {w : World} {n : Nat} {ds : DS} {ρ : Env} {a : Act} {o : Oper}
    {K : Env → Mem → Prop} {Q : Exit → Env → Mem → Prop} {Pn : List PanicEntry → Mem → Prop} {r : Result Next}
    (hA : Ag n ds ρ a) (hd : ∀ d, o.dst = some d → ds.lo ≤ d ∧ d < n)
    (h : Out (nextP P (fun v m' => K (putE ρ o.dst v) m') Pn) (fun v m' => Pn [{ v := v, recovered := false }] m') m w r) :
    o.upon P a (UpA n ds K m w) (UpQ n ds Q Pn m w) r := by
  unfold Out at h
  split at h
  · rename_i nx w'
    obtain ⟨m', hq, hF, hf⟩ := h
    cases nx <;> try exact hq.elim
    case value v => exact ⟨_, m', hq, hA.put hd v, hF, hf⟩
    case skip => exact ⟨_, m', hq, hA.put hd undef, hF, hf⟩
    case enter f args => exact Calls_up hA hd hf (fun _ _ h => h) (hq.2 _ hF)
  · obtain ⟨m', hq, hF, hf⟩ := h
    exact ⟨hA.pan, m', hq, hF, hf⟩
  · exact h.elim

theorem run_v' {P : Program} {s : Sem Value} {v : Value} {w w' : World} (h : s.run P w = .ok v w') : (do pure (Next.value (← s)) : Sem Next).run P w = .ok (.value v) w' := by
  rw [Sem.run_bind, h]; rfl

theorem s2b_run {P : Program} (e : TypeId) (s : ByteArray) (w : World) : ∃ cap, s.size ≤ cap ∧ (Conv.stringToBytes e s).run P w =
    .ok (.slice (some ⟨w.heap.size, 0, none⟩) s.size cap) { w with drawn := w.drawn + 1, heap := w.heap.push (.cells ((u8s s.data.toList ++ List.replicate (cap - s.size) (Value.int .u8 0)).toArray) e (cap, cap + 1)) } := by
  refine ⟨(Question.appendCap s.size 0 e).cut (w.tape w.drawn (.appendCap s.size 0 e)), by simp [Question.cut], ?_⟩
  generalize hc : (Question.appendCap s.size 0 e).cut (w.tape w.drawn (.appendCap s.size 0 e)) = cap
  have hge : s.size ≤ cap := by rw [← hc]; simp [Question.cut]
  have hsz : s.data.size = s.size := rfl
  have hcells : (s.data.map (fun b => Value.int .u8 b.toNat) ++ Array.replicate (cap - s.size) (Value.int .u8 0)) = (u8s s.data.toList ++ List.replicate (cap - s.size) (Value.int .u8 0)).toArray := by
    simp [u8s]
  have hch : (choose (.appendCap s.size 0 e)).run P w = .ok cap { w with drawn := w.drawn + 1 } := by
    simp [choose, Sem.run, Question.forced, hc]
  simp only [Conv.stringToBytes]
  rw [Sem.run_bind, hch, Result.andThen_ok, Sem.run_bind]
  have hnew : ∀ c, (newRow e c).run P { w with drawn := w.drawn + 1 } = .ok ⟨w.heap.size, 0, none⟩ { w with drawn := w.drawn + 1, heap := w.heap.push (.cells c e) } := by
    intro c; simp [newRow, newObj, Sem.run, Result.andThen]; exact ⟨rfl, rfl, rfl⟩
  rw [hnew, Result.andThen_ok, hcells, Sem.run_bind]
  have hsize : (u8s s.data.toList ++ List.replicate (cap - s.size) (Value.int .u8 0)).toArray.size = cap := by
    simp [u8s, hsz]; omega
  have hmark : (markStringish ⟨w.heap.size, 0, none⟩).run P { w with drawn := w.drawn + 1, heap := w.heap.push (.cells ((u8s s.data.toList ++ List.replicate (cap - s.size) (Value.int .u8 0)).toArray) e) } =
      .ok () { w with drawn := w.drawn + 1, heap := w.heap.push (.cells ((u8s s.data.toList ++ List.replicate (cap - s.size) (Value.int .u8 0)).toArray) e (cap, cap + 1)) } := by
    generalize hcs : (u8s s.data.toList ++ List.replicate (cap - s.size) (Value.int .u8 0)).toArray = cs at hsize ⊢
    generalize hw1 : ({ w with drawn := w.drawn + 1, heap := w.heap.push (.cells cs e) } : World) = w1
    have hb : w1.heap[w.heap.size]? = some (.cells cs e (0, 0)) := by subst hw1; simp
    have hsh : w1.shape? w.heap.size = some (e, cap) := by simp [World.shape?, hb, hsize]
    have hrun : (markStringish ⟨w.heap.size, 0, none⟩).run P w1 = .ok () (w1.freeze { block := w.heap.size, off := cap } 1) := by
      unfold markStringish
      rw [Sem.run_bind]
      have : (shape w.heap.size).run P w1 = .ok (some (e, cap)) w1 := by simp [shape, Sem.run, hsh]
      rw [this]
      rfl
    rw [hrun, freeze_eq (by decide) hb]
    subst hw1
    congr 2
    apply Array.ext_getElem?
    intro i
    simp only [freezeObj, Array.getElem?_setIfInBounds, Array.getElem?_push]
    by_cases hi : w.heap.size = i
    · subst hi; simp
    · have : ¬ i = w.heap.size := fun e => hi e.symm
      simp [hi, this]
  rw [hmark]
  simp

theorem nextP_un {P : Program} (t : TypeId) {K : Value → Mem → Prop} {Pn : List PanicEntry → Mem → Prop} : ∀ nx m, nextP P (fun v m' => unR P t v fun v' => K v' m') Pn nx m → nextP P K Pn nx m := by
  intro nx m h
  cases nx <;> try exact h
  case value v => exact unR_sound (K := fun v' => K v' m) h
  case skip => exact unR_sound (K := fun v' => K v' m) h
  case enter f args =>
    refine ⟨h.1, fun w hF => (h.2 w hF).mono fun e w' he => ?_⟩
    obtain ⟨m', h1, h2, h3⟩ := he
    refine ⟨m', h1, ?_, h3⟩
    cases e with
    | returned v => exact unR_sound (K := fun v' => K v' m') h2
    | panicked c => exact h2
    | outgrown => exact h2

/-- The loud specials. -/
theorem nval_sound {P : Program} {m : Mem} {w : World} {n : Nat} {ds : DS} {ρ : Env} {a : Act} {o : Oper}
    {K : Env → Mem → Prop} {Q : Exit → Env → Mem → Prop} {Pn : List PanicEntry → Mem → Prop}
    (hA : Ag n ds ρ a) (hF : Fit m w) (hd : ∀ d, o.dst = some d → ds.lo ≤ d ∧ d < n) (h : nval P ρ m o (fun v m' => K (putE ρ o.dst v) m') Pn) :
    o.wp P a w (UpA n ds K m w) (UpQ n ds Q Pn m w) := by
  unfold Oper.wp
  rw [hA.eval]
  unfold nval at h
  split at h
  · rename_i t x y hop
    split at h
    · rename_i b i hx
      cases hinf : infoOk P t (evr ρ y).cells.size with
      | false => rw [hinf] at h; exact h.elim
      | true =>
        rw [hinf] at h; simp only [cond_true] at h
        obtain ⟨m', w', hK, hr, hF', hf'⟩ := stL_sound (P := P) _ _ _ _ hF h
        have hrun : (execOp (evr ρ) o).run P w = .ok .skip w' := by
          unfold execOp
          rw [hop]
          simp only [Instr.storeAt, hx, Instr.sureAddr, storeVar]
          have h2 : (storeCells ⟨b, i, none⟩ (evr ρ y).cells.toList).run P w = .ok () w' := hr
          simp [sizeOf_run hinf, h2]
        rw [hrun]
        exact ⟨_, m', hK, hA.put hd undef, hF', hf'⟩
    · exact h.elim
  · rename_i f args aty hop
    split at h
    · rename_i g first cap hf
      have hrun0 : (execOp (evr ρ) o).run P w = (callFunc g (first ++ args.map (evr ρ) ++ cap)).run P w := by
        unfold execOp
        rw [hop]
        simp only [resolve, hf, Deferred.ofValue]
        rw [Sem.run_bind]
        simp only [Sem.run_pure, Result.andThen_ok, invoke]
      rcases h with h | h
      · have hrun : (execOp (evr ρ) o).run P w = .ok (.enter g (first ++ args.map (evr ρ) ++ cap)) w := hrun0.trans (h.1 w)
        rw [hrun]
        refine Calls_up hA hd (Fr.refl _ _) (fun e m' hc => ?_) (h.2 w hF)
        cases e with
        | returned v => exact unR_sound (K := fun v' => K (putE ρ o.dst v') m') hc
        | panicked c => exact hc
        | outgrown => exact hc
      · rw [hrun0]
        refine out_upon hA hd (pt_sound P _ _ _ hF (pt_mono P (fun nx m' hx => ?_) (fun _ _ hx => hx) _ _ h))
        cases nx <;> try exact hx.elim
        case value v => exact unR_sound (K := fun v' => K (putE ρ o.dst v') m') hx
    · exact h.elim
  · rename_i src dst x hop
    split at h
    · rename_i e s hs hdd hx
      obtain ⟨hT, h⟩ := cond_ok h
      unfold isU8 at hT
      split at hT
      · rename_i hu
        obtain ⟨cap, hcap, hr⟩ := s2b_run (P := P) e s w
        have hfr := fit_new hF (.cells ((u8s s.data.toList ++ List.replicate (cap - s.size) (Value.int .u8 0)).toArray) e (cap, cap + 1))
        have hrun : (execOp (evr ρ) o).run P w = .ok (.value (.slice (some ⟨w.heap.size, 0, none⟩) s.size cap))
            { w with drawn := w.drawn + 1, heap := w.heap.push (.cells ((u8s s.data.toList ++ List.replicate (cap - s.size) (Value.int .u8 0)).toArray) e (cap, cap + 1)) } := by
          unfold execOp
          rw [hop]
          refine run_v' ?_
          simp only [convert]
          rw [Sem.run_bind, under_run hs, Result.andThen_ok, Sem.run_bind, under_run hdd, Result.andThen_ok]
          simp only [hx]
          rw [Sem.run_bind, under_run hu, Result.andThen_ok]
          exact hr
        rw [hrun]
        exact ⟨_, _, unR_sound (K := fun v' => K (putE ρ o.dst v') _) (h cap _ hcap hF.fresh), hA.put hd _, hfr.1, ⟨hfr.2.os, hfr.2.tape, hfr.2.output, hfr.2.size, hfr.2.block, hfr.2.dom⟩⟩
      · cases hT
    · exact out_upon hA hd (pt_sound P _ _ _ hF (pt_mono P (nextP_un _) (fun _ _ h => h) _ _ h))
  · exact out_upon hA hd (pt_sound P _ _ _ hF (pt_mono P (nextP_un _) (fun _ _ h => h) _ _ h))
  · exact out_upon hA hd (pt_sound P _ _ _ hF (pt_mono P (nextP_un _) (fun _ _ h => h) _ _ h))
  · exact out_upon hA hd (pt_sound P _ _ _ hF h)

theorem qout_wp {P : Program} {m : Mem} {w : World} {n : Nat} {ds : DS} {ρ : Env} {a : Act} {o : Oper}
    {K : Env → Mem → Prop} {Q : Exit → Env → Mem → Prop} {Pn : List PanicEntry → Mem → Prop}
    (hA : Ag n ds ρ a) (hF : Fit m w) (hd : ∀ d, o.dst = some d → ds.lo ≤ d ∧ d < n) (h : QOut P ρ m o (fun v => K (putE ρ o.dst v) m) (Pn (nilPanic P) m)) :
    o.wp P a w (UpA n ds K m w) (UpQ n ds Q Pn m w) := by
  unfold Oper.wp
  rw [hA.eval]
  rcases h with ⟨v, hK, hr⟩ | ⟨hN, hr⟩
  · rw [hr w hF]; exact ⟨_, m, hK, hA.put hd v, hF, Fr.refl _ _⟩
  · rw [hr w]; exact ⟨hA.pan, m, hN, hF, Fr.refl _ _⟩

theorem pick_sound {P : Program} {ρ : Env} {o : Oper} {c x y : Operand} {K : Env → Prop} (hop : o.op = .pick c x y) (h : pickP ρ o.dst c x y K) :
    ∃ v, K (putE ρ o.dst v) ∧ ∀ w : World, (execOp (evr ρ) o).run P w = .ok (.value v) w := by
  unfold pickP at h
  split at h
  · rename_i t
    split at h
    · rename_i b hb
      cases b with
      | true =>
        have h' : K (putE (upd ρ t (.bool true)) o.dst (evr ρ x)) := h
        rw [upd_self hb] at h'
        exact ⟨_, h', fun w => by unfold execOp; rw [hop]; simp [evr, hb, asBool]⟩
      | false =>
        have h' : K (putE (upd ρ t (.bool false)) o.dst (evr ρ y)) := h
        rw [upd_self hb] at h'
        exact ⟨_, h', fun w => by unfold execOp; rw [hop]; simp [evr, hb, asBool]⟩
    · exact h.elim
  · exact h.elim

theorem one_sound {P : Program} {m : Mem} {w : World} {n : Nat} {ds : DS} {ρ : Env} {a : Act} {o : Oper}
    {K : Env → Mem → Prop} {Q : Exit → Env → Mem → Prop} {Pn : List PanicEntry → Mem → Prop}
    (hA : Ag n ds ρ a) (hF : Fit m w) (hd : ∀ d, o.dst = some d → ds.lo ≤ d ∧ d < n) (h : oneP P ρ m o K Pn) :
    o.wp P a w (UpA n ds K m w) (UpQ n ds Q Pn m w) := by
  unfold oneP at h
  split at h
  · rename_i c x y hop
    obtain ⟨v, hK, hr⟩ := pick_sound (P := P) hop h
    exact qout_wp hA hF hd (.inl ⟨v, hK, fun w _ => hr w⟩)
  · cases hq : quietOp P o.op with
    | true => rw [hq] at h; exact qout_wp hA hF hd (qval_sound h)
    | false => rw [hq] at h; exact nval_sound hA hF hd h

theorem yielded_of {n : Nat} {ds : DS} {ρ : Env} {a : Act} (hA : Ag n ds ρ a) {ops : Array Oper} {j d : Nat} {b : Bool}
    (hd : (ops[j]?).bind (·.dst) = some d) (hb : ρ d = .bool b) : yielded ops a.tmps j = some b := by
  have hg := hA.get d
  rw [hb] at hg
  have : a.tmps[d]? = some (.bool b) := by
    cases ht : a.tmps[d]? with
    | none => simp [Array.getD_eq_getD_getElem?, ht, undef] at hg
    | some v => simp [Array.getD_eq_getD_getElem?, ht] at hg; simp [hg]
  simp [yielded, hd, this]

/-- The guard says yes, or no. -/
theorem guard_sound {n : Nat} {ds : DS} {ρ : Env} {a : Act} (hA : Ag n ds ρ a) {ops : Array Oper} {o : Oper} {K Sk : Env → Prop}
    (h : guardP ops ρ o K Sk) : (Region.wanted o (yielded ops a.tmps) = true ∧ K ρ) ∨ (Region.wanted o (yielded ops a.tmps) = false ∧ Sk ρ) := by
  unfold guardP at h
  unfold Region.wanted
  split at h
  · rename_i hg; rw [hg]; exact .inl ⟨rfl, h⟩
  · rename_i j want hg
    rw [hg]
    split at h
    · rename_i d hd
      split at h
      · rename_i b hb
        simp only [yielded_of hA hd hb]
        cases want <;> cases b
        · exact .inl ⟨rfl, by rw [← upd_self hb]; exact h⟩
        · exact .inr ⟨rfl, by rw [← upd_self hb]; exact h⟩
        · exact .inr ⟨rfl, by rw [← upd_self hb]; exact h⟩
        · exact .inl ⟨rfl, by rw [← upd_self hb]; exact h⟩
      · rename_i vs hb
        refine .inr ⟨?_, h⟩
        have hg := hA.get d
        rw [hb] at hg
        have : yielded ops a.tmps j = none := by
          unfold yielded
          rw [hd]
          simp only [Option.bind_some]
          cases ht : a.tmps[d]? with
          | none => rfl
          | some v =>
            have : v = .tuple vs := by simpa [Array.getD_eq_getD_getElem?, ht] using hg
            subst this; rfl
        show (yielded ops a.tmps j == some want) = false
        rw [this]; rfl
      · exact h.elim
    · exact h.elim

theorem hops_sound {P : Program} {n : Nat} {ds : DS} {ops : Array Oper} {Q : Exit → Env → Mem → Prop} {Pn : List PanicEntry → Mem → Prop} :
    ∀ (l : List Oper) (ρ : Env) (m : Mem) (a : Act) (w : World), Ag n ds ρ a → Fit m w → l.all (dstOk ds.lo n) = true → hops P ops (Q .normal) Pn l ρ m →
      ∀ (m0 : Mem) (w0 : World), Fr m0 m w0 w → wpList P ops (UpQ n ds Q Pn m0 w0) l a w
  | [], ρ, m, a, w, hA, hF, _, h => fun m0 w0 f => ⟨ρ, m, h, hA, hF, f⟩
  | o :: r, ρ, m, a, w, hA, hF, hok, h => fun m0 w0 f => by
    simp only [List.all_cons, Bool.and_eq_true] at hok
    have hd := dst_lt hok.1
    simp only [wpList]
    rcases guard_sound hA h with ⟨hw, hk⟩ | ⟨hw, hs⟩
    · rw [if_pos hw]
      refine .inl ?_
      have h1 := one_sound (Q := Q) hA hF hd hk
      have h2 : o.wp P a w (UpA n ds (hops P ops (Q .normal) Pn r) m w) (UpQ n ds Q Pn m0 w0) := by
        unfold Oper.wp at h1 ⊢
        generalize (execOp a.eval o).run P w = res at h1 ⊢
        cases res with
        | ok nx w' =>
          cases nx <;> simp only [Oper.upon] at h1 ⊢ <;> try exact h1
          case enter g args =>
            refine h1.mono fun e w'' he => ?_
            cases e with
            | returned v => exact he
            | panicked c => exact UpQ.of f he
            | outgrown => obtain ⟨a1, w1, he⟩ := he; exact he.elim
        | halt x w' =>
          cases x <;> simp only [Oper.upon] at h1 ⊢
          case panic v => exact UpQ.of f h1
      refine Oper.wp_mono (fun a' w' hk' => ?_) h2
      obtain ⟨ρ', m', hK, hA', hF', hf'⟩ := hk'
      exact hops_sound r ρ' m' a' w' hA' hF' hok.2 hK m0 w0 (f.trans hf')
    · rw [if_neg (by simp [hw])]
      exact hops_sound r _ m _ w (hA.put hd undef) hF hok.2 hs m0 w0 f

end Go.H
