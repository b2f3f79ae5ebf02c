/- This project's own logic, printed forms and lemmas, as far as this claim needs them (part 3). -/
import Derived.Test.YthabagojnljbpaaQPlaceCounts2
set_option linter.unusedVariables false
set_option linter.unusedSimpArgs false
set_option maxRecDepth 20000
namespace Go.E.Pl
open Go.H Go.E Go.E.Rg
def ins (x : Nat) : List Nat → List Nat
  | [] => [x]
  | y :: ys => if x < y then x :: y :: ys else if x = y then y :: ys else y :: ins x ys
def rise (l : List Nat) : List Nat := l.foldr ins []
def Rz (l : List Nat) : Prop := l.Pairwise (· < ·)
theorem ins_mem {x z : Nat} : ∀ {l : List Nat}, z ∈ ins x l ↔ z = x ∨ z ∈ l := by
  intro l
  induction l with
  | nil => simp [ins]
  | cons y ys ih =>
    unfold ins
    split
    · simp
    · split
      · rename_i h; subst h; simp
      · rw [List.mem_cons, ih, List.mem_cons]
        constructor
        · rintro (h | h | h) <;> simp [h]
        · rintro (h | h | h) <;> simp [h]
theorem ins_rz {x : Nat} : ∀ {l : List Nat}, Rz l → Rz (ins x l) := by
  intro l
  induction l with
  | nil => intro _; simp [ins, Rz]
  | cons y ys ih =>
    intro h
    have hc := List.pairwise_cons.mp h
    unfold ins
    split
    · rename_i hx
      refine List.pairwise_cons.mpr ⟨fun z hz => ?_, h⟩
      rcases List.mem_cons.mp hz with rfl | hz
      · exact hx
      · have := hc.1 z hz; omega
    · split
      · exact h
      · refine List.pairwise_cons.mpr ⟨fun z hz => ?_, ih hc.2⟩
        rcases ins_mem.mp hz with rfl | hz
        · omega
        · exact hc.1 z hz
theorem rise_mem {l : List Nat} {z : Nat} : z ∈ rise l ↔ z ∈ l := by
  unfold rise
  induction l with
  | nil => simp
  | cons x l ih => rw [List.foldr_cons, ins_mem, ih, List.mem_cons]
theorem rise_rz (l : List Nat) : Rz (rise l) := by
  unfold rise
  induction l with
  | nil => exact List.Pairwise.nil
  | cons x l ih => rw [List.foldr_cons]; exact ins_rz ih
def also (a b : List Nat) : List Nat := rise (a ++ b)
theorem also_mem {a b : List Nat} {z : Nat} : z ∈ also a b ↔ z ∈ a ∨ z ∈ b := by unfold also; rw [rise_mem, List.mem_append]
theorem also_rz (a b : List Nat) : Rz (also a b) := rise_rz _
theorem rz_len {n : Nat} : ∀ {l : List Nat} {k : Nat}, Rz l → (∀ x ∈ l, k ≤ x ∧ x < n) → l.length ≤ n - k := by
  intro l
  induction l with
  | nil => intro k _ _; simp
  | cons x l ih =>
    intro k h hb
    have h1 := List.pairwise_cons.mp h
    have hx := hb x (by simp)
    have := ih (k := x + 1) h1.2 (fun y hy => ⟨h1.1 y hy, (hb y (by simp [hy])).2⟩)
    rw [List.length_cons]; omega
structure Part where
  fi : List Nat
  la : List Nat
  nu : Bool
structure Sta where
  sets : List (Nat → Bool)
  fol : List (List Nat)
def lk (J : List Nat → List Nat → List Nat) (fol : List (List Nat)) (last first : List Nat) : List (List Nat) := last.foldl (fun f i => f.set i (J (f.getD i []) first)) fol
variable (J : List Nat → List Nat → List Nat)
def stepC (out q : Part) : Part := ⟨if out.nu = true then J out.fi q.fi else out.fi, if q.nu = true then J out.la q.la else q.la, out.nu && q.nu⟩
mutual
def wk : Rx → Sta → Part × Sta
  | .mk k S ps, st =>
    if k = 1 then (⟨[st.sets.length], [st.sets.length], false⟩, ⟨st.sets ++ [S], st.fol ++ [[]]⟩)
    else if k = 2 then wkC ps ⟨[], [], true⟩ st
    else if k = 3 then wkA ps ⟨[], [], false⟩ st
    else wk1 k ps st
def wkC : List Rx → Part → Sta → Part × Sta
  | [], out, st => (out, st)
  | r :: rs, out, st => wkC rs (stepC J out (wk r st).1) ⟨(wk r st).2.sets, lk J (wk r st).2.fol out.la (wk r st).1.fi⟩
def wkA : List Rx → Part → Sta → Part × Sta
  | [], out, st => (out, st)
  | r :: rs, out, st => wkA rs ⟨J out.fi (wk r st).1.fi, J out.la (wk r st).1.la, out.nu || (wk r st).1.nu⟩ (wk r st).2
def wk1 (k : Int) : List Rx → Sta → Part × Sta
  | [], st => (⟨[], [], false⟩, st)
  | r :: _, st => (⟨(wk r st).1.fi, (wk r st).1.la, (wk r st).1.nu || decide (k ≠ 5)⟩, ⟨(wk r st).2.sets, if k ≠ 6 then lk J (wk r st).2.fol (wk r st).1.la (wk r st).1.fi else (wk r st).2.fol⟩)
end
mutual
def setsOf : Rx → List (Nat → Bool)
  | .mk k S ps => if k = 1 then [S] else if k = 2 ∨ k = 3 then setsL ps else sets1 ps
def setsL : List Rx → List (Nat → Bool)
  | [] => []
  | r :: rs => setsOf r ++ setsL rs
def sets1 : List Rx → List (Nat → Bool)
  | [] => []
  | r :: _ => setsOf r
end
def cnt (r : Rx) : Nat := (setsOf r).length
mutual
def Fi : Nat → Rx → Nat → Prop
  | n, .mk k S ps, x => if k = 1 then x = n else if k = 2 then FiC n ps x else if k = 3 then FiA n ps x else Fi1 n ps x
def FiC : Nat → List Rx → Nat → Prop
  | _, [], _ => False
  | n, r :: rs, x => Fi n r x ∨ (null r = true ∧ FiC (n + cnt r) rs x)
def FiA : Nat → List Rx → Nat → Prop
  | _, [], _ => False
  | n, r :: rs, x => Fi n r x ∨ FiA (n + cnt r) rs x
def Fi1 : Nat → List Rx → Nat → Prop
  | _, [], _ => False
  | n, r :: _, x => Fi n r x
end
mutual
def La : Nat → Rx → Nat → Prop
  | n, .mk k S ps, x => if k = 1 then x = n else if k = 2 then LaC n ps x else if k = 3 then LaA n ps x else La1 n ps x
def LaC : Nat → List Rx → Nat → Prop
  | _, [], _ => False
  | n, r :: rs, x => (nullA rs = true ∧ La n r x) ∨ LaC (n + cnt r) rs x
def LaA : Nat → List Rx → Nat → Prop
  | _, [], _ => False
  | n, r :: rs, x => La n r x ∨ LaA (n + cnt r) rs x
def La1 : Nat → List Rx → Nat → Prop
  | _, [], _ => False
  | n, r :: _, x => La n r x
end
mutual
def Fo : Nat → Rx → Nat → Nat → Prop
  | n, .mk k S ps, i, j => if k = 1 then False else if k = 2 then FoC n ps i j else if k = 3 then FoA n ps i j else Fo1 k n ps i j
def FoC : Nat → List Rx → Nat → Nat → Prop
  | _, [], _, _ => False
  | n, r :: rs, i, j => Fo n r i j ∨ FoC (n + cnt r) rs i j ∨ (La n r i ∧ FiC (n + cnt r) rs j)
def FoA : Nat → List Rx → Nat → Nat → Prop
  | _, [], _, _ => False
  | n, r :: rs, i, j => Fo n r i j ∨ FoA (n + cnt r) rs i j
def Fo1 (k : Int) : Nat → List Rx → Nat → Nat → Prop
  | _, [], _, _ => False
  | n, r :: _, i, j => Fo n r i j ∨ (k ≠ 6 ∧ La n r i ∧ Fi n r j)
end
def cntL (ps : List Rx) : Nat := (setsL ps).length
theorem cntL_cons (r : Rx) (rs : List Rx) : cntL (r :: rs) = cnt r + cntL rs := by unfold cntL cnt; rw [setsL, List.length_append]
def In (n m x : Nat) : Prop := n ≤ x ∧ x < n + m
theorem In.add {n a b x : Nat} (h : In (n + a) b x) : In n (a + b) x := by unfold In at *; omega
theorem In.left {n a b x : Nat} (h : In n a x) : In n (a + b) x := by unfold In at *; omega
/-- All that leads anywhere lies within. -/
theorem bounds (r : Rx) : ∀ n, (∀ x, Fi n r x → In n (cnt r) x) ∧ (∀ x, La n r x → In n (cnt r) x) ∧ (∀ i j, Fo n r i j → In n (cnt r) i ∧ In n (cnt r) j) := by
  refine Rx.rec (motive_1 := fun r => ∀ n, (∀ x, Fi n r x → In n (cnt r) x) ∧ (∀ x, La n r x → In n (cnt r) x) ∧ (∀ i j, Fo n r i j → In n (cnt r) i ∧ In n (cnt r) j))
    (motive_2 := fun ps => (∀ n, (∀ x, FiC n ps x → In n (cntL ps) x) ∧ (∀ x, LaC n ps x → In n (cntL ps) x) ∧ (∀ i j, FoC n ps i j → In n (cntL ps) i ∧ In n (cntL ps) j)) ∧
      (∀ n, (∀ x, FiA n ps x → In n (cntL ps) x) ∧ (∀ x, LaA n ps x → In n (cntL ps) x) ∧ (∀ i j, FoA n ps i j → In n (cntL ps) i ∧ In n (cntL ps) j)) ∧
      ∀ k n, (∀ x, Fi1 n ps x → In n (sets1 ps).length x) ∧ (∀ x, La1 n ps x → In n (sets1 ps).length x) ∧ (∀ i j, Fo1 k n ps i j → In n (sets1 ps).length i ∧ In n (sets1 ps).length j)) ?_ ?_ ?_ r
  · intro k S ps ⟨h1, h2, h3⟩ n
    unfold cnt setsOf
    by_cases k1 : k = 1
    · subst k1
      rw [if_pos rfl]
      refine ⟨fun x h => ?_, fun x h => ?_, fun i j h => ?_⟩
      · rw [Fi, if_pos rfl] at h; subst h; exact ⟨Nat.le_refl _, by simp⟩
      · rw [La, if_pos rfl] at h; subst h; exact ⟨Nat.le_refl _, by simp⟩
      · rw [Fo, if_pos rfl] at h; exact h.elim
    · by_cases k2 : k = 2
      · subst k2
        rw [if_neg k1, if_pos (.inl rfl)]
        refine ⟨fun x h => ?_, fun x h => ?_, fun i j h => ?_⟩
        · rw [Fi, if_neg k1, if_pos rfl] at h; exact (h1 n).1 x h
        · rw [La, if_neg k1, if_pos rfl] at h; exact (h1 n).2.1 x h
        · rw [Fo, if_neg k1, if_pos rfl] at h; exact (h1 n).2.2 i j h
      · by_cases k3 : k = 3
        · subst k3
          rw [if_neg k1, if_pos (.inr rfl)]
          refine ⟨fun x h => ?_, fun x h => ?_, fun i j h => ?_⟩
          · rw [Fi, if_neg k1, if_neg k2, if_pos rfl] at h; exact (h2 n).1 x h
          · rw [La, if_neg k1, if_neg k2, if_pos rfl] at h; exact (h2 n).2.1 x h
          · rw [Fo, if_neg k1, if_neg k2, if_pos rfl] at h; exact (h2 n).2.2 i j h
        · rw [if_neg k1, if_neg (by simp [k2, k3])]
          refine ⟨fun x h => ?_, fun x h => ?_, fun i j h => ?_⟩
          · rw [Fi, if_neg k1, if_neg k2, if_neg k3] at h; exact (h3 k n).1 x h
          · rw [La, if_neg k1, if_neg k2, if_neg k3] at h; exact (h3 k n).2.1 x h
          · rw [Fo, if_neg k1, if_neg k2, if_neg k3] at h; exact (h3 k n).2.2 i j h
  · refine ⟨fun n => ⟨fun x h => ?_, fun x h => ?_, fun i j h => ?_⟩, fun n => ⟨fun x h => ?_, fun x h => ?_, fun i j h => ?_⟩, fun k n => ⟨fun x h => ?_, fun x h => ?_, fun i j h => ?_⟩⟩
    · rw [FiC] at h; exact h.elim
    · rw [LaC] at h; exact h.elim
    · rw [FoC] at h; exact h.elim
    · rw [FiA] at h; exact h.elim
    · rw [LaA] at h; exact h.elim
    · rw [FoA] at h; exact h.elim
    · rw [Fi1] at h; exact h.elim
    · rw [La1] at h; exact h.elim
    · rw [Fo1] at h; exact h.elim
  · intro r rs hr ⟨h1, h2, _⟩
    refine ⟨fun n => ?_, fun n => ?_, fun k n => ?_⟩
    · rw [cntL_cons]
      obtain ⟨a1, a2, a3⟩ := hr n
      obtain ⟨b1, b2, b3⟩ := h1 (n + cnt r)
      refine ⟨fun x h => ?_, fun x h => ?_, fun i j h => ?_⟩
      · rw [FiC] at h
        rcases h with h | ⟨_, h⟩
        · exact (a1 x h).left
        · exact (b1 x h).add
      · rw [LaC] at h
        rcases h with ⟨_, h⟩ | h
        · exact (a2 x h).left
        · exact (b2 x h).add
      · rw [FoC] at h
        rcases h with h | h | ⟨h, h'⟩
        · exact ⟨(a3 i j h).1.left, (a3 i j h).2.left⟩
        · exact ⟨(b3 i j h).1.add, (b3 i j h).2.add⟩
        · exact ⟨(a2 i h).left, (b1 j h').add⟩
    · rw [cntL_cons]
      obtain ⟨a1, a2, a3⟩ := hr n
      obtain ⟨b1, b2, b3⟩ := h2 (n + cnt r)
      refine ⟨fun x h => ?_, fun x h => ?_, fun i j h => ?_⟩
      · rw [FiA] at h
        rcases h with h | h
        · exact (a1 x h).left
        · exact (b1 x h).add
      · rw [LaA] at h
        rcases h with h | h
        · exact (a2 x h).left
        · exact (b2 x h).add
      · rw [FoA] at h
        rcases h with h | h
        · exact ⟨(a3 i j h).1.left, (a3 i j h).2.left⟩
        · exact ⟨(b3 i j h).1.add, (b3 i j h).2.add⟩
    · obtain ⟨a1, a2, a3⟩ := hr n
      rw [sets1]
      refine ⟨fun x h => ?_, fun x h => ?_, fun i j h => ?_⟩
      · rw [Fi1] at h; exact a1 x h
      · rw [La1] at h; exact a2 x h
      · rw [Fo1] at h
        rcases h with h | ⟨_, h, h'⟩
        · exact a3 i j h
        · exact ⟨a2 i h, a1 j h'⟩
end Go.E.Pl
set_option linter.unusedVariables false
set_option linter.unusedSimpArgs false
namespace Go.H
open Go.Sort Go.RowKit
theorem HC_put {P : Program} {f : FuncId} {fn : Func} {args : Array Value} {m : Mem} {R : Ending → Mem → Prop} {e0 : Ending} {blk : Nat} {cur : Array Value} {e : TypeId} {fr : Nat × Nat} {d : Array Int} (hf : P.funcs[f]? = some fn) (hn : (fn.name == "runtime.NumGoroutine") = false) (hb : fn.body.isNone = false) (h0 : e0 ≠ .outgrown)
    (hm : m blk = some (.cells cur e fr))
    (h : ∀ w, Fit m w → Calls P f args w fun e1 w' => e1 = e0 ∧ ∃ n os, w' = grow (putRow (Value.int .i64) (Sort.ahead w n) blk 0 d) os)
    (k : R e0 (m.set blk (.cells (Go.Sort.putCells (Value.int .i64) 0 d cur) e fr))) : HC P f args m R := by
  refine .inl ⟨fun w => callFunc_enters hf hn hb args w, fun w hF => ?_⟩
  refine (h w hF).mono ?_
  rintro e1 w' ⟨rfl, n, os, rfl⟩
  have hlt : blk < w.heap.size := hF.lt hm
  have hheap : (grow (putRow (Value.int .i64) (Sort.ahead w n) blk 0 d) os).heap = w.heap.modify blk (onCells (Go.Sort.putCells (Value.int .i64) 0 d)) ++ os := rfl
  have hat : ∀ b, b < w.heap.size → (grow (putRow (Value.int .i64) (Sort.ahead w n) blk 0 d) os).heap[b]? = if blk = b then (w.heap[b]?).map (onCells (Go.Sort.putCells (Value.int .i64) 0 d)) else w.heap[b]? := by
    intro b hb'
    rw [hheap, Array.getElem?_append_left (by rw [Array.size_modify]; exact hb'), Array.getElem?_modify]
  refine ⟨_, h0, k, fun b o hbo => ?_, rfl, rfl, rfl, ?_, fun b hb' hmb => ?_, fun b hb' hmb => ?_⟩
  · unfold Mem.set at hbo
    split at hbo
    · rename_i e2
      subst e2
      cases hbo
      rw [hat b hlt, if_pos rfl, hF b _ hm]
      rfl
    · rename_i e2
      rw [hat b (hF.lt hbo), if_neg (Ne.symm e2)]
      exact hF b o hbo
  · rw [hheap, Array.size_append, Array.size_modify]; omega
  · rw [hat b hb', if_neg]
    rintro rfl
    rw [hm] at hmb; cases hmb
  · unfold Mem.set
    rw [if_neg]
    · exact hmb
    · rintro rfl
      rw [hm] at hmb; cases hmb
theorem HC_same {P : Program} {f : FuncId} {fn : Func} {args : Array Value} {m : Mem} {R : Ending → Mem → Prop} {e0 : Ending} (hf : P.funcs[f]? = some fn) (hn : (fn.name == "runtime.NumGoroutine") = false) (hb : fn.body.isNone = false) (h0 : e0 ≠ .outgrown)
    (h : ∀ w, Fit m w → Calls P f args w fun e1 w' => e1 = e0 ∧ w' = w) (k : R e0 m) : HC P f args m R := by
  refine .inl ⟨fun w => callFunc_enters hf hn hb args w, fun w hF => ?_⟩
  refine (h w hF).mono ?_
  rintro e1 w' ⟨rfl, rfl⟩
  exact ⟨m, h0, k, hF, Fr.refl _ _⟩
theorem put_toList {cur : Array Value} {d : List Int} (h : d.length ≤ cur.size) : (Go.Sort.putCells (Value.int .i64) 0 d.toArray cur).toList = d.map (Value.int .i64) ++ cur.toList.drop d.length := by
  apply List.ext_getElem?
  intro i
  rw [Array.getElem?_toList]
  unfold Go.Sort.putCells
  rw [Array.getElem?_mapIdx]
  by_cases hi : i < d.length
  · rw [List.getElem?_append_left (by simpa using hi), Array.getElem?_eq_getElem (by omega), List.getElem?_map, List.getElem?_eq_getElem hi]
    simp [hi]
  · rw [List.getElem?_append_right (by simp; omega), List.length_map, List.getElem?_drop, show d.length + (i - d.length) = i by omega, Array.getElem?_toList]
    cases cur[i]? with
    | none => rfl
    | some v => simp [hi]
/-- A row of numbers of one's own is what the contracts hold. -/
theorem own_holds {m : Mem} {w : World} (hF : Fit m w) {b l : Nat} {e : TypeId} {zs : List Int} {cur : Array Value} (hm : m b = some (.cells cur e (0, 0))) (ht : cur.toList.take l = ints zs) (hl : zs.length = l) : Holds (Value.int .i64) w b 0 zs.toArray := by
  intro j hj
  have hj' : j < zs.length := by simpa using hj
  have hw := hF b _ hm
  have hc : cur[j]? = some (.int .i64 zs[j]) := by
    have : (cur.toList.take l)[j]? = some (.int .i64 zs[j]) := by
      rw [ht]; unfold ints
      rw [List.getElem?_map, List.getElem?_eq_getElem hj']; rfl
    rw [List.getElem?_take] at this
    split at this
    · rw [Array.getElem?_toList] at this; exact this
    · cases this
  refine ⟨?_, ?_⟩
  · unfold World.cell?
    rw [Nat.zero_add]
    simp only [hw]
    show cur[j]? = _
    rw [hc]
    simp [hj']
  · unfold World.frozen?
    simp only [hw]
    simp
theorem own_put {m : Mem} {b c : Nat} {e : TypeId} {d : List Int} {cur : Array Value} (hm : m b = some (.cells cur e (0, 0))) (hs : cur.size = c) (hlc : d.length ≤ c) (hcm : c ≤ 9223372036854775807) {d1 : List Int} {l1 : Nat} (h1 : d.take l1 = d1) (hl1 : d1.length = l1) :
    Own (m.set b (.cells (Go.Sort.putCells (Value.int .i64) 0 d.toArray cur) e (0, 0))) e 1 (some ⟨b, 0, none⟩) l1 c (ints d1) := by
  have hdl : l1 ≤ d.length := by
    have := congrArg List.length h1
    rw [List.length_take] at this
    omega
  refine ⟨by unfold ints; rw [List.length_map]; omega, .inr ⟨b, _, rfl, set_same _ _ _, by omega, ?_, ?_, hcm⟩⟩
  · unfold Go.Sort.putCells; rw [Array.size_mapIdx]; omega
  · rw [put_toList (by omega), Nat.mul_one, List.take_append_of_le_length (by rw [List.length_map]; exact hdl), ← List.map_take, h1]; rfl
theorem rzI_eq : ∀ {l m : List Int}, l.Pairwise (· < ·) → m.Pairwise (· < ·) → (∀ x, x ∈ l ↔ x ∈ m) → l = m := by
  intro l
  induction l with
  | nil =>
    intro m _ _ h
    cases m with
    | nil => rfl
    | cons y ys => exact absurd ((h y).mpr (by simp)) (by simp)
  | cons x l ih =>
    intro m hl hm h
    cases m with
    | nil => exact absurd ((h x).mp (by simp)) (by simp)
    | cons y m =>
      have h1 := List.pairwise_cons.mp hl
      have h2 := List.pairwise_cons.mp hm
      have hxy : x = y := by
        have hx := (h x).mp (by simp)
        have hy := (h y).mpr (by simp)
        rcases List.mem_cons.mp hx with e | hx
        · exact e
        · rcases List.mem_cons.mp hy with e | hy
          · exact e.symm
          · have a := h1.1 y hy; have b := h2.1 x hx; omega
      subst hxy
      congr 1
      refine ih h1.2 h2.2 (fun z => ?_)
      have hz := h z
      rw [List.mem_cons, List.mem_cons] at hz
      constructor
      · intro hzl
        have := h1.1 z hzl
        rcases hz.mp (.inr hzl) with e | e
        · omega
        · exact e
      · intro hzm
        have := h2.1 z hzm
        rcases hz.mpr (.inr hzm) with e | e
        · omega
        · exact e
theorem compact_rz (zs : List Int) (h : zs.Pairwise (· ≤ ·)) : (Lib.compact zs).Pairwise (· < ·) ∧ ∀ x, x ∈ Lib.compact zs ↔ x ∈ zs := by
  have hle : ∀ i j, i ≤ j → j < zs.length → zs.toArray[i]! ≤ zs.toArray[j]! := by
    intro i j hij hj
    have e : ∀ k, (hk : k < zs.length) → zs.toArray[k]! = zs[k] := fun k hk => by simp [hk]
    rw [e i (by omega), e j hj]
    rcases Nat.lt_or_ge i j with h1 | h1
    · exact List.pairwise_iff_getElem.mp h i j (by omega) hj h1
    · have : i = j := by omega
      subst this; exact Int.le_refl _
  have key : ∀ m, m ≤ zs.length → (Lib.compactUpTo zs.toArray m).Pairwise (· < ·) ∧ ∀ x, x ∈ Lib.compactUpTo zs.toArray m ↔ ∃ j, j < m ∧ zs.toArray[j]! = x := by
    intro m
    induction m with
    | zero => intro _; refine ⟨by unfold Lib.compactUpTo; exact List.Pairwise.nil, fun x => ?_⟩; unfold Lib.compactUpTo; simp
    | succ m ih =>
      intro hm
      obtain ⟨i1, i2⟩ := ih (by omega)
      rw [Lib.compactUpTo_succ]
      by_cases hk : Lib.keeps zs.toArray m = true
      · rw [if_pos hk]
        refine ⟨List.pairwise_append.mpr ⟨i1, List.pairwise_singleton _ _, fun a ha b hb => ?_⟩, fun x => ?_⟩
        · rw [List.mem_singleton] at hb
          subst hb
          obtain ⟨j, hj, rfl⟩ := (i2 a).mp ha
          unfold Lib.keeps at hk
          rw [decide_eq_true_eq] at hk
          have h1 := hle j (m - 1) (by omega) (by omega)
          have h2 := hle (m - 1) m (by omega) (by omega)
          rcases hk with hk | hk
          · omega
          · omega
        · rw [List.mem_append, i2, List.mem_singleton]
          constructor
          · rintro (⟨j, hj, e⟩ | rfl)
            · exact ⟨j, by omega, e⟩
            · exact ⟨m, by omega, rfl⟩
          · rintro ⟨j, hj, e⟩
            by_cases e2 : j = m
            · subst e2; exact .inr e.symm
            · exact .inl ⟨j, by omega, e⟩
      · rw [if_neg hk, List.append_nil]
        refine ⟨i1, fun x => ?_⟩
        rw [i2]
        unfold Lib.keeps at hk
        rw [decide_eq_true_eq] at hk
        constructor
        · rintro ⟨j, hj, e⟩; exact ⟨j, by omega, e⟩
        · rintro ⟨j, hj, e⟩
          by_cases e2 : j = m
          · subst e2
            have h0 : j ≠ 0 := fun e => hk (.inl e)
            refine ⟨j - 1, by omega, ?_⟩
            rw [← e]
            exact (Decidable.not_not.mp (fun hn => hk (.inr hn))).symm
          · exact ⟨j, by omega, e⟩
  obtain ⟨k1, k2⟩ := key zs.length (Nat.le_refl _)
  refine ⟨k1, fun x => ?_⟩
  unfold Lib.compact
  rw [k2]
  constructor
  · rintro ⟨j, hj, rfl⟩
    have : zs.toArray[j]! = zs[j] := by simp [hj]
    rw [this]; exact List.getElem_mem _
  · intro hx
    obtain ⟨j, hj, rfl⟩ := List.getElem_of_mem hx
    exact ⟨j, hj, by simp [hj]⟩
open Go.E.Pl in
theorem compact_sorted (ns : List Nat) : Lib.compact ((ns.map (fun n : Nat => (n : Int))).mergeSort fun x y => decide (x ≤ y)) = (rise ns).map (fun n : Nat => (n : Int)) := by
  obtain ⟨h1, h2⟩ := compact_rz ((ns.map (fun n : Nat => (n : Int))).mergeSort fun x y => decide (x ≤ y)) (by
    have := List.pairwise_mergeSort (le := fun x y : Int => decide (x ≤ y)) (by intro a b c; simp only [decide_eq_true_eq]; omega) (by intro a b; simp only [Bool.or_eq_true, decide_eq_true_eq]; omega) (ns.map (fun n : Nat => (n : Int)))
    exact this.imp (fun h => by simpa using h))
  refine rzI_eq h1 ?_ (fun x => ?_)
  · rw [List.pairwise_map]
    exact (rise_rz ns).imp (fun h => by omega)
  · rw [h2, List.mem_mergeSort, List.mem_map, List.mem_map]
    constructor
    · rintro ⟨n, hn, e⟩; exact ⟨n, rise_mem.mpr hn, e⟩
    · rintro ⟨n, hn, e⟩; exact ⟨n, rise_mem.mp hn, e⟩
end Go.H
set_option linter.unusedVariables false
set_option linter.unusedSimpArgs false
namespace Go.Proofs
open Go.Shelf
def Try.lays189_ren : Go.Shelf.Ren := ⟨fun | 189 => 42 | 125 => 47 | 257 => 46 | 128 => 57 | 129 => 58 | 294 => 48 | 295 => 49 | 296 => 50 | 297 => 51 | 298 => 52 | 299 => 53 | 216 => 54 | 300 => 55 | 301 => 56 | 328 => 59 | 329 => 60 | 330 => 61 | 331 => 62 | 332 => 63 | 215 => 64 | 343 => 65 | n => n, fun | 28 => 34 | 3 => 3 | 46 => 84 | 0 => 0 | 51 => 95 | 53 => 24 | 4 => 4 | 183 => 87 | 182 => 86 | 131 => 92 | 5 => 5 | 9 => 9 | 218 => 97 | 222 => 101 | 228 => 103 | 229 => 70 | n => n, fun | n => n⟩
theorem Try.lays189 : Go.Proofs.Lays.n189 Try.prog Try.lays189_ren := {
  mixed := by kernel_rfl
  f125 := Try.func47.trans (congrArg some (by kernel_rfl))
  f128 := Try.func57.trans (congrArg some (by kernel_rfl))
  f129 := Try.func58.trans (congrArg some (by kernel_rfl))
  f189 := Try.func42.trans (congrArg some (by kernel_rfl))
  f215 := Try.func64.trans (congrArg some (by kernel_rfl))
  f216 := Try.func54.trans (congrArg some (by kernel_rfl))
  f257 := Try.func46.trans (congrArg some (by kernel_rfl))
  f294 := Try.func48.trans (congrArg some (by kernel_rfl))
  f295 := Try.func49.trans (congrArg some (by kernel_rfl))
  f296 := Try.func50.trans (congrArg some (by kernel_rfl))
  f297 := Try.func51.trans (congrArg some (by kernel_rfl))
  f298 := Try.func52.trans (congrArg some (by kernel_rfl))
  f299 := Try.func53.trans (congrArg some (by kernel_rfl))
  f300 := Try.func55.trans (congrArg some (by kernel_rfl))
  f301 := Try.func56.trans (congrArg some (by kernel_rfl))
  f328 := Try.func59.trans (congrArg some (by kernel_rfl))
  f329 := Try.func60.trans (congrArg some (by kernel_rfl))
  f330 := Try.func61.trans (congrArg some (by kernel_rfl))
  f331 := Try.func62.trans (congrArg some (by kernel_rfl))
  f332 := Try.func63.trans (congrArg some (by kernel_rfl))
  f343 := Try.func65.trans (congrArg some (by kernel_rfl))
  t0 := Try.underlying0
  a0 := Try.isAgg0
  z0 := Try.sizeOf0
  v0 := Try.zeroValue0
  t3 := Try.underlying3
  a3 := Try.isAgg3
  z3 := Try.sizeOf3
  v3 := Try.zeroValue3
  t4 := Try.underlying4
  a4 := Try.isAgg4
  z4 := Try.sizeOf4
  v4 := Try.zeroValue4
  t5 := Try.underlying5
  a5 := Try.isAgg5
  z5 := Try.sizeOf5
  v5 := Try.zeroValue5
  t9 := Try.underlying9
  a9 := Try.isAgg9
  z9 := Try.sizeOf9
  v9 := Try.zeroValue9
  t28 := Try.underlying34
  a28 := Try.isAgg34
  z28 := Try.sizeOf34
  v28 := Try.zeroValue34
  t46 := Try.underlying84
  a46 := Try.isAgg84
  z46 := Try.sizeOf84
  v46 := Try.zeroValue84
  t51 := Try.underlying95
  a51 := Try.isAgg95
  z51 := Try.sizeOf95
  v51 := Try.zeroValue95
  t53 := Try.underlying24
  a53 := Try.isAgg24
  z53 := Try.sizeOf24
  v53 := Try.zeroValue24
  t131 := Try.underlying92
  a131 := Try.isAgg92
  z131 := Try.sizeOf92
  v131 := Try.zeroValue92
  t182 := Try.underlying86
  a182 := Try.isAgg86
  z182 := Try.sizeOf86
  v182 := Try.zeroValue86
  t183 := Try.underlying87
  a183 := Try.isAgg87
  z183 := Try.sizeOf87
  v183 := Try.zeroValue87
  t218 := Try.underlying97
  a218 := Try.isAgg97
  z218 := Try.sizeOf97
  v218 := Try.zeroValue97
  t222 := Try.underlying101
  a222 := Try.isAgg101
  z222 := Try.sizeOf101
  v222 := Try.zeroValue101
  t228 := Try.underlying103
  a228 := Try.isAgg103
  z228 := Try.sizeOf103
  v228 := Try.zeroValue103
  t229 := Try.underlying70
  a229 := Try.isAgg70
  z229 := Try.sizeOf70
  v229 := Try.zeroValue70 }
def Try.lays20_ren : Go.Shelf.Ren := ⟨fun | 20 => 43 | n => n, fun | 22 => 34 | 3 => 3 | 4 => 4 | 0 => 0 | n => n, fun | n => n⟩
theorem Try.lays20 : Go.Proofs.Lays2.n20 Try.prog Try.lays20_ren := {
  mixed := by kernel_rfl
  f20 := Try.func43.trans (congrArg some (by kernel_rfl))
  t0 := Try.underlying0
  a0 := Try.isAgg0
  z0 := Try.sizeOf0
  v0 := Try.zeroValue0
  t3 := Try.underlying3
  a3 := Try.isAgg3
  z3 := Try.sizeOf3
  v3 := Try.zeroValue3
  t4 := Try.underlying4
  a4 := Try.isAgg4
  z4 := Try.sizeOf4
  v4 := Try.zeroValue4
  t22 := Try.underlying34
  a22 := Try.isAgg34
  z22 := Try.sizeOf34
  v22 := Try.zeroValue34
  i3 := by kernel_rfl }
end Go.Proofs
namespace Go.E.Pl
open Go.H Go.E
attribute [local irreducible] BiN MkS ConvN LookN MapUpN CallV HC
def ns (l : List Nat) : List Int := l.map fun n : Nat => (n : Int)
theorem ns_len (l : List Nat) : (ns l).length = l.length := List.length_map _
theorem ns_append (a b : List Nat) : ns (a ++ b) = ns a ++ ns b := List.map_append
def srt (zs : List Int) : List Int := zs.mergeSort fun x y => decide (x ≤ y)
theorem srt_len (zs : List Int) : (srt zs).length = zs.length := by unfold srt; exact List.length_mergeSort _
theorem ints_len (zs : List Int) : (ints zs).length = zs.length := by unfold ints; exact List.length_map _
theorem set_chg {m : Mem} {b : Nat} (o : Obj) : Chg (fun k => blk (some (⟨b, 0, none⟩ : Addr)) = some k) m (m.set b o) := (Chg.set m b o).mono (fun k e => by rw [show k = b from e]; rfl)
theorem Sort_spec {m : Mem} {a : Option Addr} {l c : Nat} {zs : List Int} {R : Ending → Mem → Prop} (ho : Own m T_int 1 a l c (ints zs)) (hlm : l ≤ 1000000000) (h : ∀ m', Chg (fun b => blk a = some b) m m' → Own m' T_int 1 a l c (ints (srt zs)) → R (.returned (.tuple #[])) m') : HC P slices_Sort_s_int_int.id #[.slice a l c] m R := by
  have hzl : zs.length = l := by have := ho.1; rw [ints_len] at this; omega
  rcases ho.2 with ⟨rfl, hl, hc⟩ | ⟨b, cur, rfl, hm, hlc, hs, ht, hcm⟩
  · subst hl hc
    have hz : zs = [] := List.eq_nil_of_length_eq_zero hzl
    subst hz
    have e : srt [] = [] := by unfold srt; simp
    have k := h m (Chg.refl _ _) (by rw [e]; exact ho)
    exact HC_same Go.Proofs.Try.func42 (by kernel_rfl) (by kernel_rfl) (by simp) (fun w hF => Go.Proofs.Any.slices_Sort_int_none Go.Proofs.Try.lays189 _ _ w) k
  · refine HC_put (cur := cur) (e := T_int) (d := (srt zs).toArray) (e0 := .returned (.tuple #[])) Go.Proofs.Try.func42 (by kernel_rfl) (by kernel_rfl) (by simp) hm (fun w hF => ?_) ?_
    · have := Go.Proofs.Any.slices_Sort_int Go.Proofs.Try.lays189 b 0 c zs w (own_holds hF hm (by rw [Nat.mul_one] at ht; exact ht) hzl) (hF.lt hm) (by omega)
      rw [hzl] at this
      exact this
    · refine h _ (set_chg _) ?_
      refine own_put hm (by omega) (by rw [srt_len]; omega) hcm (l1 := l) ?_ (by rw [srt_len]; exact hzl)
      rw [List.take_of_length_le (by rw [srt_len]; omega)]
theorem Compact_spec {m : Mem} {a : Option Addr} {l c : Nat} {zs : List Int} {R : Ending → Mem → Prop} (ho : Own m T_int 1 a l c (ints zs)) (hlm : l ≤ 1000000000) (h : ∀ m', Chg (fun b => blk a = some b) m m' → Own m' T_int 1 a (Lib.compact zs).length c (ints (Lib.compact zs)) → R (.returned (.slice a (Lib.compact zs).length c)) m') : HC P slices_Compact_s_int_int.id #[.slice a l c] m R := by
  have hzl : zs.length = l := by have := ho.1; rw [ints_len] at this; omega
  rcases ho.2 with ⟨rfl, hl, hc⟩ | ⟨b, cur, rfl, hm, hlc, hs, ht, hcm⟩
  · subst hl hc
    have hz : zs = [] := List.eq_nil_of_length_eq_zero hzl
    subst hz
    have k := h m (Chg.refl _ _) ho
    exact HC_same Go.Proofs.Try.func43 (by kernel_rfl) (by kernel_rfl) (by simp) (fun w hF => Go.Proofs.Any.slices_Compact_int_empty Go.Proofs.Try.lays20 none 0 w) k
  · have hcl : (Lib.compact zs).length ≤ l := by
      unfold Lib.compact Lib.compactUpTo
      rw [List.length_map]
      have := List.length_filter_le (Lib.keeps zs.toArray) (List.range zs.length)
      rw [List.length_range] at this
      omega
    refine HC_put (cur := cur) (e := T_int) (d := (Lib.compact zs ++ List.replicate (zs.length - (Lib.compact zs).length) 0).toArray) (e0 := .returned (.slice (some ⟨b, 0, none⟩) (Lib.compact zs).length c)) Go.Proofs.Try.func43 (by kernel_rfl) (by kernel_rfl) (by simp) hm (fun w hF => ?_) ?_
    · have := Go.Proofs.Any.slices_Compact_int Go.Proofs.Try.lays20 b 0 c zs w (own_holds hF hm (by rw [Nat.mul_one] at ht; exact ht) hzl) (by omega) (by omega)
      rw [hzl] at this
      rw [hzl]
      refine this.mono ?_
      rintro e w' ⟨h1, q, h2⟩
      exact ⟨h1, q, #[], by rw [Go.Sort.grow_empty]; exact h2⟩
    · refine h _ (set_chg _) ?_
      refine own_put hm (by omega) (by rw [List.length_append, List.length_replicate]; omega) hcm (l1 := (Lib.compact zs).length) ?_ rfl
      rw [List.take_append_of_le_length (Nat.le_refl _), List.take_of_length_le (Nat.le_refl _)]
end Go.E.Pl
set_option linter.unusedVariables false
set_option linter.unusedSimpArgs false
set_option maxRecDepth 20000
namespace Go.E.Pl
open Go.H Go.E
attribute [local irreducible] BiN MkS ConvN LookN MapUpN CallV HC
theorem Grow_spec {m : Mem} {n : Nat} {R : Ending → Mem → Prop} (hn : n ≤ 1000000) (k : ∀ m' a c, Le m m' → Own m' T_int 1 a 0 c [] → Fresh m a → R (.returned (.slice a 0 c)) m') : HC P slices_Grow_s_int_int.id #[.slice none 0 0, .int .i64 (n : Int)] m R := by
  refine slices_Grow_s_int_int.ok _ _ _ _ _ _ ?_
  have e0 : IntKind.i64.wrap (((0 : Nat) : Int) - ((0 : Nat) : Int)) = 0 := by decide
  have e : IntKind.i64.wrap ((n : Int) - (IntKind.i64.wrap (((0 : Nat) : Int) - ((0 : Nat) : Int)))) = (n : Int) := by
    rw [e0, wi (n := (n : Int) - 0) (by omega) (by omega)]; omega
  unfold slices_Grow_s_int_int.e0
  refine BrDf (by omega) ?_
  rw [e]
  refine BrD (fun hp => ?_) (fun hp => ?_)
  · refine ⟨by decide, by decide, by decide, ?_⟩
    refine append_zeros (a := none) (l := 0) (c := 0) (xs := []) eInt (by kernel_rfl) (CellsAt.empty _ _) rfl (by omega) (by omega) (by omega) (by decide) (by decide) (by omega) ?_
    intro b c' cur hb h1 h2 h3 h4
    refine UnS.mk ?_
    refine ⟨by decide, by decide, by omega, ?_⟩
    have hsh : shf (some ⟨b, 0, none⟩) (0 : Int).toNat 1 c' = some ⟨b, 0, none⟩ := by
      unfold shf; split <;> rfl
    show R (.returned (.slice (shf (some ⟨b, 0, none⟩) (0 : Int).toNat 1 c') 0 (c' - 0))) _
    rw [hsh, Nat.sub_zero]
    refine k _ _ _ (Le.set hb _) ⟨rfl, .inr ⟨b, cur, rfl, set_same _ _ _, by omega, h3, by simp, h2⟩⟩ ?_
    intro b' e'
    have : b = b' := by simpa [blk] using e'
    subst this; exact hb
  · refine k _ _ _ (Le.refl _) (Own.nil _ _ _) (Fresh.none _)
theorem Concat_spec {m : Mem} {b8 : Nat} {a : Option Addr} {la ca : Nat} {b : Option Addr} {lb cb : Nat} {xs ys : List Int} {t : TypeId} (hb8 : m b8 = some (.cells #[.slice a la ca, .slice b lb cb] t (0, 0))) (h1 : CellsAt m a (ints xs)) (hla : xs.length = la) (h2 : CellsAt m b (ints ys)) (hlb : ys.length = lb) (hs : la + lb ≤ 1000000)
    {R : Ending → Mem → Prop} (k : ∀ m' a' c', Le m m' → Own m' T_int 1 a' (la + lb) c' (ints (xs ++ ys)) → Fresh m a' → R (.returned (.slice a' (la + lb) c')) m') : HC P slices_Concat_s_int_int.id #[.slice (some ⟨b8, 0, none⟩) 2 2] m R := by
  refine slices_Concat_s_int_int.ok _ _ _ _ _ ?_
  -- the rows as they stand
  let row : Nat → Value := fun j => if j = 0 then .slice a la ca else .slice b lb cb
  have hcell : ∀ (mm : Mem), Le m mm → ∀ j, j < 2 → mm.cell b8 (0 + j * 1) = some (row j) := by
    intro mm hle j hj
    refine cell_of (hle _ _ hb8) ?_
    rcases (by omega : j = 0 ∨ j = 1) with rfl | rfl <;> rfl
  -- the second half
  have k2 : slices_Concat_s_int_int.k2 (some ⟨b8, 0, none⟩) 2 2 ((la + lb : Nat) : Int) R m := by
    unfold slices_Concat_s_int_int.k2
    refine Grow_spec hs ?_
    intro m1 a1 c1 hle1 ho1 hf1
    dsimp only [Cont]
    refine UnS.mk ?_
    let acc : Nat → List Int := fun j => if j = 0 then [] else if j = 1 then xs else xs ++ ys
    refine ⟨fun N na nl nc xa xl xc n i mm => xa = some ⟨b8, 0, none⟩ ∧ xl = 2 ∧ n = 2 ∧ ∃ j : Nat, i = (j : Int) ∧ j ≤ 2 ∧ N = 2 - j ∧ Le m mm ∧ nl = (acc j).length ∧ Own mm T_int 1 na nl nc (ints (acc j)) ∧ Fresh m na, 2,
      ⟨rfl, rfl, rfl, 0, rfl, by omega, rfl, hle1, rfl, ho1, hf1⟩, ?_⟩
    rintro N na nl nc xa xl xc n i mm ⟨rfl, rfl, rfl, j, rfl, hj, rfl, hlm, rfl, hown, hfr⟩
    unfold slices_Concat_s_int_int.l3B
    refine BrD (fun hlt => ?_) (fun hge => ?_)
    · have hj2 : j < 2 := by omega
      refine ⟨by omega, by omega, ?_⟩
      show LdV mm b8 (0 + (j : Int).toNat * 1) _
      rw [Int.toNat_natCast]
      refine LdV.mk (hcell mm hlm j hj2) ?_
      have step : ∀ {a2 : Option Addr} {l2 c2 : Nat} {zs : List Int}, row j = .slice a2 l2 c2 → CellsAt mm a2 (ints zs) → zs.length = l2 → acc (j + 1) = acc j ++ zs → (acc j).length + l2 ≤ 1000000 → (UnS (row j) fun x30a x30l x30c =>
          BiN P .append #[T_sl_int, T_sl_int] T_sl_int #[false, false] #[.slice na (acc j).length nc, .slice x30a x30l x30c] mm (fun w m1 => UnS w fun x33a x33l x33c => ∃ N1, N1 < 2 - j ∧ ((some ⟨b8, 0, none⟩ : Option Addr) = some ⟨b8, 0, none⟩ ∧ 2 = 2 ∧ (2 : Int) = 2 ∧ ∃ j' : Nat, IntKind.i64.wrap ((j : Int) + 1) = (j' : Int) ∧ j' ≤ 2 ∧ N1 = 2 - j' ∧ Le m m1 ∧ x33l = (acc j').length ∧ Own m1 T_int 1 x33a x33l x33c (ints (acc j')) ∧ Fresh m x33a)) (panicR R)) := by
        intro a2 l2 c2 zs hrow hc hzl hacc hlen
        rw [hrow]
        refine UnS.mk ?_
        refine append_own eInt hown hc (by rw [ints_len]; omega) (by intro v hv; unfold ints at hv; rw [List.mem_map] at hv; obtain ⟨z, _, rfl⟩ := hv; rfl) (by decide) (by omega) (by omega) ?_
        intro a' c' m2 ho2 hg
        obtain ⟨hle2, hf2⟩ := grown_le hlm hfr hg
        refine UnS.mk ?_
        refine ⟨2 - (j + 1), by omega, rfl, rfl, rfl, j + 1, ?_, by omega, rfl, hle2, ?_, ?_, hf2⟩
        · rw [wi (by omega) (by omega)]; omega
        · rw [hacc, List.length_append, hzl]
        · rw [hacc]; unfold ints at ho2 ⊢; rw [List.map_append]; exact ho2
      rcases (by omega : j = 0 ∨ j = 1) with rfl | rfl
      · exact step (zs := xs) rfl (h1.le hlm) hla rfl (by show 0 + la ≤ _; omega)
      · exact step (zs := ys) rfl (h2.le hlm) hlb rfl (by show xs.length + lb ≤ _; omega)
    · have : j = 2 := by omega
      subst this
      have e : (acc 2).length = la + lb := by show (xs ++ ys).length = _; rw [List.length_append, hla, hlb]
      rw [e] at hown ⊢
      exact k mm na nc hlm hown hfr
  let acc : Nat → Nat := fun j => if j = 0 then 0 else if j = 1 then la else la + lb
  refine ⟨fun N sa sl sc size xa xl xc n i mm => sa = some ⟨b8, 0, none⟩ ∧ sl = 2 ∧ sc = 2 ∧ xa = some ⟨b8, 0, none⟩ ∧ xl = 2 ∧ n = 2 ∧ mm = m ∧ ∃ j : Nat, i = (j : Int) ∧ j ≤ 2 ∧ N = 2 - j ∧ size = ((acc j : Nat) : Int), 2,
    ⟨rfl, rfl, rfl, rfl, rfl, rfl, rfl, 0, rfl, by omega, rfl, rfl⟩, ?_⟩
  rintro N sa sl sc size xa xl xc n i mm ⟨rfl, rfl, rfl, rfl, rfl, rfl, rfl, j, rfl, hj, rfl, rfl⟩
  unfold slices_Concat_s_int_int.l1B
  refine BrD (fun hlt => ?_) (fun hge => ?_)
  · have hj2 : j < 2 := by omega
    refine ⟨by omega, by omega, ?_⟩
    show LdV mm b8 (0 + (j : Int).toNat * 1) _
    rw [Int.toNat_natCast]
    refine LdV.mk (hcell mm (Le.refl _) j hj2) ?_
    rcases (by omega : j = 0 ∨ j = 1) with rfl | rfl
    · refine UnS.mk ?_
      have e : IntKind.i64.wrap (((acc 0 : Nat) : Int) + ((la : Nat) : Int)) = ((acc 1 : Nat) : Int) := by
        show IntKind.i64.wrap (((0 : Nat) : Int) + ((la : Nat) : Int)) = ((la : Nat) : Int)
        rw [wi (by omega) (by omega)]; omega
      rw [e]
      refine BrDf (by omega) ?_
      refine ⟨1, by omega, rfl, rfl, rfl, rfl, rfl, rfl, rfl, 1, ?_, by omega, rfl, rfl⟩
      decide
    · refine UnS.mk ?_
      have e : IntKind.i64.wrap (((acc 1 : Nat) : Int) + ((lb : Nat) : Int)) = ((acc 2 : Nat) : Int) := by
        show IntKind.i64.wrap (((la : Nat) : Int) + ((lb : Nat) : Int)) = ((la + lb : Nat) : Int)
        rw [wi (by omega) (by omega)]; omega
      rw [e]
      refine BrDf (by omega) ?_
      refine ⟨0, by omega, rfl, rfl, rfl, rfl, rfl, rfl, rfl, 2, ?_, by omega, rfl, rfl⟩
      decide
  · have : j = 2 := by omega
    subst this
    exact k2
theorem also_spec {m : Mem} {a : Option Addr} {la ca : Nat} {b : Option Addr} {lb cb : Nat} {xs ys : List Nat} (h1 : CellsAt m a (ints (ns xs))) (hla : xs.length = la) (h2 : CellsAt m b (ints (ns ys))) (hlb : ys.length = lb) (hs : la + lb ≤ 1000000)
    {R : Ending → Mem → Prop} (k : ∀ m' a' c', Le m m' → CellsAt m' a' (ints (ns (also xs ys))) → Fresh m a' → R (.returned (.slice a' (also xs ys).length c')) m') : HC P place_also.id #[.slice a la ca, .slice b lb cb] m R := by
  refine place_also.ok _ _ _ _ _ _ _ _ ?_
  intro b8 hb8
  refine Concat_spec (set_same _ _ _) (h1.le (Le.set hb8 _)) (by rw [ns_len]; exact hla) (h2.le (Le.set hb8 _)) (by rw [ns_len]; exact hlb) hs ?_
  intro m2 a' c' hle2 ho2 hf2
  have l2 := (Le.set hb8 _).trans hle2
  have f2 := Fresh.le (Le.set hb8 _) hf2
  dsimp only [Cont]
  refine UnS.mk ?_
  rw [← ns_append] at ho2
  refine Sort_spec ho2 (by omega) ?_
  intro m3 hch3 ho3
  dsimp only [Cont]
  refine UnTup.mk (UnNil.mk ?_)
  refine Compact_spec ho3 (by omega) ?_
  intro m4 hch4 ho4
  dsimp only [Cont]
  refine UnS.mk ?_
  have e : Lib.compact (srt (ns (xs ++ ys))) = ns (also xs ys) := compact_sorted (xs ++ ys)
  rw [e, ns_len] at ho4 ⊢
  have l4 := hch4.to_le (hch3.to_le l2 (fun b e => f2 b e)) (fun b e => f2 b e)
  exact k m4 a' c' l4 ho4.cells f2
end Go.E.Pl
set_option linter.unusedVariables false
set_option linter.unusedSimpArgs false
set_option maxRecDepth 20000
namespace Go.E.Pl
open Go.H Go.E Go.E.Rg
section
variable {J : List Nat → List Nat → List Nat}
theorem lk_len : ∀ (last : List Nat) (fol : List (List Nat)) (first : List Nat), (lk J fol last first).length = fol.length := by
  intro last
  induction last with
  | nil => intro fol first; rfl
  | cons i last ih =>
    intro fol first
    show (lk J (fol.set i (J (fol.getD i []) first)) last first).length = _
    rw [ih, List.length_set]
theorem lk_mem (hJ : ∀ a b x, x ∈ J a b ↔ x ∈ a ∨ x ∈ b) : ∀ (last : List Nat) (fol : List (List Nat)) (first : List Nat), (∀ i ∈ last, i < fol.length) → ∀ i j, j ∈ (lk J fol last first).getD i [] ↔ j ∈ fol.getD i [] ∨ (i ∈ last ∧ j ∈ first) := by
  intro last
  induction last with
  | nil => intro fol first _ i j; simp [lk]
  | cons a last ih =>
    intro fol first hl i j
    show j ∈ (lk J (fol.set a (J (fol.getD a []) first)) last first).getD i [] ↔ _
    rw [ih _ _ (fun i hi => by rw [List.length_set]; exact hl i (by simp [hi]))]
    have ha := hl a (by simp)
    by_cases e : i = a
    · subst e
      have : (fol.set i (J (fol.getD i []) first)).getD i [] = J (fol.getD i []) first := by
        rw [List.getD_eq_getElem?_getD, List.getElem?_set_self ha]; rfl
      rw [this, hJ, List.mem_cons]
      constructor
      · rintro ((h | h) | ⟨h, h'⟩)
        · exact .inl h
        · exact .inr ⟨.inl rfl, h⟩
        · exact .inr ⟨.inl rfl, h'⟩
      · rintro (h | ⟨_, h⟩)
        · exact .inl (.inl h)
        · exact .inl (.inr h)
    · have : (fol.set a (J (fol.getD a []) first)).getD i [] = fol.getD i [] := by
        rw [List.getD_eq_getElem?_getD, List.getElem?_set_ne (Ne.symm e), ← List.getD_eq_getElem?_getD]
      rw [this, List.mem_cons]
      simp [e]
/-- What a walk is, behind a state. -/
structure WOK (r : Rx) (st : Sta) (q : Part) (st' : Sta) : Prop where
  sets : st'.sets = st.sets ++ setsOf r
  len : st'.fol.length = st'.sets.length
  nu : q.nu = null r
  fi : ∀ x, x ∈ q.fi ↔ Fi st.sets.length r x
  la : ∀ x, x ∈ q.la ↔ La st.sets.length r x
  fo : ∀ i j, j ∈ st'.fol.getD i [] ↔ j ∈ st.fol.getD i [] ∨ Fo st.sets.length r i j
def WK (J : List Nat → List Nat → List Nat) (r : Rx) : Prop := ∀ st : Sta, st.fol.length = st.sets.length → WOK r st (wk J r st).1 (wk J r st).2
theorem WOK.fol_lt {r : Rx} {st st' : Sta} {q : Part} (h : WOK r st q st') : st'.fol.length = st.sets.length + cnt r := by
  rw [h.len, h.sets, List.length_append]; rfl
theorem walkC (hJ : ∀ a b x, x ∈ J a b ↔ x ∈ a ∨ x ∈ b) : ∀ (ps : List Rx), (∀ a ∈ ps, WK J a) → ∀ (out : Part) (st : Sta), st.fol.length = st.sets.length → (∀ x ∈ out.la, x < st.sets.length) →
    (wkC J ps out st).2.sets = st.sets ++ setsL ps ∧ (wkC J ps out st).2.fol.length = (wkC J ps out st).2.sets.length ∧ (wkC J ps out st).1.nu = (out.nu && nullA ps) ∧
    (∀ x, x ∈ (wkC J ps out st).1.fi ↔ x ∈ out.fi ∨ (out.nu = true ∧ FiC st.sets.length ps x)) ∧
    (∀ x, x ∈ (wkC J ps out st).1.la ↔ (nullA ps = true ∧ x ∈ out.la) ∨ LaC st.sets.length ps x) ∧
    (∀ i j, j ∈ (wkC J ps out st).2.fol.getD i [] ↔ j ∈ st.fol.getD i [] ∨ (i ∈ out.la ∧ FiC st.sets.length ps j) ∨ FoC st.sets.length ps i j) := by
  intro ps
  induction ps with
  | nil =>
    intro _ out st hl hb
    simp [wkC, setsL, nullA, FiC, LaC, FoC, hl]
  | cons r rs ih =>
    intro hw out st hl hb
    have h := hw r (by simp) st hl
    have hn := h.fol_lt
    have hs : (wk J r st).2.sets.length = st.sets.length + cnt r := by rw [← h.len, hn]
    obtain ⟨B1, B2, B3⟩ := bounds r st.sets.length
    have hb1 : ∀ i ∈ out.la, i < (wk J r st).2.fol.length := fun i hi => by rw [hn]; have := hb i hi; omega
    have key := ih (fun a ha => hw a (by simp [ha])) (stepC J out (wk J r st).1) ⟨(wk J r st).2.sets, lk J (wk J r st).2.fol out.la (wk J r st).1.fi⟩ (by show (lk J _ _ _).length = _; rw [lk_len, h.len]) (by
      intro x hx
      show x < (wk J r st).2.sets.length
      rw [hs]
      have hx : x ∈ (if (wk J r st).1.nu = true then J out.la (wk J r st).1.la else (wk J r st).1.la) := hx
      split at hx
      · rcases (hJ _ _ _).mp hx with h1 | h1
        · have := hb x h1; omega
        · exact (B2 x ((h.la x).mp h1)).2
      · exact (B2 x ((h.la x).mp hx)).2)
    obtain ⟨g1, g2, g3, g4, g5, g6⟩ := key
    show (wkC J rs _ _).2.sets = _ ∧ (wkC J rs _ _).2.fol.length = (wkC J rs _ _).2.sets.length ∧ (wkC J rs _ _).1.nu = _ ∧ (∀ x, x ∈ (wkC J rs _ _).1.fi ↔ _) ∧ (∀ x, x ∈ (wkC J rs _ _).1.la ↔ _) ∧ (∀ i j, j ∈ (wkC J rs _ _).2.fol.getD i [] ↔ _)
    refine ⟨?_, g2, ?_, fun x => ?_, fun x => ?_, fun i j => ?_⟩
    · rw [g1, h.sets, setsL, List.append_assoc]
    · rw [g3]
      show ((out.nu && (wk J r st).1.nu) && nullA rs) = (out.nu && nullA (r :: rs))
      rw [h.nu, nullA, Bool.and_assoc]
    · rw [g4, FiC]
      show (x ∈ (if out.nu = true then J out.fi (wk J r st).1.fi else out.fi) ∨ ((out.nu && (wk J r st).1.nu) = true ∧ FiC (wk J r st).2.sets.length rs x)) ↔ _
      rw [hs, h.nu, ← h.fi x]
      cases hnu : out.nu
      · simp
      · rw [if_pos rfl, hJ, Bool.true_and]
        constructor
        · rintro ((a | a) | a)
          · exact .inl a
          · exact .inr ⟨rfl, .inl a⟩
          · exact .inr ⟨rfl, .inr a⟩
        · rintro (a | ⟨_, a | a⟩)
          · exact .inl (.inl a)
          · exact .inl (.inr a)
          · exact .inr a
    · rw [g5, LaC, nullA]
      show ((nullA rs = true ∧ x ∈ (if (wk J r st).1.nu = true then J out.la (wk J r st).1.la else (wk J r st).1.la)) ∨ LaC (wk J r st).2.sets.length rs x) ↔ _
      rw [hs, h.nu, ← h.la x]
      cases hnu : null r
      · simp
      · rw [if_pos rfl, hJ, Bool.true_and]
        constructor
        · rintro (⟨a, b | b⟩ | a)
          · exact .inl ⟨a, b⟩
          · exact .inr (.inl ⟨a, b⟩)
          · exact .inr (.inr a)
        · rintro (⟨a, b⟩ | ⟨a, b⟩ | a)
          · exact .inl ⟨a, .inl b⟩
          · exact .inl ⟨a, .inr b⟩
          · exact .inr a
    · rw [g6, FoC, FiC]
      show (j ∈ (lk J (wk J r st).2.fol out.la (wk J r st).1.fi).getD i [] ∨ (i ∈ (if (wk J r st).1.nu = true then J out.la (wk J r st).1.la else (wk J r st).1.la) ∧ FiC (wk J r st).2.sets.length rs j) ∨ FoC (wk J r st).2.sets.length rs i j) ↔ _
      rw [hs, lk_mem hJ _ _ _ hb1, h.fo, h.fi, ← h.la, h.nu]
      have e : (i ∈ (if null r = true then J out.la (wk J r st).1.la else (wk J r st).1.la)) ↔ (null r = true ∧ i ∈ out.la) ∨ i ∈ (wk J r st).1.la := by
        split
        · rename_i hh; rw [hJ]; simp [hh]
        · rename_i hh; simp [hh]
      rw [e]
      constructor
      · rintro (((a | a) | ⟨a, b⟩) | ⟨⟨a, b⟩ | a, c⟩ | a)
        · exact .inl a
        · exact .inr (.inr (.inl a))
        · exact .inr (.inl ⟨a, .inl b⟩)
        · exact .inr (.inl ⟨b, .inr ⟨a, c⟩⟩)
        · exact .inr (.inr (.inr (.inr ⟨a, c⟩)))
        · exact .inr (.inr (.inr (.inl a)))
      · rintro (a | ⟨a, b | ⟨b, c⟩⟩ | a | a | ⟨a, b⟩)
        · exact .inl (.inl (.inl a))
        · exact .inl (.inr ⟨a, b⟩)
        · exact .inr (.inl ⟨.inl ⟨b, a⟩, c⟩)
        · exact .inl (.inl (.inr a))
        · exact .inr (.inr a)
        · exact .inr (.inl ⟨.inr a, b⟩)
theorem walkA (hJ : ∀ a b x, x ∈ J a b ↔ x ∈ a ∨ x ∈ b) : ∀ (ps : List Rx), (∀ a ∈ ps, WK J a) → ∀ (out : Part) (st : Sta), st.fol.length = st.sets.length →
    (wkA J ps out st).2.sets = st.sets ++ setsL ps ∧ (wkA J ps out st).2.fol.length = (wkA J ps out st).2.sets.length ∧ (wkA J ps out st).1.nu = (out.nu || nullE ps) ∧
    (∀ x, x ∈ (wkA J ps out st).1.fi ↔ x ∈ out.fi ∨ FiA st.sets.length ps x) ∧
    (∀ x, x ∈ (wkA J ps out st).1.la ↔ x ∈ out.la ∨ LaA st.sets.length ps x) ∧
    (∀ i j, j ∈ (wkA J ps out st).2.fol.getD i [] ↔ j ∈ st.fol.getD i [] ∨ FoA st.sets.length ps i j) := by
  intro ps
  induction ps with
  | nil =>
    intro _ out st hl
    simp [wkA, setsL, nullE, FiA, LaA, FoA, hl]
  | cons r rs ih =>
    intro hw out st hl
    have h := hw r (by simp) st hl
    have hs : (wk J r st).2.sets.length = st.sets.length + cnt r := by rw [← h.len, h.fol_lt]
    obtain ⟨g1, g2, g3, g4, g5, g6⟩ := ih (fun a ha => hw a (by simp [ha])) ⟨J out.fi (wk J r st).1.fi, J out.la (wk J r st).1.la, out.nu || (wk J r st).1.nu⟩ (wk J r st).2 h.len
    show (wkA J rs _ _).2.sets = _ ∧ (wkA J rs _ _).2.fol.length = (wkA J rs _ _).2.sets.length ∧ (wkA J rs _ _).1.nu = _ ∧ (∀ x, x ∈ (wkA J rs _ _).1.fi ↔ _) ∧ (∀ x, x ∈ (wkA J rs _ _).1.la ↔ _) ∧ (∀ i j, j ∈ (wkA J rs _ _).2.fol.getD i [] ↔ _)
    refine ⟨?_, g2, ?_, fun x => ?_, fun x => ?_, fun i j => ?_⟩
    · rw [g1, h.sets, setsL, List.append_assoc]
    · rw [g3]
      show ((out.nu || (wk J r st).1.nu) || nullE rs) = (out.nu || nullE (r :: rs))
      rw [h.nu, nullE, Bool.or_assoc]
    · rw [g4, FiA, hs, ← h.fi x]
      show x ∈ J out.fi (wk J r st).1.fi ∨ _ ↔ _
      rw [hJ, or_assoc]
    · rw [g5, LaA, hs, ← h.la x]
      show x ∈ J out.la (wk J r st).1.la ∨ _ ↔ _
      rw [hJ, or_assoc]
    · rw [g6, FoA, hs, h.fo, or_assoc]
/-- The walk comes to the relations. -/
theorem walk_ok (hJ : ∀ a b x, x ∈ J a b ↔ x ∈ a ∨ x ∈ b) (r : Rx) : form r = true → WK J r := by
  refine Rx.ind (C := fun r => form r = true → WK J r) ?_ r
  intro k S ps ih hf st hl
  rcases form_cases hf with ⟨rfl, rfl, hS⟩ | ⟨_, hall, ⟨hk | hk, hlen⟩ | ⟨h4, h6, x, rfl, hx⟩⟩
  · refine ⟨?_, ?_, ?_, fun x => ?_, fun x => ?_, fun i j => ?_⟩
    · unfold wk setsOf; rw [if_pos rfl, if_pos rfl]
    · unfold wk; rw [if_pos rfl]; simp [hl]
    · unfold wk null; rw [if_pos rfl]; simp
    · unfold wk Fi; rw [if_pos rfl, if_pos rfl]; simp
    · unfold wk La; rw [if_pos rfl, if_pos rfl]; simp
    · unfold wk Fo
      rw [if_pos rfl, if_pos rfl, or_false]
      show j ∈ (st.fol ++ [[]]).getD i [] ↔ _
      rw [List.getD_eq_getElem?_getD, List.getD_eq_getElem?_getD, List.getElem?_append]
      split
      · rfl
      · rename_i hi
        rw [List.getElem?_eq_none (l := st.fol) (by omega)]
        cases hd : i - st.fol.length with
        | zero => simp
        | succ m => simp
  · subst hk
    obtain ⟨g1, g2, g3, g4, g5, g6⟩ := walkC hJ ps (fun a ha => ih a ha (hall a ha).2) ⟨[], [], true⟩ st hl (fun x hx => by cases hx)
    have e : wk J (.mk 2 S ps) st = wkC J ps ⟨[], [], true⟩ st := by unfold wk; rw [if_neg (by decide), if_pos rfl]
    rw [e]
    refine ⟨?_, g2, ?_, fun x => ?_, fun x => ?_, fun i j => ?_⟩
    · rw [g1, setsOf, if_neg (by decide), if_pos (.inl rfl)]
    · rw [g3, null, if_neg (by decide), if_pos (.inl rfl)]; simp
    · rw [g4, Fi, if_neg (by decide), if_pos rfl]; simp
    · rw [g5, La, if_neg (by decide), if_pos rfl]; simp
    · rw [g6, Fo, if_neg (by decide), if_pos rfl]; simp
  · subst hk
    obtain ⟨g1, g2, g3, g4, g5, g6⟩ := walkA hJ ps (fun a ha => ih a ha (hall a ha).2) ⟨[], [], false⟩ st hl
    have e : wk J (.mk 3 S ps) st = wkA J ps ⟨[], [], false⟩ st := by unfold wk; rw [if_neg (by decide), if_neg (by decide), if_pos rfl]
    rw [e]
    refine ⟨?_, g2, ?_, fun x => ?_, fun x => ?_, fun i j => ?_⟩
    · rw [g1, setsOf, if_neg (by decide), if_pos (.inr rfl)]
    · rw [g3, null, if_neg (by decide), if_neg (by decide), if_pos rfl]; simp
    · rw [g4, Fi, if_neg (by decide), if_neg (by decide), if_pos rfl]; simp
    · rw [g5, La, if_neg (by decide), if_neg (by decide), if_pos rfl]; simp
    · rw [g6, Fo, if_neg (by decide), if_neg (by decide), if_pos rfl]
  · have h := ih x (by simp) (hall x (by simp)).2 st hl
    have k1 : k ≠ 1 := by omega
    have k2 : k ≠ 2 := by omega
    have k3 : k ≠ 3 := by omega
    have e : wk J (.mk k S [x]) st = wk1 J k [x] st := by unfold wk; rw [if_neg k1, if_neg k2, if_neg k3]
    rw [e]
    have hs : (wk J x st).2.sets.length = st.sets.length + cnt x := by rw [← h.len, h.fol_lt]
    obtain ⟨B1, B2, B3⟩ := bounds x st.sets.length
    have hlt : ∀ i ∈ (wk J x st).1.la, i < (wk J x st).2.fol.length := fun i hi => by rw [h.fol_lt]; exact (B2 i ((h.la i).mp hi)).2
    refine ⟨?_, ?_, ?_, fun y => ?_, fun y => ?_, fun i j => ?_⟩
    · show (wk J x st).2.sets = _
      rw [h.sets, setsOf, if_neg k1, if_neg (by omega), sets1]
    · show (if k ≠ 6 then lk J (wk J x st).2.fol (wk J x st).1.la (wk J x st).1.fi else (wk J x st).2.fol).length = (wk J x st).2.sets.length
      split
      · rw [lk_len, h.len]
      · exact h.len
    · show ((wk J x st).1.nu || decide (k ≠ 5)) = _
      rw [h.nu, null]
      by_cases h5 : k = 5
      · subst h5
        rw [if_neg (by decide), if_pos (.inr rfl), nullA, nullA]; simp
      · rw [if_pos (by omega)]; simp [h5]
    · show y ∈ (wk J x st).1.fi ↔ _
      rw [h.fi, Fi, if_neg k1, if_neg k2, if_neg k3, Fi1]
    · show y ∈ (wk J x st).1.la ↔ _
      rw [h.la, La, if_neg k1, if_neg k2, if_neg k3, La1]
    · show j ∈ (if k ≠ 6 then lk J (wk J x st).2.fol (wk J x st).1.la (wk J x st).1.fi else (wk J x st).2.fol).getD i [] ↔ _
      rw [Fo, if_neg k1, if_neg k2, if_neg k3, Fo1]
      split
      · rename_i hk6
        rw [lk_mem hJ _ _ _ hlt, h.fo, h.la, h.fi, or_assoc]
        simp [hk6]
      · rename_i hk6
        rw [h.fo]
        simp [hk6]
end
theorem rz_one (n : Nat) : Rz [n] := List.pairwise_singleton _ _
theorem rz_nil : Rz [] := List.Pairwise.nil
def RzP (q : Part) : Prop := Rz q.fi ∧ Rz q.la
def RzS (fol : List (List Nat)) : Prop := ∀ l ∈ fol, Rz l
theorem lk_rz : ∀ (last : List Nat) (fol : List (List Nat)) (first : List Nat), RzS fol → RzS (lk also fol last first) := by
  intro last
  induction last with
  | nil => intro fol first h; exact h
  | cons i last ih =>
    intro fol first h
    show RzS (lk also (fol.set i (also (fol.getD i []) first)) last first)
    refine ih _ _ (fun l hl => ?_)
    rcases List.mem_or_eq_of_mem_set hl with hl | rfl
    · exact h l hl
    · exact also_rz _ _
theorem walk_rz (r : Rx) : ∀ st : Sta, RzS st.fol → RzP (wk also r st).1 ∧ RzS (wk also r st).2.fol := by
  refine Rx.ind (C := fun r => ∀ st : Sta, RzS st.fol → RzP (wk also r st).1 ∧ RzS (wk also r st).2.fol) ?_ r
  intro k S ps ih st hs
  unfold wk
  split
  · refine ⟨⟨rz_one _, rz_one _⟩, fun l hl => ?_⟩
    rcases List.mem_append.mp hl with hl | hl
    · exact hs l hl
    · rw [List.mem_singleton] at hl; subst hl; exact rz_nil
  split
  · have : ∀ (ps : List Rx), (∀ a ∈ ps, ∀ st : Sta, RzS st.fol → RzP (wk also a st).1 ∧ RzS (wk also a st).2.fol) → ∀ (out : Part) (st : Sta), RzP out → RzS st.fol → RzP (wkC also ps out st).1 ∧ RzS (wkC also ps out st).2.fol := by
      intro ps
      induction ps with
      | nil => intro _ out st h1 h2; exact ⟨h1, h2⟩
      | cons r rs ihl =>
        intro hw out st h1 h2
        obtain ⟨g1, g2⟩ := hw r (by simp) st h2
        show RzP (wkC also rs _ _).1 ∧ RzS (wkC also rs _ _).2.fol
        refine ihl (fun a ha => hw a (by simp [ha])) _ _ ⟨?_, ?_⟩ (lk_rz _ _ _ g2)
        · show Rz (if out.nu = true then _ else _)
          split
          · exact also_rz _ _
          · exact h1.1
        · show Rz (if _ = true then _ else _)
          split
          · exact also_rz _ _
          · exact g1.2
    exact this ps ih _ st ⟨rz_nil, rz_nil⟩ hs
  split
  · have : ∀ (ps : List Rx), (∀ a ∈ ps, ∀ st : Sta, RzS st.fol → RzP (wk also a st).1 ∧ RzS (wk also a st).2.fol) → ∀ (out : Part) (st : Sta), RzP out → RzS st.fol → RzP (wkA also ps out st).1 ∧ RzS (wkA also ps out st).2.fol := by
      intro ps
      induction ps with
      | nil => intro _ out st h1 h2; exact ⟨h1, h2⟩
      | cons r rs ihl =>
        intro hw out st h1 h2
        obtain ⟨g1, g2⟩ := hw r (by simp) st h2
        show RzP (wkA also rs _ _).1 ∧ RzS (wkA also rs _ _).2.fol
        exact ihl (fun a ha => hw a (by simp [ha])) _ _ ⟨also_rz _ _, also_rz _ _⟩ g2
    exact this ps ih _ st ⟨rz_nil, rz_nil⟩ hs
  · cases ps with
    | nil => exact ⟨⟨rz_nil, rz_nil⟩, hs⟩
    | cons x xs =>
      obtain ⟨g1, g2⟩ := ih x (by simp) st hs
      refine ⟨g1, ?_⟩
      show RzS (if k ≠ 6 then _ else _)
      split
      · exact lk_rz _ _ _ g2
      · exact g2
/-- The places of an expression. -/
structure Plc where
  sets : List (Nat → Bool)
  fi : List Nat
  la : List Nat
  fol : List (List Nat)
  nu : Bool
def plc (r : Rx) : Plc := ⟨(wk also r ⟨[], []⟩).2.sets, (wk also r ⟨[], []⟩).1.fi, (wk also r ⟨[], []⟩).1.la, (wk also r ⟨[], []⟩).2.fol, (wk also r ⟨[], []⟩).1.nu⟩
end Go.E.Pl
set_option linter.unusedVariables false
set_option linter.unusedSimpArgs false
set_option maxRecDepth 20000
namespace Go.E.Rg
open Go.H Go.E
def num (l : List UInt8) (m : Nat) : Nat := match l with | [] => 0 | c :: _ => c.toNat % m
def few : List UInt8 := [97, 98, 49, 10, 32, 45]
def psS (l : List UInt8) : Nat → Bool :=
  if num l 7 = 0 then inB [97, 98] else if num l 7 = 1 then inB [98, 99, 100] else if num l 7 = 2 then (fun b => !inB [97, 10] b)
  else if num l 7 = 3 then inB [48, 49, 50] else inB [few.getD (num l.tail 6) 0]
def psR (l : List UInt8) : List UInt8 := if num l 7 ≤ 3 then l.tail else l.tail.tail
def kidF (f : List UInt8 → Rx × List UInt8) (kind : Int) (l : List UInt8) : Rx × List UInt8 :=
  if (f l).1.k = kind ∨ (4 ≤ kind ∧ 4 ≤ (f l).1.k) then (st (psS (f l).2), psR (f l).2) else f l
def kidsF (f : List UInt8 → Rx × List UInt8) (kind : Int) : Nat → List UInt8 → List Rx × List UInt8
  | 0, l => ([], l)
  | n + 1, l => ((kidF f kind l).1 :: (kidsF f kind n (kidF f kind l).2).1, (kidsF f kind n (kidF f kind l).2).2)
def kindOf (k : Nat) : Int := 2 + (((k + 1) % 5 : Nat) : Int)
def prx : Nat → List UInt8 → Rx × List UInt8
  | 0, l => (st (psS l.tail), psR l.tail)
  | d + 1, l =>
    if num l 9 < 4 then (st (psS l.tail), psR l.tail)
    else if kindOf (num l 9) ≤ 3 then (.mk (kindOf (num l 9)) noS (kidsF (prx d) (kindOf (num l 9)) (2 + num l.tail 2) l.tail.tail).1, (kidsF (prx d) (kindOf (num l 9)) (2 + num l.tail 2) l.tail.tail).2)
    else (.mk (kindOf (num l 9)) noS (kidsF (prx d) (kindOf (num l 9)) 1 l.tail).1, (kidsF (prx d) (kindOf (num l 9)) 1 l.tail).2)
theorem num_lt (l : List UInt8) {m : Nat} (h : 0 < m) : num l m < m := by
  unfold num
  split
  · exact h
  · exact Nat.mod_lt _ h
theorem empty_at {S : Nat → Bool} (b : Nat) (hb : b < 256) (h : S b = true) : emptyS S = false := by
  cases he : emptyS S with
  | false => rfl
  | true => rw [empty_all he b hb] at h; cases h
theorem psS_some (l : List UInt8) : emptyS (psS l) = false := by
  unfold psS
  split
  · exact empty_at 97 (by decide) (by decide)
  · split
    · exact empty_at 98 (by decide) (by decide)
    · split
      · exact empty_at 98 (by decide) (by decide)
      · split
        · exact empty_at 48 (by decide) (by decide)
        · refine empty_at (few.getD (num l.tail 6) 0).toNat (UInt8.toNat_lt _) ?_
          unfold inB; simp
theorem kindOf_in (k : Nat) : 2 ≤ kindOf k ∧ kindOf k ≤ 6 := by unfold kindOf; omega
end Go.E.Rg
set_option linter.unusedVariables false
set_option linter.unusedSimpArgs false
set_option maxRecDepth 20000
namespace Go.E
open Go.H
attribute [local irreducible] BiN MkS ConvN LookN MapUpN CallV HC limb dbTab
/-- The bytes of runs. -/
def cat (rs : List (Nat × Nat)) : List Nat := rs.flatMap fun p => List.range' p.1 (p.2 + 1 - p.1)
end Go.E
set_option linter.unusedVariables false
set_option linter.unusedSimpArgs false
set_option maxRecDepth 20000
namespace Go.E
open Go.H
attribute [local irreducible] BiN MkS ConvN LookN MapUpN CallV HC limb dbTab
abbrev catB (rs : List (Nat × Nat)) : List UInt8 := (cat rs).map UInt8.ofNat
theorem el {m : Mem} {a : Option Addr} {l : Nat} {rs : List (Nat × Nat)} (hc : CellsAt m a (u8s (catB rs))) (hl : (cat rs).length = l) {i : Int} {n v : Nat} (hi : i = (n : Int)) (hn : (cat rs)[n]? = some v) (hv : v < 256) {K : Value → Prop}
    (k : K (.int .u8 (v : Int))) : IxS a l i 1 (fun b o => LdV m b o K) := by
  subst hi
  have hlt : n < (cat rs).length := by
    apply Decidable.byContradiction
    intro h
    rw [List.getElem?_eq_none (by omega)] at hn; cases hn
  refine IxS.u8s hc (by rw [List.length_map]; exact hl) (by omega) (by omega) ?_
  intro x hx
  rw [Int.toNat_natCast, List.getElem?_map, hn] at hx
  cases hx
  rw [toNat_of hv]; exact k
end Go.E
set_option linter.unusedVariables false
set_option linter.unusedSimpArgs false
set_option maxRecDepth 20000
namespace Go.E.Rg
open Go.H Go.E
/-- A memory's blocks of a kind alone. -/
noncomputable def on (m : Mem) (G : Nat → Prop) : Mem := fun b => open Classical in if G b then m b else none
theorem on_in {m : Mem} {G : Nat → Prop} {b : Nat} (h : G b) : on m G b = m b := by unfold on; rw [if_pos h]
theorem on_le (m : Mem) (G : Nat → Prop) : Le (on m G) m := fun b o h => by
  unfold on at h
  split at h
  · exact h
  · cases h
theorem on_live {m : Mem} {G : Nat → Prop} {b : Nat} {o : Obj} (h : on m G b = some o) : G b ∧ m b = some o := by
  unfold on at h
  split at h
  · exact ⟨‹_›, h⟩
  · cases h
theorem on_mono {S G G' : Nat → Prop} {m m' : Mem} (hch : Chg S m m') (hs : ∀ b, G b → m b ≠ none → ¬ S b) (hg : ∀ b, G b → m b ≠ none → G' b) : Le (on m G) (on m' G') := fun b o h => by
  obtain ⟨h1, h2⟩ := on_live h
  have hne : m b ≠ none := by rw [h2]; simp
  rw [on_in (hg b h1 hne)]
  exact hch.eq b o h2 (hs b h1 hne)
def four (S : Nat → Bool) : List Value := [.int .u64 (L S 0), .int .u64 (L S 1), .int .u64 (L S 2), .int .u64 (L S 3)]
/-- The cells of an expression whose parts are this slice. -/
def rxRow (p : Rx × Value) : List Value := [.int .i64 p.1.k, .int .u64 (L p.1.S 0), .int .u64 (L p.1.S 1), .int .u64 (L p.1.S 2), .int .u64 (L p.1.S 3), p.2]
theorem rxRow_len (p : Rx × Value) : (rxRow p).length = 6 := rfl
/-- This slice has an expression's parts. -/
inductive ArgC (m : Mem) : Rx → Value → Prop where
  | mk {k : Int} {S : Nat → Bool} {prs : List (Rx × Value)} {a : Option Addr} {c : Nat} : prs.length ≤ c → prs.length ≤ 9223372036854775807 → CellsAt m a (prs.flatMap rxRow) → (∀ p ∈ prs, ArgC m p.1 p.2) → ArgC m (.mk k S (prs.map (·.1))) (.slice a prs.length c)
theorem ArgC.inv {m : Mem} {k : Int} {S : Nat → Bool} {ps : List Rx} {v : Value} (h : ArgC m (.mk k S ps) v) : ∃ (prs : List (Rx × Value)) (a : Option Addr) (c : Nat), ps = prs.map (·.1) ∧ v = .slice a prs.length c ∧ prs.length ≤ c ∧ prs.length ≤ 9223372036854775807 ∧ CellsAt m a (prs.flatMap rxRow) ∧ ∀ p ∈ prs, ArgC m p.1 p.2 := by
  cases h with
  | mk hl hb hc hp => exact ⟨_, _, _, rfl, rfl, hl, hb, hc, hp⟩
theorem ArgC.le {m m' : Mem} {r : Rx} {v : Value} (h : ArgC m r v) (k : Le m m') : ArgC m' r v := by
  induction h with
  | mk hl hb hc hp ih => exact .mk hl hb (hc.le k) ih
theorem ArgC.none {m : Mem} {k : Int} {S : Nat → Bool} : ArgC m (.mk k S []) (.slice none 0 0) := by
  have := ArgC.mk (m := m) (k := k) (S := S) (prs := []) (a := Option.none) (c := 0) (by simp) (by simp) (CellsAt.empty _ _) (fun p hp => by cases hp)
  exact this
/-- An expression as a value. -/
abbrev rxA (k : Int) (S : Nat → Bool) (v : Value) : Value := .agg #[.int .i64 k, .int .u64 (L S 0), .int .u64 (L S 1), .int .u64 (L S 2), .int .u64 (L S 3), v]
/-- One of the parts is read. -/
theorem IxS.rx {m : Mem} {a : Option Addr} {prs : List (Rx × Value)} (hc : CellsAt m a (prs.flatMap rxRow)) {j : Nat} (hj : j < prs.length) {K : Nat → Nat → Prop}
    (k : ∀ b o, m.cell b o = some (.int .i64 prs[j].1.k) → m.cell b (o + 1) = some (.int .u64 (L prs[j].1.S 0)) → m.cell b (o + 2) = some (.int .u64 (L prs[j].1.S 1)) → m.cell b (o + 3) = some (.int .u64 (L prs[j].1.S 2)) → m.cell b (o + 4) = some (.int .u64 (L prs[j].1.S 3)) → m.cell b (o + 5) = some prs[j].2 → K b o) :
    IxS a prs.length (j : Int) 6 K := by
  have hg := List.getElem?_eq_getElem hj
  refine IxS.rows rxRow_len (by decide) hc rfl (by omega) (by omega) ?_
  intro b o x hx hcell
  rw [Int.toNat_natCast, hg] at hx
  cases hx
  exact k b o (hcell 0 _ rfl) (hcell 1 _ rfl) (hcell 2 _ rfl) (hcell 3 _ rfl) (hcell 4 _ rfl) (hcell 5 _ rfl)
/-- The parts' slice is a slice. -/
theorem ArgC.sl {m : Mem} {r : Rx} {v : Value} (h : ArgC m r v) : ∃ a l c, v = .slice a l c := by
  cases h with
  | mk hl hb hc hp => exact ⟨_, _, _, rfl⟩
theorem St1.six {m : Mem} {b : Nat} {x0 x1 x2 x3 x4 x5 u0 u1 u2 u3 u4 u5 : Value} {e : TypeId} {K : Mem → Prop} (h : m b = some (.cells #[x0, x1, x2, x3, x4, x5] e (0, 0))) (h0 : notOne u0 = false) (h1 : notOne u1 = false) (h2 : notOne u2 = false) (h3 : notOne u3 = false) (h4 : notOne u4 = false) (h5 : notOne u5 = false)
    (k : K (m.set b (.cells #[u0, u1, u2, u3, u4, u5] e (0, 0)))) : St1 m b 0 u0 fun m1 => St1 m1 b 1 u1 fun m2 => St1 m2 b 2 u2 fun m3 => St1 m3 b 3 u3 fun m4 => St1 m4 b 4 u4 fun m5 => St1 m5 b 5 u5 K := by
  refine St1.to #[u0, x1, x2, x3, x4, x5] h (by simp) h0 rfl ?_
  refine St1.to #[u0, u1, x2, x3, x4, x5] (set_same _ _ _) (by simp) h1 rfl ?_
  rw [set_set]
  refine St1.to #[u0, u1, u2, x3, x4, x5] (set_same _ _ _) (by simp) h2 rfl ?_
  rw [set_set]
  refine St1.to #[u0, u1, u2, u3, x4, x5] (set_same _ _ _) (by simp) h3 rfl ?_
  rw [set_set]
  refine St1.to #[u0, u1, u2, u3, u4, x5] (set_same _ _ _) (by simp) h4 rfl ?_
  rw [set_set]
  refine St1.to #[u0, u1, u2, u3, u4, u5] (set_same _ _ _) (by simp) h5 rfl ?_
  rw [set_set]
  exact k
/-- The cells of an expression's own block. -/
def rxO (k : Int) (S : Nat → Bool) (v : Value) : Array Value := #[.int .i64 k, .int .u64 (L S 0), .int .u64 (L S 1), .int .u64 (L S 2), .int .u64 (L S 3), v]
/-- All six are read. -/
theorem get6 {m : Mem} {b : Nat} {k : Int} {S : Nat → Bool} {a : Option Addr} {l c : Nat} {e : TypeId} {fr : Nat × Nat} {K : Int → Int → Int → Int → Int → Option Addr → Nat → Nat → Prop} (h : m b = some (.cells (rxO k S (.slice a l c)) e fr))
    (q : K k (L S 0) (L S 1) (L S 2) (L S 3) a l c) :
    LdV m b 0 fun v => UnI v .i64 fun x0 => LdV m b 1 fun v => UnI v .u64 fun x1 => LdV m b 2 fun v => UnI v .u64 fun x2 => LdV m b 3 fun v => UnI v .u64 fun x3 => LdV m b 4 fun v => UnI v .u64 fun x4 => LdV m b 5 fun v => UnS v fun xa xl xc => K x0 x1 x2 x3 x4 xa xl xc :=
  LdV.s0 h (LdV.s1 h (LdV.s2 h (LdV.s3 h (LdV.s4 h (LdV.s5 h q)))))
/-- A part is read from its row. -/
theorem IxS.rx6 {m : Mem} {a : Option Addr} {prs : List (Rx × Value)} (hc : CellsAt m a (prs.flatMap rxRow)) {j : Nat} (hj : j < prs.length) {a' : Option Addr} {l' c' : Nat} (hv : prs[j].2 = .slice a' l' c') {K : Int → Int → Int → Int → Int → Option Addr → Nat → Nat → Prop}
    (q : K prs[j].1.k (L prs[j].1.S 0) (L prs[j].1.S 1) (L prs[j].1.S 2) (L prs[j].1.S 3) a' l' c') :
    IxS a prs.length (j : Int) 6 fun b o => LdV m b o fun v => UnI v .i64 fun x0 => LdV m b (o + 1) fun v => UnI v .u64 fun x1 => LdV m b (o + 2) fun v => UnI v .u64 fun x2 => LdV m b (o + 3) fun v => UnI v .u64 fun x3 => LdV m b (o + 4) fun v => UnI v .u64 fun x4 => LdV m b (o + 5) fun v => UnS v fun xa xl xc => K x0 x1 x2 x3 x4 xa xl xc := by
  refine IxS.rx hc hj ?_
  intro b o c0 c1 c2 c3 c4 c5
  rw [hv] at c5
  exact LdV.mk c0 (LdV.mk c1 (LdV.mk c2 (LdV.mk c3 (LdV.mk c4 (LdV.mk c5 q)))))
/-- A block's first word of an expression's kind. -/
theorem IxS.rxk {m : Mem} {a : Option Addr} {prs : List (Rx × Value)} (hc : CellsAt m a (prs.flatMap rxRow)) {j : Nat} (hj : j < prs.length) {K : Int → Prop} (q : K prs[j].1.k) : IxS a prs.length (j : Int) 6 fun b o => LdV m b o fun v => UnI v .i64 K := by
  refine IxS.rx hc hj ?_
  intro b o c0 c1 c2 c3 c4 c5
  exact LdV.mk c0 q
/-- An expression in a block of its own. -/
theorem newRx {m : Mem} {k : Int} {S : Nat → Bool} {v : Value} {T : TypeId} {K : Nat → Mem → Prop} (h : ∀ b m1, m b = none → Le m m1 → m1 b = some (.cells (rxO k S v) T (0, 0)) → K b m1) :
    NewC m #[.int .i64 k, .int .u64 (L S 0), .int .u64 (L S 1), .int .u64 (L S 2), .int .u64 (L S 3), v] T K := fun b hb => h b _ hb (Le.set hb _) (set_same _ _ _)
/-- A loop's own copy of a part. -/
theorem copyRx {m : Mem} {k : Int} {S : Nat → Bool} {a : Option Addr} {l c : Nat} {x0 x1 x2 x3 x4 x5 : Value} {T : TypeId} {K : Nat → Mem → Prop} (h : ∀ b m1, m b = none → Le m m1 → m1 b = some (.cells (rxO k S (.slice a l c)) T (0, 0)) → K b m1) :
    NewC m #[x0, x1, x2, x3, x4, x5] T fun b m1 => St1 m1 b 0 (.int .i64 k) fun m2 => St1 m2 b 1 (.int .u64 (L S 0)) fun m3 => St1 m3 b 2 (.int .u64 (L S 1)) fun m4 => St1 m4 b 3 (.int .u64 (L S 2)) fun m5 => St1 m5 b 4 (.int .u64 (L S 3)) fun m6 => St1 m6 b 5 (.slice a l c) fun m7 => K b m7 := by
  intro b hb
  refine St1.six (set_same _ _ _) rfl rfl rfl rfl rfl rfl ?_
  rw [set_set]
  exact h b _ hb (Le.set hb _) (set_same _ _ _)
end Go.E.Rg
set_option linter.unusedVariables false
set_option linter.unusedSimpArgs false
set_option maxRecDepth 20000
namespace Go.E.Pl
open Go.H Go.E Go.E.Rg
attribute [local irreducible] BiN MkS ConvN LookN MapUpN CallV HC
/-- The blocks that a *Places writes. -/
def Ft (pb : Nat) (sa fa : Option Addr) (b : Nat) : Prop := b = pb ∨ blk sa = some b ∨ blk fa = some b
def RowsOK (V : Mem) (fol : List (List Nat)) (fv : List Value) : Prop := fv.length = fol.length ∧ ∀ (i : Nat) (l : List Nat), fol[i]? = some l → ∃ (a : Option Addr) (c : Nat), fv[i]? = some (Value.slice a l.length c) ∧ CellsAt V a (ints (ns l))
theorem RowsOK.le {V V' : Mem} {fol : List (List Nat)} {fv : List Value} (h : RowsOK V fol fv) (k : Le V V') : RowsOK V' fol fv := ⟨h.1, fun i l hi => by
  obtain ⟨a, c, h1, h2⟩ := h.2 i l hi
  exact ⟨a, c, h1, h2.le k⟩⟩
theorem RowsOK.one {V : Mem} {fol : List (List Nat)} {fv : List Value} (h : RowsOK V fol fv) : ∀ v ∈ fv, notOne v = false := by
  intro v hv
  obtain ⟨i, hi, rfl⟩ := List.getElem_of_mem hv
  obtain ⟨a, c, h1, _⟩ := h.2 i _ (List.getElem?_eq_getElem (by rw [← h.1]; exact hi))
  rw [List.getElem?_eq_getElem hi] at h1
  rw [Option.some.inj h1]; rfl
/-- A *Places in memory: V is what never turns (its lists' cells), the rest is its own. -/
structure PSt (T : TypeId) (m V : Mem) (pb : Nat) (st : Sta) (sa : Option Addr) (sc : Nat) (fa : Option Addr) (fc : Nat) (fv : List Value) : Prop where
  le : Le V m
  obj : m pb = some (.cells #[.slice sa st.sets.length sc, .slice none 0 0, .slice none 0 0, .slice fa st.fol.length fc, .bool false] T (0, 0))
  os : Own m T_api_Set 4 sa st.sets.length sc (st.sets.flatMap four)
  of : Own m T_sl_int 1 fa st.fol.length fc fv
  rows : RowsOK V st.fol fv
  nV : ∀ b, Ft pb sa fa b → V b = none
  s1 : blk sa ≠ some pb
  f1 : blk fa ≠ some pb
  sf : ∀ b, blk sa = some b → blk fa ≠ some b
/-- How one goes on. -/
structure Gone (F : Nat → Prop) (m V : Mem) (F' : Nat → Prop) (m' V' : Mem) : Prop where
  chg : Chg F m m'
  ft : ∀ b, F' b → F b ∨ m b = none
  le : Le V V'
  hid : ∀ b, m b ≠ none → V b = none → V' b = none
theorem Gone.refl (F : Nat → Prop) (m V : Mem) : Gone F m V F m V := ⟨Chg.refl _ _, fun _ h => .inl h, Le.refl _, fun _ _ h => h⟩
theorem Gone.trans {F F1 F2 : Nat → Prop} {m V m1 V1 m2 V2 : Mem} (h : Gone F m V F1 m1 V1) (k : Gone F1 m1 V1 F2 m2 V2) : Gone F m V F2 m2 V2 :=
  ⟨h.chg.trans k.chg (fun b hb h1 => by
    rcases h.ft b h1 with e | e
    · exact e
    · exact absurd e hb),
   fun b hb => by
    rcases k.ft b hb with e | e
    · exact h.ft b e
    · exact .inr (h.chg.new e),
   h.le.trans k.le, fun b hb hv => k.hid b (h.chg.live b hb) (h.hid b hb hv)⟩
/-- A block of the caller's own is as it was. -/
theorem Gone.keep {F F' : Nat → Prop} {m V m' V' : Mem} (h : Gone F m V F' m' V') {b : Nat} {o : Obj} (hb : m b = some o) (hF : ¬ F b) (hV : V b = none) : m' b = some o ∧ ¬ F' b ∧ V' b = none :=
  ⟨h.chg.eq b o hb hF, fun e => (h.ft b e).elim hF (fun e => by rw [hb] at e; cases e), h.hid b (by rw [hb]; simp) hV⟩
section
variable {T : TypeId} {m V m' : Mem} {pb : Nat} {st : Sta} {sa : Option Addr} {sc : Nat} {fa : Option Addr} {fc : Nat} {fv : List Value}
theorem PSt.live (h : PSt T m V pb st sa sc fa fc fv) {b : Nat} (hb : Ft pb sa fa b) : m b ≠ none := by
  rcases hb with rfl | hb | hb
  · rw [h.obj]; simp
  · exact h.os.live b hb
  · exact h.of.live b hb
/-- What is written elsewhere, and is new, does not touch it. -/
theorem PSt.chg (h : PSt T m V pb st sa sc fa fc fv) {S : Nat → Prop} (hch : Chg S m m') (hS : ∀ b, S b → V b = none) (hF : ∀ b, S b → ¬ Ft pb sa fa b) : PSt T m' V pb st sa sc fa fc fv where
  le := fun b o hb => hch.eq b o (h.le b o hb) (fun e => by rw [hS b e] at hb; cases hb)
  obj := hch.eq _ _ h.obj (fun e => hF _ e (.inl rfl))
  os := h.os.chg hch (fun b hb e => hF b e (.inr (.inl hb)))
  of := h.of.chg hch (fun b hb e => hF b e (.inr (.inr hb)))
  rows := h.rows
  nV := h.nV
  s1 := h.s1
  f1 := h.f1
  sf := h.sf
theorem PSt.new (h : PSt T m V pb st sa sc fa fc fv) (hle : Le m m') : PSt T m' V pb st sa sc fa fc fv ∧ Gone (Ft pb sa fa) m V (Ft pb sa fa) m' V :=
  ⟨h.chg (hle.chg fun _ => False) (fun _ h => h.elim) (fun _ h => h.elim), hle.chg _, fun _ e => .inl e, Le.refl _, fun _ _ e => e⟩
/-- The writing of a block of the caller's own. -/
theorem PSt.loc (h : PSt T m V pb st sa sc fa fc fv) {o : Nat} (hch : Chg (fun b => b = o) m m') (hV : V o = none) (hF : ¬ Ft pb sa fa o) : PSt T m' V pb st sa sc fa fc fv :=
  h.chg hch (fun b e => by rw [show b = o from e]; exact hV) (fun b e => by rw [show b = o from e]; exact hF)
/-- What is new, seen from now on. -/
def see (m m' V : Mem) : Mem := fun b => match m b with | none => m' b | some _ => V b
theorem see_le (h : Le V m) : Le V (see m m' V) := fun b o hb => by
  unfold see; rw [h b o hb]; exact hb
theorem CellsAt.see {m m' V : Mem} {a : Option Addr} {vs : List Value} (h : CellsAt m' a vs) (hf : Fresh m a) : CellsAt (Pl.see m m' V) a vs := by
  rcases h.cases with ⟨b, o, rfl, hx⟩ | ⟨rfl, hn⟩
  · intro j u hu
    have := hx j u hu
    have hb := hf b rfl
    unfold Mem.cell Pl.see
    rw [hb]
    exact this
  · exact CellsAt.empty _ _
theorem PSt.see (h : PSt T m V pb st sa sc fa fc fv) (hle : Le m m') : PSt T m' (Pl.see m m' V) pb st sa sc fa fc fv ∧ Gone (Ft pb sa fa) m V (Ft pb sa fa) m' (Pl.see m m' V) := by
  have h1 := (h.new hle).1
  have hid : ∀ b, m b ≠ none → V b = none → Pl.see m m' V b = none := fun b hb hv => by
    unfold Pl.see
    cases e : m b with
    | none => exact absurd e hb
    | some o => exact hv
  refine ⟨⟨fun b o hb => ?_, h1.obj, h1.os, h1.of, h.rows.le (see_le h.le), fun b hb => hid b (h.live hb) (h.nV b hb), h.s1, h.f1, h.sf⟩, hle.chg _, fun _ e => .inl e, see_le h.le, hid⟩
  unfold Pl.see at hb
  cases e : m b with
  | none => rw [e] at hb; exact hb
  | some o' => rw [e] at hb; exact h1.le b o hb
/-- One of the lists that may stand behind is written anew. -/
theorem PSt.wr (h : PSt T m V pb st sa sc fa fc fv) {x : Nat} (hx : x < st.fol.length) {a' : Option Addr} {l : List Nat} {c' : Nat} (hc : CellsAt V a' (ints (ns l))) {K : Mem → Prop}
    (k : ∀ m', PSt T m' V pb ⟨st.sets, st.fol.set x l⟩ sa sc fa fc (fv.set x (.slice a' l.length c')) → Gone (Ft pb sa fa) m V (Ft pb sa fa) m' V → K m') :
    IxS fa st.fol.length (x : Int) 1 fun b o => St1 m b o (.slice a' l.length c') K := by
  have := h.of.stN (i := (x : Int)) (by omega) (by omega) (j := 0) (by decide) (v := .slice a' l.length c') rfl (K := K) (fun m2 hch ho => k m2 ?_ ?_)
  · exact this
  · have hV : ∀ b, blk fa = some b → V b = none := fun b e => h.nV b (.inr (.inr e))
    refine ⟨fun b o hb => hch.eq b o (h.le b o hb) (fun e => by rw [hV b e] at hb; cases hb), ?_, ?_, ?_, ?_, h.nV, h.s1, h.f1, h.sf⟩
    · have := hch.eq _ _ h.obj h.f1
      show m2 pb = some (.cells #[_, _, _, .slice fa (st.fol.set x l).length fc, _] T (0, 0))
      rw [List.length_set]; exact this
    · exact h.os.chg hch (fun b hb e => h.sf b hb e)
    · show Own m2 T_sl_int 1 fa (st.fol.set x l).length fc _
      rw [List.length_set]
      rw [Int.toNat_natCast, Nat.mul_one, Nat.add_zero] at ho
      exact ho
    · refine ⟨by show (fv.set x _).length = (st.fol.set x l).length; rw [List.length_set, List.length_set]; exact h.rows.1, fun i l' hi => ?_⟩
      have hi : (st.fol.set x l)[i]? = some l' := hi
      by_cases e : x = i
      · subst e
        rw [List.getElem?_set_self hx] at hi
        cases hi
        exact ⟨a', c', by rw [List.getElem?_set_self (by rw [h.rows.1]; exact hx)], hc⟩
      · rw [List.getElem?_set_ne e] at hi
        obtain ⟨a1, c1, g1, g2⟩ := h.rows.2 i l' hi
        exact ⟨a1, c1, by rw [List.getElem?_set_ne e]; exact g1, g2⟩
  · exact ⟨hch.mono (fun b e => .inr (.inr e)), fun _ e => .inl e, Le.refl _, fun _ _ e => e⟩
end
def Bnd (n : Nat) (fol : List (List Nat)) : Prop := ∀ l ∈ fol, Rz l ∧ ∀ x ∈ l, x < n
theorem Bnd.mono {n n' : Nat} {fol : List (List Nat)} (h : Bnd n fol) (k : n ≤ n') : Bnd n' fol := fun l hl => ⟨(h l hl).1, fun x hx => Nat.lt_of_lt_of_le ((h l hl).2 x hx) k⟩
theorem Bnd.get {n : Nat} {fol : List (List Nat)} (h : Bnd n fol) (i : Nat) : Rz (fol.getD i []) ∧ ∀ x ∈ fol.getD i [], x < n := by
  rw [List.getD_eq_getElem?_getD]
  cases e : fol[i]? with
  | none => exact ⟨rz_nil, fun x hx => by cases hx⟩
  | some l => exact h l (List.mem_of_getElem? e)
theorem Bnd.set {n : Nat} {fol : List (List Nat)} (h : Bnd n fol) {i : Nat} {l : List Nat} (h1 : Rz l) (h2 : ∀ x ∈ l, x < n) : Bnd n (fol.set i l) := fun l' hl => by
  rcases List.mem_or_eq_of_mem_set hl with hl | rfl
  · exact h l' hl
  · exact ⟨h1, h2⟩
theorem Bnd.lk {n : Nat} {first : List Nat} (hf : ∀ x ∈ first, x < n) : ∀ (last : List Nat) (fol : List (List Nat)), Bnd n fol → Bnd n (lk also fol last first) := by
  intro last
  induction last with
  | nil => intro fol h; exact h
  | cons i last ih =>
    intro fol h
    show Bnd n (Pl.lk also (fol.set i (also (fol.getD i []) first)) last first)
    refine ih _ (h.set (also_rz _ _) (fun x hx => ?_))
    rcases also_mem.mp hx with e | e
    · exact (h.get i).2 x e
    · exact hf x e
theorem lk_snoc (J : List Nat → List Nat → List Nat) (fol : List (List Nat)) (l : List Nat) (x : Nat) (first : List Nat) : lk J fol (l ++ [x]) first = (lk J fol l first).set x (J ((lk J fol l first).getD x []) first) := by
  unfold lk; rw [List.foldl_append]; rfl
theorem rz_short {n : Nat} {l : List Nat} (h : Rz l) (hb : ∀ x ∈ l, x < n) : l.length ≤ n := by
  have := rz_len (k := 0) h (fun x hx => ⟨by omega, hb x hx⟩); omega
/-- links -/
theorem links_spec {m V : Mem} {pb : Nat} {st : Sta} {sa : Option Addr} {sc : Nat} {fa : Option Addr} {fc : Nat} {fv : List Value} (h : PSt T_place_Places m V pb st sa sc fa fc fv) {n : Nat} (hB : Bnd n st.fol) (hn : n ≤ 10000) {xs ys : List Nat} {la : Option Addr} {lc : Nat} {ra : Option Addr} {rc : Nat}
    (hx : CellsAt V la (ints (ns xs))) (hy : CellsAt V ra (ints (ns ys))) (hxl : ∀ x ∈ xs, x < st.fol.length) (hxs : xs.length ≤ 1000000) (hys : Rz ys ∧ ∀ y ∈ ys, y < n) {R : Ending → Mem → Prop}
    (k : ∀ m' V' fv', PSt T_place_Places m' V' pb ⟨st.sets, lk also st.fol xs ys⟩ sa sc fa fc fv' → Gone (Ft pb sa fa) m V (Ft pb sa fa) m' V' → R (.returned (.tuple #[])) m') :
    HC P place_Places_links.id #[.pointer (some ⟨pb, 0, none⟩), .slice la xs.length lc, .slice ra ys.length rc] m R := by
  refine place_Places_links.ok _ _ _ _ _ _ _ _ _ ?_
  refine ⟨fun N p fa1 fl1 fc1 xa xl xc n1 i mm => p = some ⟨pb, 0, none⟩ ∧ fa1 = ra ∧ fl1 = ys.length ∧ fc1 = rc ∧ xa = la ∧ xl = xs.length ∧ n1 = ((xs.length : Nat) : Int) ∧ ∃ (j : Nat) (Vm : Mem) (fvm : List Value), i = (j : Int) ∧ j ≤ xs.length ∧ N = xs.length - j ∧
      PSt T_place_Places mm Vm pb ⟨st.sets, lk also st.fol (xs.take j) ys⟩ sa sc fa fc fvm ∧ Gone (Ft pb sa fa) m V (Ft pb sa fa) mm Vm, xs.length,
    ⟨rfl, rfl, rfl, rfl, rfl, rfl, rfl, 0, V, fv, rfl, by omega, by omega, h, Gone.refl _ _ _⟩, ?_⟩
  rintro N p fa1 fl1 fc1 xa xl xc n1 i mm ⟨rfl, rfl, rfl, rfl, rfl, rfl, rfl, j, Vm, fvm, rfl, hj, rfl, hp, hg⟩
  unfold place_Places_links.l1B
  refine BrD (fun hlt => ?_) (fun hge => ?_)
  · have hjl : j < xs.length := by omega
    have hxj : (ns xs)[j]? = some ((xs[j] : Nat) : Int) := by unfold ns; rw [List.getElem?_map, List.getElem?_eq_getElem hjl]; rfl
    refine IxS.ints (xs := ns xs) ((hx.le hg.le).le hp.le) (ns_len _) (by omega) (by omega) ?_
    intro v hv
    rw [Int.toNat_natCast, hxj] at hv
    cases hv
    refine UnI.mk ?_
    have hB' : Bnd n (lk also st.fol (xs.take j) ys) := Bnd.lk hys.2 _ _ hB
    have hxx : xs[j] < (lk also st.fol (xs.take j) ys).length := by rw [lk_len]; exact hxl _ (List.getElem_mem _)
    obtain ⟨a1, c1, g1, g2⟩ := hp.rows.2 xs[j] _ (List.getElem?_eq_getElem hxx)
    refine Sub.all ?_
    show LdV mm pb (0 + 3) _
    refine LdV.mk (cell_of hp.obj rfl) (UnS.mk ?_)
    show LdV mm pb (0 + 3) _
    refine LdV.mk (cell_of hp.obj rfl) (UnS.mk ?_)
    refine IxS.ld hp.of.cells (by rw [hp.rows.1]) (by omega) (by show ((xs[j] : Nat) : Int) < (((lk also st.fol (xs.take j) ys).length : Nat) : Int); omega) ?_
    intro v hv
    rw [Int.toNat_natCast, g1] at hv
    cases hv
    refine UnS.mk ?_
    have hbr := hB' _ (List.getElem_mem hxx)
    have hl1 := rz_short hbr.1 hbr.2
    have hl2 := rz_short hys.1 hys.2
    refine also_spec (g2.le hp.le) rfl ((hy.le hg.le).le hp.le) rfl (by omega) ?_
    intro m2 a' c' hle2 hc2 hf2
    dsimp only [Cont]
    refine UnS.mk ?_
    refine Lk.all hle2 ?_
    obtain ⟨hp2, hg2⟩ := hp.see hle2
    refine hp2.wr hxx (CellsAt.see hc2 hf2) ?_
    intro m4 hp4 hg4
    have e1 : Pl.lk also st.fol (xs.take (j + 1)) ys = (Pl.lk also st.fol (xs.take j) ys).set xs[j] (also (Pl.lk also st.fol (xs.take j) ys)[xs[j]] ys) := by
      rw [List.take_add_one, List.getElem?_eq_getElem hjl]
      show Pl.lk also st.fol (xs.take j ++ [xs[j]]) ys = _
      rw [lk_snoc, List.getD_eq_getElem?_getD, List.getElem?_eq_getElem hxx]; rfl
    have key : PSt T_place_Places m4 (Pl.see mm m2 Vm) pb ⟨st.sets, Pl.lk also st.fol (xs.take (j + 1)) ys⟩ sa sc fa fc (fvm.set xs[j] (Value.slice a' (also (lk also st.fol (List.take j xs) ys)[xs[j]] ys).length c')) := by
      rw [e1]; exact hp4
    refine ⟨xs.length - (j + 1), by omega, rfl, rfl, rfl, rfl, rfl, rfl, rfl, j + 1, _, _, ?_, by omega, rfl, key, (hg.trans hg2).trans hg4⟩
    rw [wi (by omega) (by omega)]; omega
  · have e : xs.take j = xs := List.take_of_length_le (by omega)
    rw [e] at hp
    exact k mm Vm fvm hp hg
end Go.E.Pl
set_option linter.unusedVariables false
set_option linter.unusedSimpArgs false
set_option maxRecDepth 20000
namespace Go.E.Rg
open Go.H Go.E
attribute [local irreducible] BiN MkS ConvN LookN MapUpN CallV HC limb dbTab
theorem sign_spec {k : Int} {m : Mem} {R : Ending → Mem → Prop} (h : R (.returned (.bool (sgK k))) m) : HC P regex_sign.id #[.int .i64 k] m R := by
  refine regex_sign.ok _ _ _ ?_
  unfold sgK at h
  refine BrD (fun h4 => ?_) (fun h4 => ?_)
  · have : decide (4 ≤ k) = true := by simpa using h4
    rw [this, Bool.true_and] at h; exact h
  · have : decide (4 ≤ k) = false := by simpa using h4
    rw [this, Bool.false_and] at h; exact h
theorem form_mk (k : Int) (S : Nat → Bool) (ps : List Rx) : form (.mk k S ps) = (if k = 1 then ps.isEmpty && !emptyS S
    else if emptyS S = false then false
    else if k = 2 ∨ k = 3 then decide (2 ≤ ps.length) && formL k ps
    else if sgK k = true then decide (ps.length = 1) && !(ps.any fun a => sgK a.k) && formL k ps
    else false) := by conv => lhs; unfold form
theorem formL_cons (k : Int) (r : Rx) (rs : List Rx) : formL k (r :: rs) = ((decide (r.k ≠ k) && form r) && formL k rs) := by conv => lhs; unfold formL
theorem nodesL_cons (r : Rx) (rs : List Rx) : nodesL (r :: rs) = nodes r + nodesL rs := by conv => lhs; unfold nodesL
theorem depthL_cons (r : Rx) (rs : List Rx) : depthL (r :: rs) = max (depth r) (depthL rs) := by conv => lhs; unfold depthL
theorem nodes_mk (k : Int) (S : Nat → Bool) (ps : List Rx) : nodes (.mk k S ps) = nodesL ps + 1 := by conv => lhs; unfold nodes
theorem depth_nodes (r : Rx) : depth r ≤ nodes r := by
  refine Rx.rec (motive_1 := fun r => depth r ≤ nodes r) (motive_2 := fun ps => depthL ps ≤ nodesL ps) ?_ ?_ ?_ r
  · intro k S ps ih; rw [depth_mk, nodes_mk]; omega
  · unfold depthL nodesL; omega
  · intro r rs h1 h2; rw [depthL_cons, nodesL_cons]; omega
theorem nodesL_take : ∀ {ps : List Rx} {j : Nat} {p : Rx}, ps[j]? = some p → nodesL (ps.take (j + 1)) = nodesL (ps.take j) + nodes p ∧ depthL (ps.take (j + 1)) = max (depthL (ps.take j)) (depth p) ∧ nodesL (ps.take (j + 1)) ≤ nodesL ps
  | r :: rs, 0, p, h => by
    cases h
    simp only [List.take_succ_cons, List.take_zero]
    rw [nodesL_cons, depthL_cons, nodesL_cons]
    have e1 : nodesL [] = 0 := by unfold nodesL; rfl
    have e2 : depthL [] = 0 := by unfold depthL; rfl
    omega
  | r :: rs, j + 1, p, h => by
    obtain ⟨h1, h2, h3⟩ := nodesL_take (ps := rs) (j := j) (p := p) (by simpa using h)
    rw [List.take_succ_cons, List.take_succ_cons, nodesL_cons, nodesL_cons, depthL_cons, depthL_cons, nodesL_cons, h1, h2]
    rw [h1] at h3
    omega
section
variable {m : Mem} {R : Ending → Mem → Prop}
theorem formed_spec (r : Rx) : ∀ {m : Mem} {v : Value} {R : Ending → Mem → Prop}, ArgC m r v → (∀ m', Le m m' → R (.returned (.bool (form r))) m') → HC P regex_formed.id #[rxA r.k r.S v] m R := by
  refine Rx.ind (C := fun r => ∀ {m : Mem} {v : Value} {R : Ending → Mem → Prop}, ArgC m r v → (∀ m', Le m m' → R (.returned (.bool (form r))) m') → HC P regex_formed.id #[rxA r.k r.S v] m R) ?_ r
  intro k S ps ih m v R ha hk
  obtain ⟨prs, a, c, rfl, rfl, hl, hb, hc, hp⟩ := ha.inv
  show HC P regex_formed.id #[rxA k S (.slice a prs.length c)] m R
  refine regex_formed.ok _ _ _ _ _ _ _ _ _ _ ?_
  refine newRx ?_
  intro b1 m1 hb1 hle h1
  rw [form_mk] at hk
  have hlen : (prs.map (·.1)).length = prs.length := List.length_map _
  -- the loop over the parts
  have k2 : ∀ m2, Le m1 m2 → (∀ m', Le m m' → R (.returned (.bool (formL k (prs.map (·.1))))) m') → regex_formed.k2 b1 0 R m2 := by
    intro m2 hle2 hk2
    unfold regex_formed.k2
    refine LdV.s5 (hle2 _ _ h1) (UnS.mk ?_)
    refine ⟨fun N x1b x1o xa xl xc n i mm => x1b = b1 ∧ x1o = 0 ∧ xa = a ∧ xl = prs.length ∧ xc = c ∧ n = ((prs.length : Nat) : Int) ∧ ∃ j : Nat, i = (j : Int) ∧ j ≤ prs.length ∧ N = prs.length - j ∧ Le m1 mm ∧ formL k (prs.map (·.1)) = formL k ((prs.map (·.1)).drop j), prs.length,
      ⟨rfl, rfl, rfl, rfl, rfl, rfl, 0, rfl, by omega, by omega, hle2, rfl⟩, ?_⟩
    rintro N x1b x1o xa xl xc n i mm ⟨rfl, rfl, rfl, rfl, rfl, rfl, j, rfl, hj, rfl, hlm, hfl⟩
    unfold regex_formed.l3B
    refine BrD (fun hlt => ?_) (fun hge => ?_)
    · have hjl : j < prs.length := by omega
      have hpm := List.getElem_mem hjl
      obtain ⟨a', l', c', hv⟩ := (hp _ hpm).sl
      have hdrop : (prs.map (·.1)).drop j = prs[j].1 :: (prs.map (·.1)).drop (j + 1) := by
        rw [List.drop_eq_getElem_cons (by rw [hlen]; exact hjl), List.getElem_map]
      rw [hdrop, formL_cons] at hfl
      refine IxS.rx6 (hc.le (hle.trans hlm)) hjl hv ?_
      refine copyRx ?_
      intro b4 m7 hb4 hle7 h7
      have hl7 := hlm.trans hle7
      refine LdV.s0 h7 (UnI.mk ?_)
      refine LdV.s0 (hl7 _ _ h1) (UnI.mk ?_)
      refine BrE (fun e => ?_) (fun e => ?_)
      · have := hk2 m7 (hle.trans hl7)
        rw [hfl] at this
        rw [show decide (prs[j].1.k ≠ k) = false by simpa using e] at this
        simpa using this
      refine get6 h7 ?_
      have hih := ih prs[j].1 (List.mem_map.mpr ⟨_, hpm, rfl⟩) (m := m7) (v := .slice a' l' c') (R := Cont (fun v m8 => UnB v fun x65 => Br (!x65) (R (.returned (.bool false)) m8) (∃ N1, N1 < prs.length - j ∧ (x1b = x1b ∧ (0 : Nat) = 0 ∧ xa = xa ∧ prs.length = prs.length ∧ xc = xc ∧ ((prs.length : Nat) : Int) = ((prs.length : Nat) : Int) ∧ ∃ j' : Nat, IntKind.i64.wrap ((j : Int) + 1) = (j' : Int) ∧ j' ≤ prs.length ∧ N1 = prs.length - j' ∧ Le m1 m8 ∧ formL k (prs.map (·.1)) = formL k ((prs.map (·.1)).drop j')))) (panicR R)) (by
          have := hp _ hpm
          rw [hv] at this
          exact this.le (hle.trans hl7)) ?_
      · exact hih
      intro m8 hle8
      dsimp only [Cont]
      refine UnB.mk ?_
      have hdk : decide (prs[j].1.k ≠ k) = true := by simpa using e
      rw [hdk, Bool.true_and] at hfl
      refine Br.mk (fun hf => ?_) (fun hf => ?_)
      · have hf : form prs[j].1 = false := by simpa using hf
        have := hk2 m8 (hle.trans (hl7.trans hle8))
        rw [hfl, hf, Bool.false_and] at this
        exact this
      · have hf : form prs[j].1 = true := by simpa using hf
        rw [hf, Bool.true_and] at hfl
        refine ⟨prs.length - (j + 1), by omega, rfl, rfl, rfl, rfl, rfl, rfl, j + 1, ?_, by omega, rfl, hl7.trans hle8, hfl⟩
        rw [wi (by omega) (by omega)]; omega
    · have e : (prs.map (·.1)).drop j = [] := List.drop_eq_nil_of_le (by omega)
      rw [e] at hfl
      have := hk2 mm (hle.trans hlm)
      rw [hfl] at this
      have e2 : formL k [] = true := by unfold formL; rfl
      rw [e2] at this
      exact this
  refine LdV.s0 h1 (UnI.mk ?_)
  refine BrE (fun e => ?_) (fun e => ?_)
  · rw [if_pos e] at hk
    refine LdV.s5 h1 (UnS.mk ?_)
    refine BrE (fun e2 => ?_) (fun e2 => ?_)
    · have hz : prs = [] := List.eq_nil_of_length_eq_zero (by omega)
      refine LdV.s1 h1 (UnI.mk (LdV.s2 h1 (UnI.mk (LdV.s3 h1 (UnI.mk (LdV.s4 h1 (UnI.mk ?_)))))))
      rw [eq4_zero]
      have := hk m1 hle
      rw [hz] at this
      simpa using this
    · have := hk m1 hle
      have hz : (prs.map (·.1)).isEmpty = false := by
        cases prs with
        | nil => simp at e2
        | cons p qs => rfl
      rw [hz] at this
      simpa using this
  rw [if_neg e] at hk
  refine LdV.s1 h1 (UnI.mk (LdV.s2 h1 (UnI.mk (LdV.s3 h1 (UnI.mk (LdV.s4 h1 (UnI.mk ?_)))))))
  rw [eq4_zero]
  refine Br.mk (fun hS => ?_) (fun hS => ?_)
  · rw [if_pos (by simpa using hS)] at hk
    exact hk m1 hle
  rw [if_neg (by simpa using hS)] at hk
  refine LdV.s0 h1 (UnI.mk ?_)
  have k1t : (k = 2 ∨ k = 3) → regex_formed.k1 b1 0 true R m1 := by
    intro h23
    rw [if_pos h23, hlen] at hk
    unfold regex_formed.k1
    refine Br.t rfl ?_
    refine LdV.s5 h1 (UnS.mk ?_)
    refine BrD (fun h2 => ?_) (fun h2 => ?_)
    · have := hk m1 hle
      rw [show decide (2 ≤ prs.length) = false by simp; omega] at this
      simpa using this
    · refine k2 m1 (Le.refl _) ?_
      rw [show decide (2 ≤ prs.length) = true by simp; omega] at hk
      simpa using hk
  refine BrE (fun h2 => k1t (.inl h2)) (fun h2 => ?_)
  refine LdV.s0 h1 (UnI.mk ?_)
  by_cases h3 : k = 3
  · have : (k == 3) = true := by simpa using h3
    rw [this]
    exact k1t (.inr h3)
  have hk3 : (k == 3) = false := by simpa using h3
  rw [hk3]
  rw [if_neg (by rintro (h | h); exact h2 h; exact h3 h), hlen] at hk
  unfold regex_formed.k1
  refine Br.f rfl ?_
  refine LdV.s0 h1 (UnI.mk ?_)
  refine sign_spec ?_
  dsimp only [Cont]
  refine UnB.mk ?_
  refine Br.mk (fun hs => ?_) (fun hs => ?_)
  rotate_left
  · rw [if_neg (by rw [hs]; decide)] at hk
    exact hk m1 hle
  rw [if_pos hs] at hk
  refine LdV.s5 h1 (UnS.mk ?_)
  refine BrN (fun h1' => ?_) (fun h1' => ?_)
  · have := hk m1 hle
    rw [show decide (prs.length = 1) = false by simp; omega] at this
    simpa using this
  have hl1 : prs.length = 1 := by omega
  refine LdV.s5 h1 (UnS.mk ?_)
  refine IxS.rxk (hc.le hle) (j := 0) (by omega) ?_
  refine sign_spec ?_
  dsimp only [Cont]
  refine UnB.mk ?_
  obtain ⟨p, rfl⟩ := List.length_eq_one_iff.mp hl1
  refine Br.mk (fun hsg => ?_) (fun hsg => ?_)
  · have := hk m1 hle
    have hsg : sgK p.1.k = true := hsg
    simp [hsg] at this
    exact this
  · have hsg : sgK p.1.k = false := hsg
    refine k2 m1 (Le.refl _) ?_
    intro m' hm'
    have := hk m' hm'
    simp [hsg] at this
    exact this
theorem size_spec (r : Rx) : ∀ {m : Mem} {v : Value} {R : Ending → Mem → Prop}, ArgC m r v → nodes r ≤ 4000000000000000000 → (∀ m', Le m m' → R (.returned (.tuple #[.int .i64 (nodes r : Nat), .int .i64 (depth r : Nat)])) m') → HC P regex_size.id #[rxA r.k r.S v] m R := by
  refine Rx.ind (C := fun r => ∀ {m : Mem} {v : Value} {R : Ending → Mem → Prop}, ArgC m r v → nodes r ≤ 4000000000000000000 → (∀ m', Le m m' → R (.returned (.tuple #[.int .i64 (nodes r : Nat), .int .i64 (depth r : Nat)])) m') → HC P regex_size.id #[rxA r.k r.S v] m R) ?_ r
  intro k S ps ih m v R ha hn hk
  obtain ⟨prs, a, c, rfl, rfl, hl, hb, hc, hp⟩ := ha.inv
  show HC P regex_size.id #[rxA k S (.slice a prs.length c)] m R
  refine regex_size.ok _ _ _ _ _ _ _ _ _ _ ?_
  refine newRx ?_
  intro b1 m1 hb1 hle h1
  have hlen : (prs.map (·.1)).length = prs.length := List.length_map _
  rw [nodes_mk] at hn hk
  rw [depth_mk] at hk
  refine LdV.s5 h1 (UnS.mk ?_)
  refine ⟨fun N nd dp xa xl xc n i mm => xa = a ∧ xl = prs.length ∧ xc = c ∧ n = ((prs.length : Nat) : Int) ∧ ∃ j : Nat, i = (j : Int) ∧ j ≤ prs.length ∧ N = prs.length - j ∧ Le m1 mm ∧ nd = ((nodesL ((prs.map (·.1)).take j) : Nat) : Int) ∧ dp = ((depthL ((prs.map (·.1)).take j) : Nat) : Int), prs.length,
    ⟨rfl, rfl, rfl, rfl, 0, rfl, by omega, by omega, Le.refl _, by unfold nodesL; rfl, by unfold depthL; rfl⟩, ?_⟩
  rintro N nd dp xa xl xc n i mm ⟨rfl, rfl, rfl, rfl, j, rfl, hj, rfl, hlm, rfl, rfl⟩
  unfold regex_size.l1B
  refine BrD (fun hlt => ?_) (fun hge => ?_)
  · have hjl : j < prs.length := by omega
    have hpm := List.getElem_mem hjl
    obtain ⟨a', l', c', hv⟩ := (hp _ hpm).sl
    have hg : (prs.map (·.1))[j]? = some prs[j].1 := by rw [List.getElem?_map, List.getElem?_eq_getElem hjl]; rfl
    obtain ⟨e1, e2, e3⟩ := nodesL_take hg
    have e4 := depth_nodes prs[j].1
    refine IxS.rx6 (hc.le (hle.trans hlm)) hjl hv ?_
    refine copyRx ?_
    intro b4 m7 hb4 hle7 h7
    have hl7 := hlm.trans hle7
    refine get6 h7 ?_
    refine ih prs[j].1 (List.mem_map.mpr ⟨_, hpm, rfl⟩) (m := m7) (v := .slice a' l' c') (by
        have := hp _ hpm
        rw [hv] at this
        exact this.le (hle.trans hl7)) (by omega) ?_
    intro m8 hle8
    refine ⟨prs.length - (j + 1), by omega, rfl, rfl, rfl, rfl, j + 1, ?_, by omega, rfl, hl7.trans hle8, ?_, ?_⟩
    · rw [wi (by omega) (by omega)]; omega
    · rw [wi (by omega) (by omega), e1]; omega
    · rw [e2]; split <;> omega
  · have e : (prs.map (·.1)).take j = prs.map (·.1) := List.take_of_length_le (by omega)
    rw [e]
    unfold regex_size.k2
    have hd : depthL (prs.map (·.1)) ≤ nodesL (prs.map (·.1)) := by
      have := depth_nodes (.mk k S (prs.map (·.1)))
      rw [depth_mk, nodes_mk] at this; omega
    rw [wi (by omega) (by omega), wi (by omega) (by omega)]
    have := hk mm (hle.trans hlm)
    exact this
theorem May_spec {r : Rx} {m : Mem} {v : Value} {R : Ending → Mem → Prop} (ha : ArgC m r v) (hn : nodes r ≤ 4000000000000000000) (hk : ∀ m', Le m m' → R (.returned (.int .i64 (may r))) m') : HC P regex_May.id #[rxA r.k r.S v] m R := by
  obtain ⟨a, l, c, rfl⟩ := ha.sl
  refine regex_May.ok _ _ _ _ _ _ _ _ _ _ ?_
  refine newRx ?_
  intro b1 m1 hb1 hle h1
  refine get6 h1 ?_
  refine formed_spec r (ha.le hle) ?_
  intro m2 hle2
  dsimp only [Cont]
  refine UnB.mk ?_
  unfold may at hk
  refine Br.mk (fun hf => ?_) (fun hf => ?_)
  · rw [if_neg (by simpa using hf)] at hk
    exact hk m2 (hle.trans hle2)
  rw [if_pos (by simpa using hf)] at hk
  refine get6 (hle2 _ _ h1) ?_
  refine size_spec r (ha.le (hle.trans hle2)) hn ?_
  intro m3 hle3
  have hle3' := hle.trans (hle2.trans hle3)
  refine BrD (fun h4 => ?_) (fun h4 => ?_)
  · rw [if_pos (.inl (by omega))] at hk
    exact hk m3 hle3'
  refine BrD (fun h5 => ?_) (fun h5 => ?_)
  · rw [if_pos (.inr (by omega))] at hk
    exact hk m3 hle3'
  rw [if_neg (by omega)] at hk
  exact hk m3 hle3'
end
end Go.E.Rg
set_option linter.unusedVariables false
set_option linter.unusedSimpArgs false
set_option maxRecDepth 20000
namespace Go.E.Rg
open Go.H Go.E
attribute [local irreducible] BiN MkS ConvN LookN MapUpN CallV HC limb dbTab
def bl (l : List Bool) : List Value := l.map Value.bool
theorem bl_len (l : List Bool) : (bl l).length = l.length := by simp [bl]
theorem bl_get {l : List Bool} {i : Nat} {b : Bool} (h : l[i]? = some b) : (bl l)[i]? = some (.bool b) := by unfold bl; rw [List.getElem?_map, h]; rfl
theorem IxS.bl {m : Mem} {a : Option Addr} {len : Nat} {l : List Bool} (hc : CellsAt m a (bl l)) (hl : l.length = len) {i : Nat} {b : Bool} (hb : l[i]? = some b) {K : Value → Prop} (k : K (.bool b)) : IxS a len (i : Int) 1 (fun b o => LdV m b o K) := by
  have hi : i < l.length := by
    rcases Nat.lt_or_ge i l.length with h | h
    · exact h
    · rw [List.getElem?_eq_none h] at hb; cases hb
  refine IxS.ld hc (by rw [bl_len]; exact hl) (by omega) (by omega) ?_
  intro v hv
  rw [Int.toNat_natCast, bl_get hb] at hv
  cases hv; exact k
end Go.E.Rg
set_option linter.unusedVariables false
set_option linter.unusedSimpArgs false
set_option maxRecDepth 20000
namespace Go.E.Rg
open Go.H Go.E
attribute [local irreducible] BiN MkS ConvN LookN MapUpN CallV HC limb dbTab
/-- The answer under way: its own row, and the expression's own block. -/
structure FO (m mm : Mem) (b3 b n : Nat) (obj : Obj) (out : List Bool) : Prop where
  le : Le m mm
  c3 : mm b3 = some obj
  own : Own mm T_bool 1 (some ⟨b, 0, none⟩) n n (bl out)
  hb : m b = none
  ne : b3 ≠ b
section
variable {m mm m' : Mem} {b3 b n : Nat} {obj : Obj} {out out' : List Bool}
theorem FO.up (h : FO m mm b3 b n obj out) (k : Le mm m') : FO m m' b3 b n obj out := ⟨h.le.trans k, k _ _ h.c3, Own.le k h.own, h.hb, h.ne⟩
theorem FO.to (h : FO m mm b3 b n obj out) (k : Chg (fun x => blk (some ⟨b, 0, none⟩) = some x) mm m') (o : Own m' T_bool 1 (some ⟨b, 0, none⟩) n n (bl out')) : FO m m' b3 b n obj out' :=
  ⟨k.to_le h.le (fun x e => by cases e; exact h.hb), k.eq _ _ h.c3 (fun e => by cases e; exact h.ne rfl), o, h.hb, h.ne⟩
theorem FO.len (h : FO m mm b3 b n obj out) : out.length = n := by have := h.own.1; rw [bl_len] at this; omega
theorem FO.fresh (h : FO m mm b3 b n obj out) : Fresh m (some ⟨b, 0, none⟩) := fun x e => by cases e; exact h.hb
end
end Go.E.Rg
set_option linter.unusedVariables false
set_option linter.unusedSimpArgs false
set_option maxRecDepth 20000
namespace Go.E.Rg
open Go.H Go.E
theorem nodes_mk' (k : Int) (S : Nat → Bool) (ps : List Rx) : nodes (.mk k S ps) = nodesL ps + 1 := by conv => lhs; unfold nodes
theorem nodesL_nil : nodesL [] = 0 := by unfold nodesL; rfl
theorem nodesL_cons' (r : Rx) (rs : List Rx) : nodesL (r :: rs) = nodes r + nodesL rs := by conv => lhs; unfold nodesL
end Go.E.Rg
set_option linter.unusedVariables false
set_option linter.unusedSimpArgs false
set_option maxRecDepth 20000
namespace Go.E.Rg
open Go.H Go.E
attribute [local irreducible] BiN MkS ConvN LookN MapUpN CallV HC limb dbTab
/-- What is new since m. -/
noncomputable abbrev newB (m m' : Mem) : Mem := on m' (fun b => m b = none)
theorem newB_mono {S : Nat → Prop} {m mm m' : Mem} (h : Chg S mm m') (hs : ∀ b, S b → m b ≠ none) : Le (newB m mm) (newB m m') :=
  on_mono h (fun b hb _ hS => hs b hS hb) (fun b hb _ => hb)
theorem newB_up {m mm m' : Mem} (h : ∀ b, m b ≠ none → mm b ≠ none) : Le (newB mm m') (newB m m') := fun b o hb => by
  obtain ⟨h1, h2⟩ := on_live hb
  have : m b = none := by
    cases hm : m b with
    | none => rfl
    | some o => exact absurd h1 (h b (by rw [hm]; simp))
  show on m' (fun b => m b = none) b = some o
  rw [on_in (G := fun b => m b = none) this]; exact h2
theorem newB_le {m mm m' : Mem} (h : Le mm m') : Le (newB m mm) (newB m m') := newB_mono (h.chg fun _ => False) (fun _ h => h.elim)
theorem CellsAt.on {m : Mem} {G : Nat → Prop} {a : Option Addr} {vs : List Value} (h : CellsAt m a vs) (hn : ∀ b, blk a = some b → G b) : CellsAt (on m G) a vs := by
  rcases h.cases with ⟨b, o, rfl, hx⟩ | ⟨rfl, _⟩
  · intro j u hu
    have := hx j u hu
    unfold Mem.cell at *
    rw [on_in (hn b rfl)]; exact this
  · exact CellsAt.empty _ _
/-- A place of one's own, while only r turns besides. -/
structure Cl (T : TypeId) (m mm : Mem) (r b : Nat) (c : Array Value) : Prop where
  at_ : mm b = some (.cells c T (0, 0))
  ne : b ≠ r
  new : m b = none
  ch : Chg (fun x => x = r) m mm
section
variable {T : TypeId} {m mm m' : Mem} {r b : Nat} {c : Array Value}
theorem Cl.mk0 (hr : m r ≠ none) (hb : m b = none) : Cl T m (m.set b (.cells c T (0, 0))) r b c := ⟨set_same _ _ _, fun e => hr (e ▸ hb), hb, (Le.set hb _).chg _⟩
theorem Cl.step (h : Cl T m mm r b c) (k : Chg (fun x => x = r) mm m') : Cl T m m' r b c := ⟨k.eq _ _ h.at_ h.ne, h.ne, h.new, h.ch.trans k (fun _ _ e => e)⟩
theorem Cl.le (h : Cl T m mm r b c) (k : Le mm m') : Cl T m m' r b c := h.step (k.chg _)
theorem Cl.put (h : Cl T m mm r b c) (c' : Array Value) : Cl T m (mm.set b (.cells c' T (0, 0))) r b c' := by
  refine ⟨set_same _ _ _, h.ne, h.new, ?_⟩
  refine ⟨fun x o hx hn => ?_, fun x hx => ?_⟩
  · have : x ≠ b := fun e => by subst e; rw [h.new] at hx; cases hx
    rw [set_other _ _ this]
    exact h.ch.eq x o hx hn
  · by_cases e : x = b
    · subst e; rw [set_same]; simp
    · rw [set_other _ _ e]; exact h.ch.live x hx
theorem Cl.mkAt (h : Chg (fun x => x = r) m mm) (hr : m r ≠ none) (hb : mm b = none) : Cl T m (mm.set b (.cells c T (0, 0))) r b c := by
  have hbm : m b = none := h.new hb
  exact ⟨set_same _ _ _, fun e => hr (e ▸ hbm), hbm, h.trans ((Le.set hb _).chg _) (fun _ _ e => e)⟩
end
theorem ContRx.mk {k u0 u1 u2 u3 : Int} {a : Option Addr} {l c : Nat} {K : Int → Int → Int → Int → Int → Option Addr → Nat → Nat → Mem → Prop} {Pn : List PanicEntry → Mem → Prop} {m : Mem} (h : K k u0 u1 u2 u3 a l c m) :
    Cont (fun v m => UnAgg v fun l => UnCons l fun v l => UnI v .i64 fun x0 => UnCons l fun v l => UnI v .u64 fun x1 => UnCons l fun v l => UnI v .u64 fun x2 => UnCons l fun v l => UnI v .u64 fun x3 => UnCons l fun v l => UnI v .u64 fun x4 => UnCons l fun v l => UnS v fun xa xl xc => UnNil l (K x0 x1 x2 x3 x4 xa xl xc m)) Pn
      (.returned (.agg #[.int .i64 k, .int .u64 u0, .int .u64 u1, .int .u64 u2, .int .u64 u3, .slice a l c])) m := h
theorem put6 {m : Mem} {b : Nat} {x0 x1 x2 x3 x4 x5 : Value} {k : Int} {S : Nat → Bool} {a : Option Addr} {l c : Nat} {e : TypeId} {K : Mem → Prop} (h : m b = some (.cells #[x0, x1, x2, x3, x4, x5] e (0, 0)))
    (q : K (m.set b (.cells (rxO k S (.slice a l c)) e (0, 0)))) : St1 m b 0 (.int .i64 k) fun m1 => St1 m1 b 1 (.int .u64 (L S 0)) fun m2 => St1 m2 b 2 (.int .u64 (L S 1)) fun m3 => St1 m3 b 3 (.int .u64 (L S 2)) fun m4 => St1 m4 b 4 (.int .u64 (L S 3)) fun m5 => St1 m5 b 5 (.slice a l c) K :=
  St1.six h rfl rfl rfl rfl rfl rfl q
theorem out6 {m : Mem} {b : Nat} {x0 x1 x2 x3 x4 x5 : Value} {k : Int} {S : Nat → Bool} {a : Option Addr} {l c : Nat} {e : TypeId} {K : Int → Int → Int → Int → Int → Option Addr → Nat → Nat → Mem → Prop} (h : m b = some (.cells #[x0, x1, x2, x3, x4, x5] e (0, 0)))
    (q : K k (L S 0) (L S 1) (L S 2) (L S 3) a l c (m.set b (.cells (rxO k S (.slice a l c)) e (0, 0)))) : St1 m b 0 (.int .i64 k) fun m1 => St1 m1 b 1 (.int .u64 (L S 0)) fun m2 => St1 m2 b 2 (.int .u64 (L S 1)) fun m3 => St1 m3 b 3 (.int .u64 (L S 2)) fun m4 => St1 m4 b 4 (.int .u64 (L S 3)) fun m5 => St1 m5 b 5 (.slice a l c) fun m6 =>
      LdV m6 b 0 fun v => UnI v .i64 fun y0 => LdV m6 b 1 fun v => UnI v .u64 fun y1 => LdV m6 b 2 fun v => UnI v .u64 fun y2 => LdV m6 b 3 fun v => UnI v .u64 fun y3 => LdV m6 b 4 fun v => UnI v .u64 fun y4 => LdV m6 b 5 fun v => UnS v fun ya yl yc => K y0 y1 y2 y3 y4 ya yl yc m6 :=
  put6 h (get6 (set_same _ _ _) q)
theorem noS_L (j : Nat) : L noS j = 0 := by have := L_zero j; exact this
/-- Glob but for what r has. -/
abbrev GlobR (m : Mem) (r : Nat) : Prop := Glob (m.wo fun b => b = r)
theorem GlobR.chg {m m' : Mem} {r : Nat} (h : GlobR m r) (k : Chg (fun b => b = r) m m') : GlobR m' r := by
  refine Glob.le h ?_
  intro b o hb
  by_cases e : b = r
  · rw [wo_out (F := fun b => b = r) e] at hb; cases hb
  · rw [wo_in (F := fun b => b = r) e] at hb ⊢
    exact k.eq b o hb e
/-- A list of expressions under way, its own slice; what its parts have is new and elsewhere. -/
structure RL (m mm : Mem) (a : Option Addr) (c : Nat) (prs : List (Rx × Value)) : Prop where
  own : Own mm T_api_Rx 6 a prs.length c (prs.flatMap rxRow)
  fr : Fresh m a
  ok : ∀ p ∈ prs, ArgC (on mm fun b => m b = none ∧ blk a ≠ some b) p.1 p.2
theorem eRx : ElemOK P T_sl_api_Rx T_api_Rx (.agg #[.int .i64 0, .int .u64 0, .int .u64 0, .int .u64 0, .int .u64 0, .slice none 0 0]) 6 64 := .of (by kernel_rfl) (by kernel_rfl) rfl
end Go.E.Rg
set_option linter.unusedVariables false
set_option linter.unusedSimpArgs false
set_option maxRecDepth 20000
namespace Go.E.Pl
open Go.H Go.E Go.E.Rg
attribute [local irreducible] BiN MkS ConvN LookN MapUpN CallV HC
theorem eSet : ElemOK P T_sl_api_Set T_api_Set (.agg #[.int .u64 0, .int .u64 0, .int .u64 0, .int .u64 0]) 4 32 := .of (by kernel_rfl) (by kernel_rfl) rfl
theorem eSI : ElemOK P T_sl_sl_int T_sl_int (.slice none 0 0) 1 24 := .of (by kernel_rfl) (by kernel_rfl) rfl
/-- A part's three cells. -/
abbrev pO (a : Option Addr) (l c : Nat) (a' : Option Addr) (l' c' : Nat) (z : Bool) : Array Value := #[.slice a l c, .slice a' l' c', .bool z]
theorem put3 {m : Mem} {b : Nat} {x0 x1 x2 : Value} {a : Option Addr} {l c : Nat} {a' : Option Addr} {l' c' : Nat} {z : Bool} {e : TypeId} {K : Mem → Prop} (h : m b = some (.cells #[x0, x1, x2] e (0, 0)))
    (q : K (m.set b (.cells (pO a l c a' l' c' z) e (0, 0)))) : St1 m b 0 (.slice a l c) fun m1 => St1 m1 b 1 (.slice a' l' c') fun m2 => St1 m2 b 2 (.bool z) K := by
  refine St1.to #[.slice a l c, x1, x2] h (by simp) rfl (by simp) ?_
  refine St1.to #[.slice a l c, .slice a' l' c', x2] (set_same _ _ _) (by simp) rfl (by simp) ?_
  rw [set_set]
  refine St1.to #[.slice a l c, .slice a' l' c', .bool z] (set_same _ _ _) (by simp) rfl (by simp) ?_
  rw [set_set]
  exact q
theorem get3 {m : Mem} {b : Nat} {a : Option Addr} {l c : Nat} {a' : Option Addr} {l' c' : Nat} {z : Bool} {e : TypeId} {fr : Nat × Nat} {K : Option Addr → Nat → Nat → Option Addr → Nat → Nat → Bool → Prop} (h : m b = some (.cells (pO a l c a' l' c' z) e fr)) (q : K a l c a' l' c' z) :
    LdV m b 0 fun v => UnS v fun xa xl xc => LdV m b 1 fun v => UnS v fun ya yl yc => LdV m b 2 fun v => UnB v fun w => K xa xl xc ya yl yc w := LdV.s0 h (LdV.s1 h (LdV.s2 h q))
theorem ret3 {m : Mem} {b : Nat} {x0 x1 x2 : Value} {a : Option Addr} {l c : Nat} {a' : Option Addr} {l' c' : Nat} {z : Bool} {e : TypeId} {R : Ending → Mem → Prop} (h : m b = some (.cells #[x0, x1, x2] e (0, 0)))
    (q : R (.returned (.agg #[.slice a l c, .slice a' l' c', .bool z])) (m.set b (.cells (pO a l c a' l' c' z) e (0, 0)))) :
    St1 m b 0 (.slice a l c) fun m1 => St1 m1 b 1 (.slice a' l' c') fun m2 => St1 m2 b 2 (.bool z) fun m3 => LdV m3 b 0 fun v => UnS v fun xa xl xc => LdV m3 b 1 fun v => UnS v fun ya yl yc => LdV m3 b 2 fun v => UnB v fun w =>
      R (.returned (.agg #[.slice xa xl xc, .slice ya yl yc, .bool w])) m3 := put3 h (get3 (set_same _ _ _) q)
theorem ContPt.mk {a : Option Addr} {l c : Nat} {a' : Option Addr} {l' c' : Nat} {z : Bool} {K : Option Addr → Nat → Nat → Option Addr → Nat → Nat → Bool → Mem → Prop} {Pn : List PanicEntry → Mem → Prop} {m : Mem} (h : K a l c a' l' c' z m) :
    Cont (fun v m => UnAgg v fun l => UnCons l fun v l => UnS v fun xa xl xc => UnCons l fun v l => UnS v fun ya yl yc => UnCons l fun v l => UnB v fun w => UnNil l (K xa xl xc ya yl yc w m)) Pn (.returned (.agg #[.slice a l c, .slice a' l' c', .bool z])) m := h
/-- A block of the walk's own. -/
structure Loc (F : Nat → Prop) (m V : Mem) (b : Nat) (o : Obj) : Prop where
  at_ : m b = some o
  hid : V b = none
  out : ¬ F b
section
variable {F F' : Nat → Prop} {m V m' V' : Mem} {b : Nat} {o : Obj}
theorem Loc.go (h : Loc F m V b o) (g : Gone F m V F' m' V') : Loc F' m' V' b o := by
  obtain ⟨h1, h2, h3⟩ := g.keep h.at_ h.out h.hid
  exact ⟨h1, h3, h2⟩
theorem Loc.other (h : Loc F m V b o) {x : Nat} {ox : Obj} (hx : x ≠ b) : Loc F (m.set x ox) V b o := ⟨by rw [set_other _ _ (Ne.symm hx)]; exact h.at_, h.hid, h.out⟩
theorem Loc.put (h : Loc F m V b o) (o' : Obj) : Loc F (m.set b o') V b o' := ⟨set_same _ _ _, h.hid, h.out⟩
theorem Gone.locw (h : Gone F m V F' m' V') {x : Nat} (hx : m x = none) (o : Obj) : Gone F m V F' (m'.set x o) V' :=
  ⟨⟨fun b o' hb hn => by
      have : b ≠ x := by rintro rfl; rw [hx] at hb; cases hb
      rw [set_other _ _ this]; exact h.chg.eq b o' hb hn, fun b hb => by
      unfold Mem.set
      split
      · simp
      · exact h.chg.live b hb⟩, h.ft, h.le, h.hid⟩
end
section
variable {T : TypeId} {m V : Mem} {pb : Nat} {st : Sta} {sa : Option Addr} {sc : Nat} {fa : Option Addr} {fc : Nat} {fv : List Value}
theorem PSt.put (h : PSt T m V pb st sa sc fa fc fv) {b : Nat} {o : Obj} (hl : Loc (Ft pb sa fa) m V b o) (o' : Obj) : PSt T (m.set b o') V pb st sa sc fa fc fv := h.loc (Chg.set m b o') hl.hid hl.out
/-- A new block of the walk's own. -/
theorem PSt.mine (h : PSt T m V pb st sa sc fa fc fv) {m' : Mem} (hle : Le m m') {b : Nat} {o : Obj} (hb : m b = none) (hb' : m' b = some o) : PSt T m' V pb st sa sc fa fc fv ∧ Gone (Ft pb sa fa) m V (Ft pb sa fa) m' V ∧ Loc (Ft pb sa fa) m' V b o := by
  obtain ⟨h1, h2⟩ := h.new hle
  refine ⟨h1, h2, hb', ?_, fun e => h.live e hb⟩
  cases e : V b with
  | none => rfl
  | some x => have := h.le b x e; rw [hb] at this; cases this
end
structure StB (n : Nat) (st : Sta) : Prop where
  num : st.sets.length = n
  len : st.fol.length = n
  bnd : Bnd n st.fol
theorem wk_bnd {r : Rx} (hf : form r = true) {st : Sta} {n : Nat} (h : StB n st) : StB (n + cnt r) (wk also r st).2 ∧ (Rz (wk also r st).1.fi ∧ ∀ x ∈ (wk also r st).1.fi, x < n + cnt r) ∧ (Rz (wk also r st).1.la ∧ ∀ x ∈ (wk also r st).1.la, x < n + cnt r) := by
  have hw := walk_ok (J := also) (fun a b x => also_mem) r hf st (by rw [h.len, h.num])
  obtain ⟨⟨g1, g2⟩, g3⟩ := walk_rz r st (fun l hl => (h.bnd l hl).1)
  obtain ⟨B1, B2, B3⟩ := bounds r st.sets.length
  have e := hw.fol_lt
  rw [h.num] at B1 B2 B3 e
  have hfi := hw.fi
  have hla := hw.la
  have hfo := hw.fo
  rw [h.num] at hfi hla hfo
  refine ⟨⟨by rw [← hw.len]; exact e, e, fun l hl => ⟨g3 l hl, fun x hx => ?_⟩⟩, ⟨g1, fun x hx => (B1 x ((hfi x).mp hx)).2⟩, ⟨g2, fun x hx => (B2 x ((hla x).mp hx)).2⟩⟩
  obtain ⟨i, hi, rfl⟩ := List.getElem_of_mem hl
  have := (hfo i x).mp (by rw [List.getD_eq_getElem?_getD, List.getElem?_eq_getElem hi]; exact hx)
  rcases this with h' | h'
  · have := (h.bnd.get i).2 x h'; omega
  · exact (B3 _ _ h').2.2
theorem StB.lk {n : Nat} {st : Sta} (h : StB n st) {last first : List Nat} (hf : ∀ x ∈ first, x < n) : StB n ⟨st.sets, Pl.lk also st.fol last first⟩ := ⟨h.num, by show (Pl.lk also st.fol last first).length = n; rw [lk_len]; exact h.len, Bnd.lk hf _ _ h.bnd⟩
/-- A list that is well for n places. -/
def Ok (n : Nat) (l : List Nat) : Prop := Rz l ∧ ∀ x ∈ l, x < n
theorem Ok.nil (n : Nat) : Ok n [] := ⟨rz_nil, fun _ h => by cases h⟩
theorem Ok.mono {n n' : Nat} {l : List Nat} (h : Ok n l) (k : n ≤ n') : Ok n' l := ⟨h.1, fun x hx => Nat.lt_of_lt_of_le (h.2 x hx) k⟩
theorem Ok.also {n : Nat} {a b : List Nat} (h : Ok n a) (k : Ok n b) : Ok n (also a b) := ⟨also_rz _ _, fun x hx => (also_mem.mp hx).elim (h.2 x) (k.2 x)⟩
theorem Ok.len {n : Nat} {l : List Nat} (h : Ok n l) : l.length ≤ n := rz_short h.1 h.2
end Go.E.Pl
set_option linter.unusedVariables false
set_option linter.unusedSimpArgs false
set_option maxRecDepth 20000
namespace Go.E.Pl
open Go.H Go.E Go.E.Rg
attribute [local irreducible] BiN MkS ConvN LookN MapUpN CallV HC
/-- What a walk hands on. -/
def KW (T : TypeId) (F0 : Nat → Prop) (m0 V0 : Mem) (pb : Nat) (q : Part) (st' : Sta) (R : Ending → Mem → Prop) : Prop :=
  ∀ (m' V' : Mem) (sa : Option Addr) (sc : Nat) (fa : Option Addr) (fc : Nat) (fv : List Value) (a : Option Addr) (c : Nat) (a' : Option Addr) (c' : Nat), PSt T m' V' pb st' sa sc fa fc fv → Gone F0 m0 V0 (Ft pb sa fa) m' V' →
    CellsAt V' a (ints (ns q.fi)) → CellsAt V' a' (ints (ns q.la)) → R (.returned (.agg #[.slice a q.fi.length c, .slice a' q.la.length c', .bool q.nu])) m'
def WalkS (r : Rx) : Prop := ∀ {m V : Mem} {pb : Nat} {st : Sta} {sa : Option Addr} {sc : Nat} {fa : Option Addr} {fc : Nat} {fv : List Value} {n : Nat} {v : Value} {R : Ending → Mem → Prop},
  PSt T_place_Places m V pb st sa sc fa fc fv → StB n st → n + cnt r ≤ 10000 → ArgC V r v → KW T_place_Places (Ft pb sa fa) m V pb (wk also r st).1 (wk also r st).2 R →
    HC P place_Places_walk.id #[.pointer (some ⟨pb, 0, none⟩), rxA r.k r.S v] m R
section
variable {T : TypeId} {m0 V0 m V : Mem} {F0 : Nat → Prop} {pb : Nat} {st : Sta} {sa : Option Addr} {sc : Nat} {fa : Option Addr} {fc : Nat} {fv : List Value} {n : Nat}
/-- Both rows have grown by one. -/
theorem PSt.grow (h : PSt T m V pb st sa sc fa fc fv) (hB : StB n st) {S : Nat → Bool} {m10 : Mem} (hch : Chg (fun b => blk sa = some b ∨ blk fa = some b) m m10) {sa' : Option Addr} {sc' : Nat} {fa' : Option Addr} {fc' : Nat}
    (hos : Own m10 T_api_Set 4 sa' (n + 1) sc' (st.sets.flatMap four ++ four S)) (hof : Own m10 T_sl_int 1 fa' (n + 1) fc' (fv ++ [.slice none 0 0])) (hsa : blk sa' = blk sa ∨ Fresh m sa') (hfa : blk fa' = blk fa ∨ Fresh m fa') (hsf : ∀ b, blk sa' = some b → blk fa' ≠ some b) {K : Mem → Prop}
    (k : ∀ m', PSt T m' V pb ⟨st.sets ++ [S], st.fol ++ [[]]⟩ sa' sc' fa' fc' (fv ++ [.slice none 0 0]) → Gone (Ft pb sa fa) m V (Ft pb sa' fa') m' V → K m') :
    St1 m10 pb 0 (.slice sa' (n + 1) sc') fun m11 => St1 m11 pb (0 + 3) (.slice fa' (n + 1) fc') K := by
  have hobj := hch.eq _ _ h.obj (fun e => by rcases e with e | e; exact h.s1 e; exact h.f1 e)
  have hmp : m pb ≠ none := by rw [h.obj]; simp
  have s1 : blk sa' ≠ some pb := fun e => by
    rcases hsa with e2 | e2
    · rw [e2] at e; exact h.s1 e
    · exact hmp (e2 pb e)
  have f1 : blk fa' ≠ some pb := fun e => by
    rcases hfa with e2 | e2
    · rw [e2] at e; exact h.f1 e
    · exact hmp (e2 pb e)
  have hft : ∀ b, Ft pb sa' fa' b → Ft pb sa fa b ∨ m b = none := by
    rintro b (rfl | e | e)
    · exact .inl (.inl rfl)
    · rcases hsa with e2 | e2
      · exact .inl (.inr (.inl (by rw [← e2]; exact e)))
      · exact .inr (e2 b e)
    · rcases hfa with e2 | e2
      · exact .inl (.inr (.inr (by rw [← e2]; exact e)))
      · exact .inr (e2 b e)
  refine St1.to #[.slice sa' (n + 1) sc', .slice none 0 0, .slice none 0 0, .slice fa st.fol.length fc, .bool false] hobj (by simp) rfl (by simp) ?_
  refine St1.to #[.slice sa' (n + 1) sc', .slice none 0 0, .slice none 0 0, .slice fa' (n + 1) fc', .bool false] (set_same _ _ _) (by simp) rfl (by simp) ?_
  rw [set_set]
  have hc2 := Chg.set m10 pb (.cells #[.slice sa' (n + 1) sc', .slice none 0 0, .slice none 0 0, .slice fa' (n + 1) fc', .bool false] T (0, 0))
  have hkeep : ∀ b o, m b = some o → ¬ Ft pb sa fa b → (m10.set pb (.cells #[.slice sa' (n + 1) sc', .slice none 0 0, .slice none 0 0, .slice fa' (n + 1) fc', .bool false] T (0, 0))) b = some o := by
    intro b o hb hn
    rw [set_other _ _ (fun e => hn (.inl e))]
    exact hch.eq b o hb (fun e => by rcases e with e | e; exact hn (.inr (.inl e)); exact hn (.inr (.inr e)))
  have hVn : ∀ b, m b = none → V b = none := fun b hb => by
    cases e : V b with
    | none => rfl
    | some x => have := h.le b x e; rw [hb] at this; cases this
  have l1 : (st.sets ++ [S]).length = n + 1 := by rw [List.length_append, hB.num]; rfl
  have l2 : (st.fol ++ [[]]).length = n + 1 := by rw [List.length_append, hB.len]; rfl
  refine k _ ⟨fun b o hb => hkeep b o (h.le b o hb) (fun e => by rw [h.nV b e] at hb; cases hb), ?_, ?_, ?_, ?_, fun b hb => ?_, s1, f1, hsf⟩ ⟨⟨hkeep, fun b hb => hc2.live b (hch.live b hb)⟩, hft, Le.refl _, fun _ _ e => e⟩
  · show _ = some (Obj.cells #[.slice sa' (st.sets ++ [S]).length sc', .slice none 0 0, .slice none 0 0, .slice fa' (st.fol ++ [[]]).length fc', .bool false] T (0, 0))
    rw [l1, l2, set_same]
  · show Own _ T_api_Set 4 sa' (st.sets ++ [S]).length sc' ((st.sets ++ [S]).flatMap four)
    rw [l1, List.flatMap_append, show [S].flatMap four = four S by simp]
    exact hos.chg hc2 (fun b hb e => s1 (by rw [hb, show b = pb from e]))
  · show Own _ T_sl_int 1 fa' (st.fol ++ [[]]).length fc' _
    rw [l2]
    exact hof.chg hc2 (fun b hb e => f1 (by rw [hb, show b = pb from e]))
  · refine ⟨by show (fv ++ _).length = (st.fol ++ [[]]).length; rw [List.length_append, List.length_append, h.rows.1]; rfl, fun i l hi => ?_⟩
    have hi : (st.fol ++ [[]])[i]? = some l := hi
    by_cases e : i < st.fol.length
    · rw [List.getElem?_append_left e] at hi
      obtain ⟨a, c, g1, g2⟩ := h.rows.2 i l hi
      exact ⟨a, c, by rw [List.getElem?_append_left (by rw [h.rows.1]; exact e)]; exact g1, g2⟩
    · rw [List.getElem?_append_right (by omega)] at hi
      have e2 : i - st.fol.length = 0 := by
        cases e3 : i - st.fol.length with
        | zero => rfl
        | succ x => rw [e3] at hi; cases hi
      rw [e2] at hi
      cases hi
      refine ⟨none, 0, ?_, CellsAt.empty _ _⟩
      rw [List.getElem?_append_right (by rw [h.rows.1]; omega), h.rows.1, e2]; rfl
  · rcases hft b hb with e | e
    · exact h.nV b e
    · exact hVn b e
/-- The end of one set. -/
theorem leaf_k1 (h : PSt T_place_Places m V pb st sa sc fa fc fv) (g0 : Gone F0 m0 V0 (Ft pb sa fa) m V) {b4 : Nat} {x0 x1 x2 : Value} (n4 : m0 b4 = none) (h4 : Loc (Ft pb sa fa) m V b4 (.cells #[x0, x1, x2] T_place_part (0, 0))) {R : Ending → Mem → Prop}
    (k : KW T_place_Places F0 m0 V0 pb ⟨[n], [n], false⟩ st R) : place_Places_walk.k1 b4 0 ((n : Nat) : Int) R m := by
  unfold place_Places_walk.k1
  intro b45 hb45 b47 hb47
  have hne : b47 ≠ b45 := by rintro rfl; rw [set_same] at hb47; cases hb47
  have hb47' : m b47 = none := by rw [set_other _ _ hne] at hb47; exact hb47
  have hle : Le m ((m.set b45 (.cells #[.int .i64 (n : Int)] T_int (0, 0))).set b47 (.cells #[.int .i64 (n : Int)] T_int (0, 0))) := (Le.set hb45 _).trans (Le.set hb47 _)
  have c45 : CellsAt ((m.set b45 (.cells #[.int .i64 (n : Int)] T_int (0, 0))).set b47 (.cells #[.int .i64 (n : Int)] T_int (0, 0))) (some ⟨b45, 0, none⟩) (ints (ns [n])) := cells_at ((set_other _ _ hne.symm).trans (set_same _ _ _)) rfl
  have c47 : CellsAt ((m.set b45 (.cells #[.int .i64 (n : Int)] T_int (0, 0))).set b47 (.cells #[.int .i64 (n : Int)] T_int (0, 0))) (some ⟨b47, 0, none⟩) (ints (ns [n])) := cells_at (set_same _ _ _) rfl
  generalize (m.set b45 (.cells #[.int .i64 (n : Int)] T_int (0, 0))).set b47 (.cells #[.int .i64 (n : Int)] T_int (0, 0)) = m2 at hle c45 c47 ⊢
  obtain ⟨h2, g2⟩ := h.see hle
  have h42 := h4.go g2
  refine ret3 h42.at_ ?_
  exact k _ _ sa sc fa fc fv (some ⟨b45, 0, none⟩) 1 (some ⟨b47, 0, none⟩) 1 (h2.put h42 _) ((g0.trans g2).locw n4 _) (CellsAt.see c45 (fun b e => by cases e; exact hb45)) (CellsAt.see c47 (fun b e => by cases e; exact hb47'))
end
end Go.E.Pl
set_option linter.unusedVariables false
set_option linter.unusedSimpArgs false
set_option maxRecDepth 20000
namespace Go.E.Pl
open Go.H Go.E Go.E.Rg
attribute [local irreducible] BiN MkS ConvN LookN MapUpN CallV HC
theorem lk_same {r m' : Mem} {K : Mem → Prop} (h : Le r m') (k : K r) : Lk r m' K := ⟨r, Le.refl _, h, k⟩
section
variable {T : TypeId} {m V : Mem} {pb : Nat} {st : Sta} {sa : Option Addr} {sc : Nat} {fa : Option Addr} {fc : Nat} {fv : List Value} {n : Nat} {S : Nat → Bool}
theorem app1 (h : PSt T m V pb st sa sc fa fc fv) (hB : StB n st) (hn : n ≤ 10000) {M1 : Mem} (hle : Le m M1) {b32 : Nat} {t : TypeId} {fr : Nat × Nat} (c32 : M1 b32 = some (.cells (four S).toArray t fr)) {ty : TypeId} {cs : Array Bool} {K : Value → Mem → Prop} {Pn : List PanicEntry → Mem → Prop}
    (k : ∀ sa' sc' m', Chg (fun b => blk sa = some b) M1 m' → Own m' T_api_Set 4 sa' (n + 1) sc' (st.sets.flatMap four ++ four S) → (blk sa' = blk sa ∨ Fresh M1 sa') → K (.slice sa' (n + 1) sc') m') :
    BiN P .append #[T_sl_api_Set, T_sl_api_Set] ty cs #[.slice sa st.sets.length sc, .slice (some ⟨b32, 0, none⟩) 1 1] M1 K Pn := by
  have ho := h.os
  rw [hB.num] at ho ⊢
  refine append_own eSet (Own.le hle ho) (news := four S) (cells_at c32 rfl) rfl (by intro v hv; unfold four at hv; simp only [List.mem_cons, List.not_mem_nil, or_false] at hv; rcases hv with rfl | rfl | rfl | rfl <;> rfl) (by decide) (by omega) (by omega) ?_
  intro a' c' m' ho' hg
  exact k a' c' m' hg.1 ho' hg.2
theorem app2 (h : PSt T m V pb st sa sc fa fc fv) (hB : StB n st) (hn : n ≤ 10000) {M1 m' M2 : Mem} (hle : Le m M1) {sa' : Option Addr} {sc' : Nat} (hch : Chg (fun b => blk sa = some b) M1 m') (hos : Own m' T_api_Set 4 sa' (n + 1) sc' (st.sets.flatMap four ++ four S)) (hsa : blk sa' = blk sa ∨ Fresh M1 sa')
    (hle2 : Le m' M2) {b38 : Nat} {t : TypeId} {fr : Nat × Nat} (c38 : M2 b38 = some (.cells #[.slice none 0 0] t fr)) {ty : TypeId} {cs : Array Bool} {K : Value → Mem → Prop} {Pn : List PanicEntry → Mem → Prop}
    (k : ∀ fa' fc' m10, Chg (fun b => blk sa = some b ∨ blk fa = some b) m m10 → Own m10 T_api_Set 4 sa' (n + 1) sc' (st.sets.flatMap four ++ four S) → Own m10 T_sl_int 1 fa' (n + 1) fc' (fv ++ [.slice none 0 0]) → (blk sa' = blk sa ∨ Fresh m sa') → (blk fa' = blk fa ∨ Fresh m fa') → (∀ b, blk sa' = some b → blk fa' ≠ some b) → K (.slice fa' (n + 1) fc') m10) :
    BiN P .append #[T_sl_sl_int, T_sl_sl_int] ty cs #[.slice fa st.fol.length fc, .slice (some ⟨b38, 0, none⟩) 1 1] M2 K Pn := by
  have ho := h.of
  rw [hB.len] at ho ⊢
  have hof : Own M2 T_sl_int 1 fa n fc fv := Own.le hle2 ((Own.le hle ho).chg hch (fun b hb e => h.sf b e hb))
  refine append_own eSI hof (news := [.slice none 0 0]) (cells_at c38 rfl) rfl (by intro v hv; simp at hv; subst hv; rfl) (by decide) (by omega) (by omega) ?_
  intro fa' fc' m10 ho' hg
  have hcm : Chg (fun b => blk sa = some b) m m' := (hle.chg _).trans hch (fun _ _ e => e)
  have hap : ∀ b, blk sa' = some b → blk fa ≠ some b := by
    intro b hb e
    rcases hsa with e2 | e2
    · rw [e2] at hb; exact h.sf b hb e
    · exact hle.live (h.of.live b e) (e2 b hb)
  refine k fa' fc' m10 ?_ ((Own.le hle2 hos).chg hg.1 (fun b hb e => hap b hb e)) ho' (hsa.imp id (Fresh.le hle)) ?_ (fun b hb e => ?_)
  · refine ⟨fun b o hb hn => ?_, fun b hb => hg.1.live b (hle2.live (hcm.live b hb))⟩
    exact hg.1.eq b o (hle2 b o (hcm.eq b o hb (fun e => hn (.inl e)))) (fun e => hn (.inr e))
  · rcases hg.2 with e | e
    · exact .inl e
    · refine .inr (fun b hb => ?_)
      have := e b hb
      cases e2 : m b with
      | none => rfl
      | some o => exact absurd this (hle2.live (hcm.live b (by rw [e2]; simp)))
  · rcases hg.2 with e2 | e2
    · rw [e2] at e; exact hap b hb e
    · exact (Own.le hle2 hos).live b hb (e2 b e)
end
theorem walk_leaf {S : Nat → Bool} : WalkS (.mk 1 S []) := by
  intro m V pb st sa sc fa fc fv n v R h hB hn ha k
  have hn : n ≤ 10000 := by omega
  obtain ⟨prs, a, c, hps, rfl, hl, hb, hc, hp⟩ := ha.inv
  have e : wk also (.mk 1 S []) st = (⟨[n], [n], false⟩, ⟨st.sets ++ [S], st.fol ++ [[]]⟩) := by unfold wk; rw [if_pos rfl, hB.num]
  rw [e] at k
  show HC P place_Places_walk.id #[.pointer (some ⟨pb, 0, none⟩), rxA 1 S (.slice a prs.length c)] m R
  refine place_Places_walk.ok _ _ _ _ _ _ _ _ _ _ _ ?_
  refine newRx ?_
  intro b3 m1 hb3 hle1 h3
  obtain ⟨p1, g1, l3⟩ := h.mine hle1 hb3 h3
  intro b4 hb4
  obtain ⟨p2, g2, l4⟩ := p1.mine (Le.set hb4 (.cells #[.slice none 0 0, .slice none 0 0, .bool false] T_place_part (0, 0))) hb4 (set_same _ _ _)
  have l32 := l3.go g2
  generalize m1.set b4 (.cells #[.slice none 0 0, .slice none 0 0, .bool false] T_place_part (0, 0)) = m2 at p2 g2 l4 l32 ⊢
  have g02 := g1.trans g2
  have n4 : m b4 = none := hle1.new hb4
  refine LdV.s0 l32.at_ (UnI.mk ?_)
  refine BrEt rfl ?_
  show LdV m2 pb 0 _
  refine LdV.s0 p2.obj (UnS.mk ?_)
  have hr : Le (on m2 fun b => ¬ (blk sa = some b ∨ blk fa = some b)) m2 := on_le _ _
  have hrp : (on m2 fun b => ¬ (blk sa = some b ∨ blk fa = some b)) pb = _ := (on_in (fun e => by rcases e with e | e; exact p2.s1 e; exact p2.f1 e)).trans p2.obj
  have hr3 : (on m2 fun b => ¬ (blk sa = some b ∨ blk fa = some b)) b3 = _ := (on_in (fun e => l32.out (.inr e))).trans l32.at_
  have hrc : ∀ {m' : Mem}, Chg (fun b => blk sa = some b ∨ blk fa = some b) m2 m' → Le (on m2 fun b => ¬ (blk sa = some b ∨ blk fa = some b)) m' := by
    intro m' hch b o hbo
    obtain ⟨h1, h2⟩ := on_live hbo
    exact hch.eq b o h2 h1
  refine ⟨_, hr, ?_⟩
  generalize (on m2 fun b => ¬ (blk sa = some b ∨ blk fa = some b)) = r at hr hrp hr3 hrc ⊢
  show LdV r pb 0 _
  refine LdV.s0 hrp (UnS.mk ?_)
  refine LdV.s1 hr3 (UnI.mk (LdV.s2 hr3 (UnI.mk (LdV.s3 hr3 (UnI.mk (LdV.s4 hr3 (UnI.mk ?_)))))))
  show LdV r pb (0 + 3) _
  refine LdV.s3 hrp (UnS.mk ?_)
  -- the end
  have fin : ∀ {m10 : Mem} {sa' : Option Addr} {sc' : Nat} {fa' : Option Addr} {fc' : Nat}, Chg (fun b => blk sa = some b ∨ blk fa = some b) m2 m10 → Own m10 T_api_Set 4 sa' (n + 1) sc' (st.sets.flatMap four ++ four S) → Own m10 T_sl_int 1 fa' (n + 1) fc' (fv ++ [.slice none 0 0]) → (blk sa' = blk sa ∨ Fresh m2 sa') → (blk fa' = blk fa ∨ Fresh m2 fa') → (∀ b, blk sa' = some b → blk fa' ≠ some b) →
      St1 m10 pb 0 (.slice sa' (n + 1) sc') fun m11 => St1 m11 pb (0 + 3) (.slice fa' (n + 1) fc') fun m12 => place_Places_walk.k1 b4 0 ((st.sets.length : Nat) : Int) R m12 := by
    intro m10 sa' sc' fa' fc' h1 h2 h3 h4 h5 h6
    refine p2.grow hB h1 h2 h3 h4 h5 h6 ?_
    intro m' hp' hg'
    rw [hB.num]
    exact leaf_k1 hp' (g02.trans hg') n4 (l4.go hg') k
  have chS : ∀ {M1 m' : Mem}, Le m2 M1 → Chg (fun b => blk sa = some b) M1 m' → Chg (fun b => blk sa = some b ∨ blk fa = some b) m2 m' := fun h1 h2 => ((h1.chg _).trans h2 (fun _ _ e => e)).mono (fun _ e => .inl e)
  refine ⟨?_, ?_⟩
  · intro b32 hb32
    refine lk_same (hr.trans (Le.set hb32 _)) ?_
    refine ⟨?_, ?_⟩
    · refine app1 p2 hB hn (Le.set hb32 _) (set_same _ _ _) ?_
      intro sa' sc' m6 hch hos hsa
      refine UnS.mk ?_
      have hm6 := hrc (chS (Le.set hb32 _) hch)
      refine lk_same hm6 ?_
      intro b38 hb38
      refine lk_same (hm6.trans (Le.set hb38 _)) ?_
      refine app2 p2 hB hn (Le.set hb32 _) hch hos hsa (Le.set hb38 _) (set_same _ _ _) ?_
      intro fa' fc' m10 q1 q2 q3 q4 q5 q6
      refine UnS.mk ?_
      exact fin q1 q2 q3 q4 q5 q6
    · intro b38 hb38
      have hle := (Le.set hb32 (.cells #[.int .u64 (L S 0), .int .u64 (L S 1), .int .u64 (L S 2), .int .u64 (L S 3)] T_api_Set (0, 0))).trans (Le.set hb38 (.cells #[.slice none 0 0] T_sl_int (0, 0)))
      refine lk_same (hr.trans hle) ?_
      have hne : b32 ≠ b38 := by rintro rfl; rw [set_same] at hb38; cases hb38
      have w38 : m2 b38 = none := by rw [set_other _ _ (Ne.symm hne)] at hb38; exact hb38
      refine app1 p2 hB hn hle ((set_other _ _ hne).trans (set_same _ _ _)) ?_
      intro sa' sc' m6 hch hos hsa
      refine UnS.mk ?_
      refine lk_same (hrc (chS hle hch)) ?_
      refine app2 p2 hB hn hle hch hos hsa (Le.refl _) (hch.eq _ _ (set_same _ _ _) (fun e => p2.os.live b38 e w38)) ?_
      intro fa' fc' m10 q1 q2 q3 q4 q5 q6
      refine UnS.mk ?_
      exact fin q1 q2 q3 q4 q5 q6
  · intro b38 hb38
    refine lk_same (hr.trans (Le.set hb38 _)) ?_
    intro b32 hb32
    have hle := (Le.set hb38 (.cells #[.slice none 0 0] T_sl_int (0, 0))).trans (Le.set hb32 (.cells #[.int .u64 (L S 0), .int .u64 (L S 1), .int .u64 (L S 2), .int .u64 (L S 3)] T_api_Set (0, 0)))
    refine lk_same (hr.trans hle) ?_
    have hne : b38 ≠ b32 := by rintro rfl; rw [set_same] at hb32; cases hb32
    refine app1 p2 hB hn hle (set_same _ _ _) ?_
    intro sa' sc' m6 hch hos hsa
    refine UnS.mk ?_
    refine lk_same (hrc (chS hle hch)) ?_
    refine app2 p2 hB hn hle hch hos hsa (Le.refl _) (hch.eq _ _ ((set_other _ _ hne).trans (set_same _ _ _)) (fun e => p2.os.live b38 e hb38)) ?_
    intro fa' fc' m10 q1 q2 q3 q4 q5 q6
    refine UnS.mk ?_
    exact fin q1 q2 q3 q4 q5 q6
end Go.E.Pl
set_option linter.unusedVariables false
set_option linter.unusedSimpArgs false
set_option maxRecDepth 20000
namespace Go.E.Pl
open Go.H Go.E Go.E.Rg
attribute [local irreducible] BiN MkS ConvN LookN MapUpN CallV HC
theorem copyPt {m : Mem} {x0 x1 x2 : Value} {a : Option Addr} {l c : Nat} {a' : Option Addr} {l' c' : Nat} {z : Bool} {T : TypeId} {K : Nat → Mem → Prop} (h : ∀ b m1, m b = none → Le m m1 → m1 b = some (.cells (pO a l c a' l' c' z) T (0, 0)) → K b m1) :
    NewC m #[x0, x1, x2] T fun b m1 => St1 m1 b 0 (.slice a l c) fun m2 => St1 m2 b 1 (.slice a' l' c') fun m3 => St1 m3 b 2 (.bool z) fun m4 => K b m4 := by
  intro b hb
  refine put3 (set_same _ _ _) ?_
  rw [set_set]
  exact h b _ hb (Le.set hb _) (set_same _ _ _)
abbrev zP : Array Value := #[.slice none 0 0, .slice none 0 0, .bool false]
/-- A walk under way: what is told of the parts so far lies in block b6. -/
structure Rnd (F0 : Nat → Prop) (m0 V0 : Mem) (pb b4 b6 : Nat) (m V : Mem) (st : Sta) (n : Nat) (fi la : List Nat) (nu : Bool) (sa : Option Addr) (sc : Nat) (fa : Option Addr) (fc : Nat) (fv : List Value) (oa : Option Addr) (oc : Nat) (ol : Option Addr) (olc : Nat) : Prop where
  p : PSt T_place_Places m V pb st sa sc fa fc fv
  g : Gone F0 m0 V0 (Ft pb sa fa) m V
  b : StB n st
  n4 : m0 b4 = none
  n6 : m0 b6 = none
  l4 : Loc (Ft pb sa fa) m V b4 (.cells zP T_place_part (0, 0))
  l6 : Loc (Ft pb sa fa) m V b6 (.cells (pO oa fi.length oc ol la.length olc nu) T_place_part (0, 0))
  ne : b6 ≠ b4
  cf : CellsAt V oa (ints (ns fi))
  cl : CellsAt V ol (ints (ns la))
  kf : Ok n fi
  kl : Ok n la
section
variable {F0 : Nat → Prop} {m0 V0 : Mem} {pb b4 b6 : Nat} {m V m' V' : Mem} {st st' : Sta} {n n' : Nat} {fi la : List Nat} {nu : Bool} {sa sa' : Option Addr} {sc sc' : Nat} {fa fa' : Option Addr} {fc fc' : Nat} {fv fv' : List Value} {oa : Option Addr} {oc : Nat} {ol : Option Addr} {olc : Nat}
theorem Rnd.go (h : Rnd F0 m0 V0 pb b4 b6 m V st n fi la nu sa sc fa fc fv oa oc ol olc) (p : PSt T_place_Places m' V' pb st' sa' sc' fa' fc' fv') (g : Gone (Ft pb sa fa) m V (Ft pb sa' fa') m' V') (hb : StB n' st') (hn : n ≤ n') :
    Rnd F0 m0 V0 pb b4 b6 m' V' st' n' fi la nu sa' sc' fa' fc' fv' oa oc ol olc :=
  ⟨p, h.g.trans g, hb, h.n4, h.n6, h.l4.go g, h.l6.go g, h.ne, h.cf.le g.le, h.cl.le g.le, h.kf.mono hn, h.kl.mono hn⟩
theorem Rnd.put (h : Rnd F0 m0 V0 pb b4 b6 m V st n fi la nu sa sc fa fc fv oa oc ol olc) {fi' la' : List Nat} {nu' : Bool} {oa' : Option Addr} {oc' : Nat} {ol' : Option Addr} {olc' : Nat} (cf : CellsAt V oa' (ints (ns fi'))) (cl : CellsAt V ol' (ints (ns la'))) (kf : Ok n fi') (kl : Ok n la') :
    Rnd F0 m0 V0 pb b4 b6 (m.set b6 (.cells (pO oa' fi'.length oc' ol' la'.length olc' nu') T_place_part (0, 0))) V st n fi' la' nu' sa sc fa fc fv oa' oc' ol' olc' :=
  ⟨h.p.put h.l6 _, h.g.locw h.n6 _, h.b, h.n4, h.n6, h.l4.other h.ne, h.l6.put _, h.ne, cf, cl, kf, kl⟩
/-- The end of the loop. -/
theorem Rnd.end_ (h : Rnd F0 m0 V0 pb b4 b6 m V st n fi la nu sa sc fa fc fv oa oc ol olc) {R : Ending → Mem → Prop} (k : KW T_place_Places F0 m0 V0 pb ⟨fi, la, nu⟩ st R) :
    LdV m b6 0 fun v => UnS v fun x0a x0l x0c => LdV m b6 (0 + 1) fun v => UnS v fun x1a x1l x1c => LdV m b6 (0 + 2) fun v => UnB v fun x2 =>
    St1 m b4 0 (.slice x0a x0l x0c) fun m1 => St1 m1 b4 (0 + 1) (.slice x1a x1l x1c) fun m2 => St1 m2 b4 (0 + 2) (.bool x2) fun m3 =>
    LdV m3 b4 0 fun v => UnS v fun res0_0a res0_0l res0_0c => LdV m3 b4 (0 + 1) fun v => UnS v fun res0_1a res0_1l res0_1c => LdV m3 b4 (0 + 2) fun v => UnB v fun res0_2 =>
    R (.returned (.agg #[.slice res0_0a res0_0l res0_0c, .slice res0_1a res0_1l res0_1c, .bool res0_2])) m3 := by
  refine get3 h.l6.at_ ?_
  refine ret3 h.l4.at_ ?_
  exact k _ _ sa sc fa fc fv oa oc ol olc (h.p.put h.l4 _) (h.g.locw h.n4 _) h.cf h.cl
end
section
variable {F0 : Nat → Prop} {m0 V0 : Mem} {pb b4 b6 b9 : Nat} {m V : Mem} {st : Sta} {n : Nat} {fi la : List Nat} {nu : Bool} {sa : Option Addr} {sc : Nat} {fa : Option Addr} {fc : Nat} {fv : List Value} {oa : Option Addr} {oc : Nat} {ol : Option Addr} {olc : Nat}
theorem Rnd.side (h : Rnd F0 m0 V0 pb b4 b6 m V st n fi la nu sa sc fa fc fv oa oc ol olc) {o : Obj} (l9 : Loc (Ft pb sa fa) m V b9 o) (n9 : m0 b9 = none) (h6 : b9 ≠ b6) (h4 : b9 ≠ b4) (o' : Obj) : Rnd F0 m0 V0 pb b4 b6 (m.set b9 o') V st n fi la nu sa sc fa fc fv oa oc ol olc :=
  ⟨h.p.put l9 _, h.g.locw n9 _, h.b, h.n4, h.n6, h.l4.other h4, h.l6.other h6, h.ne, h.cf, h.cl, h.kf, h.kl⟩
variable {q : Part} {qa : Option Addr} {qc : Nat} {qla : Option Addr} {qlc : Nat} {xa : Option Addr} {xl xc : Nat} {n1 i : Int} {R : Ending → Mem → Prop}
variable {K : Option Addr → Nat → Nat → Nat → Nat → Option Addr → Nat → Nat → Int → Int → Mem → Prop}
theorem cat_k4 {fi' la' : List Nat} (h : Rnd F0 m0 V0 pb b4 b6 m V st n fi' la nu sa sc fa fc fv oa oc ol olc) (h9 : m b9 = some (.cells (pO qa q.fi.length qc qla la'.length qlc q.nu) T_place_part (0, 0))) (hcl : CellsAt V qla (ints (ns la'))) (hkl : Ok n la')
    (hK : ∀ {m' V' : Mem} {sa : Option Addr} {sc : Nat} {fa : Option Addr} {fc : Nat} {fv : List Value} {oa : Option Addr} {oc : Nat} {ol : Option Addr} {olc : Nat}, Rnd F0 m0 V0 pb b4 b6 m' V' st n fi' la' (nu && q.nu) sa sc fa fc fv oa oc ol olc → K (some ⟨pb, 0, none⟩) b4 0 b6 0 xa xl xc n1 (IntKind.i64.wrap (i + 1)) m') :
    place_Places_walk.k4 K (some ⟨pb, 0, none⟩) b4 0 b6 0 b9 0 xa xl xc n1 i R m := by
  unfold place_Places_walk.k4
  refine LdV.s0 h.l6.at_ (UnS.mk ?_)
  refine LdV.s1 h9 (UnS.mk ?_)
  refine LdV.s2 h.l6.at_ (UnB.mk ?_)
  refine Br.mk (fun hz => ?_) (fun hz => ?_)
  · refine LdV.s2 h9 (UnB.mk ?_)
    refine put3 h.l6.at_ ?_
    have e : (nu && q.nu) = q.nu := by rw [hz]; rfl
    rw [e] at hK
    exact hK (h.put h.cf hcl h.kf hkl)
  · refine put3 h.l6.at_ ?_
    have e : (nu && q.nu) = false := by rw [hz]; rfl
    rw [e] at hK
    exact hK (h.put h.cf hcl h.kf hkl)
theorem cat_k3 (hn : n ≤ 10000) {fi' : List Nat} (h : Rnd F0 m0 V0 pb b4 b6 m V st n fi' la nu sa sc fa fc fv oa oc ol olc) (l9 : Loc (Ft pb sa fa) m V b9 (.cells (pO qa q.fi.length qc qla q.la.length qlc q.nu) T_place_part (0, 0))) (n9 : m0 b9 = none) (h6 : b9 ≠ b6) (h4 : b9 ≠ b4) (cql : CellsAt V qla (ints (ns q.la))) (kql : Ok n q.la)
    (hK : ∀ {m' V' : Mem} {sa : Option Addr} {sc : Nat} {fa : Option Addr} {fc : Nat} {fv : List Value} {oa : Option Addr} {oc : Nat} {ol : Option Addr} {olc : Nat}, Rnd F0 m0 V0 pb b4 b6 m' V' st n fi' (if q.nu = true then also la q.la else q.la) (nu && q.nu) sa sc fa fc fv oa oc ol olc → K (some ⟨pb, 0, none⟩) b4 0 b6 0 xa xl xc n1 (IntKind.i64.wrap (i + 1)) m') :
    place_Places_walk.k3 K (some ⟨pb, 0, none⟩) b4 0 b6 0 b9 0 xa xl xc n1 i R m := by
  unfold place_Places_walk.k3
  refine LdV.s2 l9.at_ (UnB.mk ?_)
  refine Br.mk (fun hz => ?_) (fun hz => ?_)
  · rw [if_pos hz] at hK
    refine LdV.s1 h.l6.at_ (UnS.mk ?_)
    refine LdV.s1 l9.at_ (UnS.mk ?_)
    have b1 := h.kl.len
    have b2 := kql.len
    refine also_spec (h.cl.le h.p.le) rfl (cql.le h.p.le) rfl (by omega) ?_
    intro m1 a' c' hle1 hc1 hf1
    dsimp only [Cont]
    refine UnS.mk ?_
    obtain ⟨p1, g1⟩ := h.p.see hle1
    have h1 := h.go p1 g1 h.b (Nat.le_refl _)
    have l91 := l9.go g1
    refine St1.to (pO qa q.fi.length qc a' (also la q.la).length c' q.nu) l91.at_ (by simp) rfl (by simp) ?_
    exact cat_k4 (la' := also la q.la) (h1.side l91 n9 h6 h4 _) (set_same _ _ _) (CellsAt.see hc1 hf1) (h.kl.also kql) hK
  · rw [if_neg (by rw [hz]; decide)] at hK
    exact cat_k4 h l9.at_ cql kql hK
theorem cat_mid (hn : n ≤ 10000) (h : Rnd F0 m0 V0 pb b4 b6 m V st n fi la nu sa sc fa fc fv oa oc ol olc) (l9 : Loc (Ft pb sa fa) m V b9 (.cells (pO qa q.fi.length qc qla q.la.length qlc q.nu) T_place_part (0, 0))) (n9 : m0 b9 = none) (h6 : b9 ≠ b6) (h4 : b9 ≠ b4) (cq : CellsAt V qa (ints (ns q.fi))) (kq : Ok n q.fi) (cql : CellsAt V qla (ints (ns q.la))) (kql : Ok n q.la)
    (hK : ∀ {m' V' : Mem} {sa : Option Addr} {sc : Nat} {fa : Option Addr} {fc : Nat} {fv : List Value} {oa : Option Addr} {oc : Nat} {ol : Option Addr} {olc : Nat}, Rnd F0 m0 V0 pb b4 b6 m' V' st n (if nu = true then also fi q.fi else fi) (if q.nu = true then also la q.la else q.la) (nu && q.nu) sa sc fa fc fv oa oc ol olc → K (some ⟨pb, 0, none⟩) b4 0 b6 0 xa xl xc n1 (IntKind.i64.wrap (i + 1)) m') :
    LdV m b6 (0 + 2) fun v => UnB v fun x69 => Br x69 (
        LdV m b6 0 fun v =>
        UnS v fun x71a x71l x71c =>
        LdV m b9 0 fun v =>
        UnS v fun x73a x73l x73c =>
        HC P place_also.id #[.slice x71a x71l x71c, .slice x73a x73l x73c] m (Cont (fun v m14 =>
        UnS v fun x74a x74l x74c =>
        St1 m14 b6 0 (.slice x74a x74l x74c) fun m15 =>
        place_Places_walk.k3 K (some ⟨pb, 0, none⟩) b4 0 b6 0 b9 0 xa xl xc n1 i R m15) (panicR R))) (
        place_Places_walk.k3 K (some ⟨pb, 0, none⟩) b4 0 b6 0 b9 0 xa xl xc n1 i R m) := by
  refine LdV.s2 h.l6.at_ (UnB.mk ?_)
  refine Br.mk (fun hz => ?_) (fun hz => ?_)
  · rw [if_pos hz] at hK
    refine LdV.s0 h.l6.at_ (UnS.mk ?_)
    refine LdV.s0 l9.at_ (UnS.mk ?_)
    have b1 := h.kf.len
    have b2 := kq.len
    refine also_spec (h.cf.le h.p.le) rfl (cq.le h.p.le) rfl (by omega) ?_
    intro m1 a' c' hle1 hc1 hf1
    dsimp only [Cont]
    refine UnS.mk ?_
    obtain ⟨p1, g1⟩ := h.p.see hle1
    have h1 := h.go p1 g1 h.b (Nat.le_refl _)
    have l91 := l9.go g1
    refine St1.to (pO a' (also fi q.fi).length c' ol la.length olc nu) h1.l6.at_ (by simp) rfl (by simp) ?_
    exact cat_k3 hn (fi' := also fi q.fi) (h1.put (CellsAt.see hc1 hf1) h1.cl (h.kf.also kq) h1.kl) (l91.other (Ne.symm h6)) n9 h6 h4 (cql.le g1.le) kql hK
  · rw [if_neg (by rw [hz]; decide)] at hK
    exact cat_k3 hn h l9 n9 h6 h4 cql kql hK
end
theorem walk_cat {S : Nat → Bool} {ps : List Rx} (ih : ∀ a ∈ ps, form a = true ∧ WalkS a) : WalkS (.mk 2 S ps) := by
  intro m V pb st sa sc fa fc fv n v R h hB hn ha k
  have hcnt : cnt (.mk 2 S ps) = cntL ps := by unfold cnt cntL; rw [setsOf, if_neg (by decide), if_pos (.inl rfl)]
  rw [hcnt] at hn
  obtain ⟨prs, a, c, rfl, rfl, hl, hb, hc, hp⟩ := ha.inv
  have ewk : wk also (.mk 2 S (prs.map (·.1))) st = wkC also (prs.map (·.1)) ⟨[], [], true⟩ st := by unfold wk; rw [if_neg (by decide), if_pos rfl]
  rw [ewk] at k
  show HC P place_Places_walk.id #[.pointer (some ⟨pb, 0, none⟩), rxA 2 S (.slice a prs.length c)] m R
  refine place_Places_walk.ok _ _ _ _ _ _ _ _ _ _ _ ?_
  refine newRx ?_
  intro b3 m1 hb3 hle1 h3
  obtain ⟨p1, g1, l3⟩ := h.mine hle1 hb3 h3
  intro b4 hb4
  obtain ⟨p2, g2, l4⟩ := p1.mine (Le.set hb4 (.cells zP T_place_part (0, 0))) hb4 (set_same _ _ _)
  have l32 := l3.go g2
  generalize m1.set b4 (.cells zP T_place_part (0, 0)) = m2 at p2 g2 l4 l32 ⊢
  have g02 := g1.trans g2
  have n4 : m b4 = none := hle1.new hb4
  refine LdV.s0 l32.at_ (UnI.mk ?_)
  refine BrEf (by decide) ?_
  refine BrEt rfl ?_
  refine copyPt ?_
  intro b6 m6 hb6 hle6 h6
  obtain ⟨p6, g6, l6⟩ := p2.mine hle6 hb6 h6
  have n6 : m b6 = none := g02.chg.new hb6
  refine LdV.s5 (l32.go g6).at_ (UnS.mk ?_)
  have hne64 : b6 ≠ b4 := by rintro rfl; rw [l4.at_] at hb6; cases hb6
  refine ⟨fun N p x4b x4o o6b o6o xa xl xc n1 i mm => p = some ⟨pb, 0, none⟩ ∧ x4b = b4 ∧ x4o = 0 ∧ o6b = b6 ∧ o6o = 0 ∧ xa = a ∧ xl = prs.length ∧ n1 = ((prs.length : Nat) : Int) ∧
      ∃ (j : Nat) (Vm : Mem) (stj : Sta) (nj : Nat) (fi la : List Nat) (nu : Bool) (sa' : Option Addr) (sc' : Nat) (fa' : Option Addr) (fc' : Nat) (fv' : List Value) (oa : Option Addr) (oc : Nat) (ol : Option Addr) (olc : Nat), i = (j : Int) ∧ j ≤ prs.length ∧ N = prs.length - j ∧
        Rnd (Ft pb sa fa) m V pb b4 b6 mm Vm stj nj fi la nu sa' sc' fa' fc' fv' oa oc ol olc ∧ nj + cntL ((prs.map (·.1)).drop j) ≤ 10000 ∧ wkC also ((prs.map (·.1)).drop j) ⟨fi, la, nu⟩ stj = wkC also (prs.map (·.1)) ⟨[], [], true⟩ st, prs.length,
    ⟨rfl, rfl, rfl, rfl, rfl, rfl, rfl, rfl, 0, V, st, n, [], [], true, sa, sc, fa, fc, fv, none, 0, none, 0, rfl, by omega, by omega, ⟨p6, g02.trans g6, hB, n4, n6, l4.go g6, l6, hne64, CellsAt.empty _ _, CellsAt.empty _ _, Ok.nil _, Ok.nil _⟩, by simpa using hn, by simp⟩, ?_⟩
  rintro N p x4b x4o o6b o6o xa xl xc n1 i mm ⟨rfl, rfl, rfl, rfl, rfl, rfl, rfl, rfl, j, Vm, stj, nj, fi, la, nu, sa', sc', fa', fc', fv', oa, oc, ol, olc, rfl, hj, rfl, hr, hnj, hwk⟩
  have hlen : (prs.map (·.1)).length = prs.length := List.length_map _
  unfold place_Places_walk.l2B
  refine BrD (fun hlt => ?_) (fun hge => ?_)
  · have hjl : j < prs.length := by omega
    have hpm := List.getElem_mem hjl
    obtain ⟨a', l', c', hv⟩ := (hp _ hpm).sl
    obtain ⟨hfj, hwj⟩ := ih prs[j].1 (List.mem_map.mpr ⟨_, hpm, rfl⟩)
    have hdrop : (prs.map (·.1)).drop j = prs[j].1 :: (prs.map (·.1)).drop (j + 1) := by
      rw [List.drop_eq_getElem_cons (by rw [hlen]; exact hjl), List.getElem_map]
    rw [hdrop, cntL_cons] at hnj
    rw [hdrop] at hwk
    have haj := hp _ hpm
    rw [hv] at haj
    refine IxS.rx6 ((hc.le hr.g.le).le hr.p.le) hjl hv ?_
    refine copyRx ?_
    intro b8 m7 hb8 hle7 h7
    obtain ⟨p7, g7, l8⟩ := hr.p.mine hle7 hb8 h7
    have hr7 := hr.go p7 g7 hr.b (Nat.le_refl _)
    refine get6 h7 ?_
    refine hwj p7 hr.b (by omega) (haj.le hr.g.le) ?_
    intro m8 V8 sa8 sc8 fa8 fc8 fv8 qa qc qla qlc p8 g8 cq cql
    obtain ⟨b8', ⟨hq1, hq2⟩, hq3, hq4⟩ := wk_bnd hfj hr.b
    have hr8 := hr7.go p8 g8 b8' (by omega)
    have kq : Ok (nj + cnt prs[j].1) (wk also prs[j].1 stj).1.fi := ⟨hq1, hq2⟩
    have kql : Ok (nj + cnt prs[j].1) (wk also prs[j].1 stj).1.la := ⟨hq3, hq4⟩
    have hwk2 : wkC also ((prs.map (·.1)).drop (j + 1)) (stepC also ⟨fi, la, nu⟩ (wk also prs[j].1 stj).1) ⟨(wk also prs[j].1 stj).2.sets, lk also (wk also prs[j].1 stj).2.fol la (wk also prs[j].1 stj).1.fi⟩ = wkC also (prs.map (·.1)) ⟨[], [], true⟩ st := hwk
    generalize (wk also prs[j].1 stj).1 = q at kq kql cq cql hwk2 ⊢
    generalize (wk also prs[j].1 stj).2 = st8 at p8 b8' hr8 hwk2
    have hn8 : nj + cnt prs[j].1 ≤ 10000 := by omega
    have hn9 : nj + cnt prs[j].1 + cntL ((prs.map (·.1)).drop (j + 1)) ≤ 10000 := by omega
    generalize nj + cnt prs[j].1 = n8 at kq kql b8' hr8 hn8 hn9
    refine ContPt.mk ?_
    refine copyPt ?_
    intro b9 m12 hb9 hle12 h12
    obtain ⟨p12, g12, l9⟩ := p8.mine hle12 hb9 h12
    have hr12 := hr8.go p12 g12 b8' (Nat.le_refl _)
    have n9 : m b9 = none := hr8.g.chg.new hb9
    have hne96 : b9 ≠ o6b := by rintro rfl; rw [hr8.l6.at_] at hb9; cases hb9
    have hne94 : b9 ≠ x4b := by rintro rfl; rw [hr8.l4.at_] at hb9; cases hb9
    refine LdV.s1 hr12.l6.at_ (UnS.mk ?_)
    refine LdV.s0 l9.at_ (UnS.mk ?_)
    refine links_spec p12 b8'.bnd hn8 hr12.cl (cq.le g12.le) (fun x hx => by rw [b8'.len]; exact hr12.kl.2 x hx) (by have := hr12.kl.len; omega) kq ?_
    intro m13 V13 fv13 p13 g13
    dsimp only [Cont]
    refine UnTup.mk (UnNil.mk ?_)
    have b13 : StB n8 ⟨st8.sets, lk also st8.fol la q.fi⟩ := b8'.lk kq.2
    have hr13 := hr12.go p13 g13 b13 (Nat.le_refl _)
    have l913 := l9.go g13
    have cq13 := (cq.le g12.le).le g13.le
    have cql13 := (cql.le g12.le).le g13.le
    refine cat_mid hn8 hr13 l913 n9 hne96 hne94 cq13 kq cql13 kql ?_
    intro m' V' sa5 sc5 fa5 fc5 fv5 oa5 oc5 ol5 olc5 h5
    refine ⟨prs.length - (j + 1), by omega, rfl, rfl, rfl, rfl, rfl, rfl, rfl, rfl, j + 1, V', _, n8, _, _, _, sa5, sc5, fa5, fc5, fv5, oa5, oc5, ol5, olc5, ?_, by omega, rfl, h5, hn9, hwk2⟩
    rw [wi (by omega) (by omega)]; omega
  · have e : (prs.map (·.1)).drop j = [] := List.drop_eq_nil_of_le (by omega)
    rw [e] at hwk
    rw [← hwk] at k
    exact hr.end_ k
end Go.E.Pl
set_option linter.unusedVariables false
set_option linter.unusedSimpArgs false
set_option maxRecDepth 20000
namespace Go.E.Pl
open Go.H Go.E Go.E.Rg
attribute [local irreducible] BiN MkS ConvN LookN MapUpN CallV HC
theorem walk_alt {S : Nat → Bool} {ps : List Rx} (ih : ∀ a ∈ ps, form a = true ∧ WalkS a) : WalkS (.mk 3 S ps) := by
  intro m V pb st sa sc fa fc fv n v R h hB hn ha k
  have hcnt : cnt (.mk 3 S ps) = cntL ps := by unfold cnt cntL; rw [setsOf, if_neg (by decide), if_pos (.inr rfl)]
  rw [hcnt] at hn
  obtain ⟨prs, a, c, rfl, rfl, hl, hb, hc, hp⟩ := ha.inv
  have ewk : wk also (.mk 3 S (prs.map (·.1))) st = wkA also (prs.map (·.1)) ⟨[], [], false⟩ st := by unfold wk; rw [if_neg (by decide), if_neg (by decide), if_pos rfl]
  rw [ewk] at k
  show HC P place_Places_walk.id #[.pointer (some ⟨pb, 0, none⟩), rxA 3 S (.slice a prs.length c)] m R
  refine place_Places_walk.ok _ _ _ _ _ _ _ _ _ _ _ ?_
  refine newRx ?_
  intro b3 m1 hb3 hle1 h3
  obtain ⟨p1, g1, l3⟩ := h.mine hle1 hb3 h3
  intro b4 hb4
  obtain ⟨p2, g2, l4⟩ := p1.mine (Le.set hb4 (.cells zP T_place_part (0, 0))) hb4 (set_same _ _ _)
  have l32 := l3.go g2
  generalize m1.set b4 (.cells zP T_place_part (0, 0)) = m2 at p2 g2 l4 l32 ⊢
  have g02 := g1.trans g2
  have n4 : m b4 = none := hle1.new hb4
  refine LdV.s0 l32.at_ (UnI.mk ?_)
  refine BrEf (by decide) ?_
  refine BrEf (by decide) ?_
  refine BrEt rfl ?_
  intro b6 hb6
  obtain ⟨p6, g6, l6⟩ := p2.mine (Le.set hb6 (.cells zP T_place_part (0, 0))) hb6 (set_same _ _ _)
  have n6 : m b6 = none := g02.chg.new hb6
  have hne64 : b6 ≠ b4 := by rintro rfl; rw [l4.at_] at hb6; cases hb6
  have l36 := l32.go g6
  have l46 := l4.go g6
  generalize m2.set b6 (.cells zP T_place_part (0, 0)) = m6 at p6 g6 l6 l36 l46 ⊢
  refine LdV.s5 l36.at_ (UnS.mk ?_)
  refine ⟨fun N p x4b x4o o6b o6o xa xl xc n1 i mm => p = some ⟨pb, 0, none⟩ ∧ x4b = b4 ∧ x4o = 0 ∧ o6b = b6 ∧ o6o = 0 ∧ xa = a ∧ xl = prs.length ∧ n1 = ((prs.length : Nat) : Int) ∧
      ∃ (j : Nat) (Vm : Mem) (stj : Sta) (nj : Nat) (fi la : List Nat) (nu : Bool) (sa' : Option Addr) (sc' : Nat) (fa' : Option Addr) (fc' : Nat) (fv' : List Value) (oa : Option Addr) (oc : Nat) (ol : Option Addr) (olc : Nat), i = (j : Int) ∧ j ≤ prs.length ∧ N = prs.length - j ∧
        Rnd (Ft pb sa fa) m V pb b4 b6 mm Vm stj nj fi la nu sa' sc' fa' fc' fv' oa oc ol olc ∧ nj + cntL ((prs.map (·.1)).drop j) ≤ 10000 ∧ wkA also ((prs.map (·.1)).drop j) ⟨fi, la, nu⟩ stj = wkA also (prs.map (·.1)) ⟨[], [], false⟩ st, prs.length,
    ⟨rfl, rfl, rfl, rfl, rfl, rfl, rfl, rfl, 0, V, st, n, [], [], false, sa, sc, fa, fc, fv, none, 0, none, 0, rfl, by omega, by omega, ⟨p6, g02.trans g6, hB, n4, n6, l46, l6, hne64, CellsAt.empty _ _, CellsAt.empty _ _, Ok.nil _, Ok.nil _⟩, by simpa using hn, by simp⟩, ?_⟩
  rintro N p x4b x4o o6b o6o xa xl xc n1 i mm ⟨rfl, rfl, rfl, rfl, rfl, rfl, rfl, rfl, j, Vm, stj, nj, fi, la, nu, sa', sc', fa', fc', fv', oa, oc, ol, olc, rfl, hj, rfl, hr, hnj, hwk⟩
  have hlen : (prs.map (·.1)).length = prs.length := List.length_map _
  unfold place_Places_walk.l5B
  refine BrD (fun hlt => ?_) (fun hge => ?_)
  · have hjl : j < prs.length := by omega
    have hpm := List.getElem_mem hjl
    obtain ⟨a', l', c', hv⟩ := (hp _ hpm).sl
    obtain ⟨hfj, hwj⟩ := ih prs[j].1 (List.mem_map.mpr ⟨_, hpm, rfl⟩)
    have hdrop : (prs.map (·.1)).drop j = prs[j].1 :: (prs.map (·.1)).drop (j + 1) := by
      rw [List.drop_eq_getElem_cons (by rw [hlen]; exact hjl), List.getElem_map]
    rw [hdrop, cntL_cons] at hnj
    rw [hdrop] at hwk
    have haj := hp _ hpm
    rw [hv] at haj
    refine IxS.rx6 ((hc.le hr.g.le).le hr.p.le) hjl hv ?_
    refine copyRx ?_
    intro b8 m7 hb8 hle7 h7
    obtain ⟨p7, g7, l8⟩ := hr.p.mine hle7 hb8 h7
    have hr7 := hr.go p7 g7 hr.b (Nat.le_refl _)
    refine get6 h7 ?_
    refine hwj p7 hr.b (by omega) (haj.le hr.g.le) ?_
    intro m8 V8 sa8 sc8 fa8 fc8 fv8 qa qc qla qlc p8 g8 cq cql
    obtain ⟨b8', ⟨hq1, hq2⟩, hq3, hq4⟩ := wk_bnd hfj hr.b
    have hr8 := hr7.go p8 g8 b8' (by omega)
    have kq : Ok (nj + cnt prs[j].1) (wk also prs[j].1 stj).1.fi := ⟨hq1, hq2⟩
    have kql : Ok (nj + cnt prs[j].1) (wk also prs[j].1 stj).1.la := ⟨hq3, hq4⟩
    have hwk2 : wkA also ((prs.map (·.1)).drop (j + 1)) ⟨also fi (wk also prs[j].1 stj).1.fi, also la (wk also prs[j].1 stj).1.la, nu || (wk also prs[j].1 stj).1.nu⟩ (wk also prs[j].1 stj).2 = wkA also (prs.map (·.1)) ⟨[], [], false⟩ st := hwk
    generalize (wk also prs[j].1 stj).1 = q at kq kql cq cql hwk2 ⊢
    generalize (wk also prs[j].1 stj).2 = st8 at p8 b8' hr8 hwk2
    have hn8 : nj + cnt prs[j].1 ≤ 10000 := by omega
    have hn9 : nj + cnt prs[j].1 + cntL ((prs.map (·.1)).drop (j + 1)) ≤ 10000 := by omega
    generalize nj + cnt prs[j].1 = n8 at kq kql b8' hr8 hn8 hn9
    refine ContPt.mk ?_
    refine copyPt ?_
    intro b9 m12 hb9 hle12 h12
    obtain ⟨p12, g12, l9⟩ := p8.mine hle12 hb9 h12
    have hr12 := hr8.go p12 g12 b8' (Nat.le_refl _)
    refine Sub.all ?_
    refine LdV.s0 hr12.l6.at_ (UnS.mk ?_)
    refine LdV.s0 l9.at_ (UnS.mk ?_)
    refine LdV.s1 hr12.l6.at_ (UnS.mk ?_)
    refine LdV.s1 l9.at_ (UnS.mk ?_)
    refine LdV.s2 hr12.l6.at_ (UnB.mk ?_)
    have k1 := hr12.kf.len
    have k2 := kq.len
    have k3 := hr12.kl.len
    have k4 := kql.len
    have cq12 := cq.le g12.le
    have cql12 := cql.le g12.le
    refine also_spec (hr12.cf.le p12.le) rfl (cq12.le p12.le) rfl (by omega) ?_
    intro m14 a1 c1 hle14 hc14 hf14
    dsimp only [Cont]
    refine UnS.mk ?_
    refine Lk.all hle14 ?_
    obtain ⟨p14, g14⟩ := p12.see hle14
    have hr14 := hr12.go p14 g14 b8' (Nat.le_refl _)
    have l914 := l9.go g14
    have hs14 := CellsAt.see (V := V8) hc14 hf14
    refine also_spec (hr14.cl.le p14.le) rfl ((cql12.le g14.le).le p14.le) rfl (by omega) ?_
    intro m16 a2 c2 hle16 hc16 hf16
    dsimp only [Cont]
    refine UnS.mk ?_
    refine Lk.all hle16 ?_
    obtain ⟨p16, g16⟩ := p14.see hle16
    have hr16 := hr14.go p16 g16 b8' (Nat.le_refl _)
    have l916 := l914.go g16
    have hs16 := CellsAt.see (V := see m12 m14 V8) hc16 hf16
    have fin := fun (z : Bool) => hr16.put (nu' := z) (oc' := c1) (olc' := c2) (hs14.le g16.le) hs16 (hr16.kf.also kq) (hr16.kl.also kql)
    refine Br.mk (fun hz => ?_) (fun hz => ?_)
    · refine put3 hr16.l6.at_ ?_
      refine ⟨prs.length - (j + 1), by omega, rfl, rfl, rfl, rfl, rfl, rfl, rfl, rfl, j + 1, _, _, n8, _, _, true, _, _, _, _, _, _, _, _, _, ?_, by omega, rfl, fin true, hn9, ?_⟩
      · rw [wi (by omega) (by omega)]; omega
      · rw [hz] at hwk2; exact hwk2
    · refine LdV.s2 l916.at_ (UnB.mk ?_)
      refine put3 hr16.l6.at_ ?_
      refine ⟨prs.length - (j + 1), by omega, rfl, rfl, rfl, rfl, rfl, rfl, rfl, rfl, j + 1, _, _, n8, _, _, q.nu, _, _, _, _, _, _, _, _, _, ?_, by omega, rfl, fin q.nu, hn9, ?_⟩
      · rw [wi (by omega) (by omega)]; omega
      · rw [hz] at hwk2; exact hwk2
  · have e : (prs.map (·.1)).drop j = [] := List.drop_eq_nil_of_le (by omega)
    rw [e] at hwk
    rw [← hwk] at k
    exact hr.end_ k
theorem walk_sign {x : Int} {S : Nat → Bool} {y : Rx} (h4 : 4 ≤ x) (h6 : x ≤ 6) (hf : form y = true) (ih : WalkS y) : WalkS (.mk x S [y]) := by
  intro m V pb st sa sc fa fc fv n v R h hB hn ha k
  have k1 : x ≠ 1 := by omega
  have k2 : x ≠ 2 := by omega
  have k3 : x ≠ 3 := by omega
  have hcnt : cnt (.mk x S [y]) = cnt y := by unfold cnt; rw [setsOf, if_neg k1, if_neg (by omega), sets1]
  rw [hcnt] at hn
  obtain ⟨prs, a, c, hps, rfl, hl, hb, hc, hp⟩ := ha.inv
  obtain ⟨pr, rfl⟩ : ∃ p, prs = [p] := by
    have := congrArg List.length hps
    rw [List.length_map] at this
    exact List.length_eq_one_iff.mp this.symm
  have hyp : y = pr.1 := by simpa using hps
  subst hyp
  have ewk : wk also (.mk x S [pr.1]) st = wk1 also x [pr.1] st := by unfold wk; rw [if_neg k1, if_neg k2, if_neg k3]
  rw [ewk] at k
  show HC P place_Places_walk.id #[.pointer (some ⟨pb, 0, none⟩), rxA x S (.slice a 1 c)] m R
  refine place_Places_walk.ok _ _ _ _ _ _ _ _ _ _ _ ?_
  refine newRx ?_
  intro b3 m1 hb3 hle1 h3
  obtain ⟨p1, g1, l3⟩ := h.mine hle1 hb3 h3
  intro b4 hb4
  obtain ⟨p2, g2, l4⟩ := p1.mine (Le.set hb4 (.cells zP T_place_part (0, 0))) hb4 (set_same _ _ _)
  have l32 := l3.go g2
  generalize m1.set b4 (.cells zP T_place_part (0, 0)) = m2 at p2 g2 l4 l32 ⊢
  have g02 := g1.trans g2
  have n4 : m b4 = none := hle1.new hb4
  refine LdV.s0 l32.at_ (UnI.mk ?_)
  refine BrEf k1 ?_
  refine BrEf k2 ?_
  refine BrEf k3 ?_
  refine LdV.s5 l32.at_ (UnS.mk ?_)
  obtain ⟨a', l', c', hv⟩ := (hp pr (by simp)).sl
  have haj := hp pr (by simp)
  rw [hv] at haj
  refine IxS.rx6 (prs := [pr]) (hc.le p2.le) (j := 0) (by simp) hv ?_
  refine ih p2 hB (by omega) haj ?_
  intro m8 V8 sa8 sc8 fa8 fc8 fv8 qa qc qla qlc p8 g8 cq cql
  obtain ⟨b8', ⟨hq1, hq2⟩, hq3, hq4⟩ := wk_bnd hf hB
  have kq : Ok (n + cnt pr.1) (wk also pr.1 st).1.fi := ⟨hq1, hq2⟩
  have kql : Ok (n + cnt pr.1) (wk also pr.1 st).1.la := ⟨hq3, hq4⟩
  have k' : KW T_place_Places (Ft pb sa fa) m V pb ⟨(wk also pr.1 st).1.fi, (wk also pr.1 st).1.la, (wk also pr.1 st).1.nu || decide (x ≠ 5)⟩ ⟨(wk also pr.1 st).2.sets, if x ≠ 6 then lk also (wk also pr.1 st).2.fol (wk also pr.1 st).1.la (wk also pr.1 st).1.fi else (wk also pr.1 st).2.fol⟩ R := k
  clear k
  generalize (wk also pr.1 st).1 = q at kq kql cq cql k' ⊢
  generalize (wk also pr.1 st).2 = st8 at p8 b8' k'
  refine ContPt.mk ?_
  refine copyPt ?_
  intro b9 m12 hb9 hle12 h12
  obtain ⟨p12, g12, l9⟩ := p8.mine hle12 hb9 h12
  have l312 := (l32.go g8).go g12
  have l412 := (l4.go g8).go g12
  have g012 := (g02.trans g8).trans g12
  have n9 : m b9 = none := (g02.trans g8).chg.new hb9
  have hne : b9 ≠ b4 := by rintro rfl; rw [(l4.go g8).at_] at hb9; cases hb9
  have hne3 : b9 ≠ b3 := by rintro rfl; rw [(l32.go g8).at_] at hb9; cases hb9
  -- the end
  have fin : ∀ {m5 V5 : Mem} {fv5 : List Value} {st5 : Sta}, PSt T_place_Places m5 V5 pb st5 sa8 sc8 fa8 fc8 fv5 → Gone (Ft pb sa fa) m V (Ft pb sa8 fa8) m5 V5 → Loc (Ft pb sa8 fa8) m5 V5 b3 (.cells (rxO x S (.slice a 1 c)) T_api_Rx (0, 0)) → Loc (Ft pb sa8 fa8) m5 V5 b4 (.cells zP T_place_part (0, 0)) →
      Loc (Ft pb sa8 fa8) m5 V5 b9 (.cells (pO qa q.fi.length qc qla q.la.length qlc q.nu) T_place_part (0, 0)) → CellsAt V5 qa (ints (ns q.fi)) → CellsAt V5 qla (ints (ns q.la)) → KW T_place_Places (Ft pb sa fa) m V pb ⟨q.fi, q.la, q.nu || decide (x ≠ 5)⟩ st5 R → place_Places_walk.k6 b3 0 b4 0 b9 0 R m5 := by
    intro m5 V5 fv5 st5 p5 g5 l35 l45 l95 c5 cl5 kk
    unfold place_Places_walk.k6
    have tail : ∀ z, z = (q.nu || decide (x ≠ 5)) → St1 m5 b9 (0 + 2) (.bool z) fun m1 =>
        LdV m1 b9 0 fun v => UnS v fun x151_0a x151_0l x151_0c => LdV m1 b9 (0 + 1) fun v => UnS v fun x151_1a x151_1l x151_1c => LdV m1 b9 (0 + 2) fun v => UnB v fun x151_2 =>
        St1 m1 b4 0 (.slice x151_0a x151_0l x151_0c) fun m2 => St1 m2 b4 (0 + 1) (.slice x151_1a x151_1l x151_1c) fun m3 => St1 m3 b4 (0 + 2) (.bool x151_2) fun m4 =>
        LdV m4 b4 0 fun v => UnS v fun res0_0a res0_0l res0_0c => LdV m4 b4 (0 + 1) fun v => UnS v fun res0_1a res0_1l res0_1c => LdV m4 b4 (0 + 2) fun v => UnB v fun res0_2 =>
        R (.returned (.agg #[.slice res0_0a res0_0l res0_0c, .slice res0_1a res0_1l res0_1c, .bool res0_2])) m4 := by
      rintro z rfl
      refine St1.to (pO qa q.fi.length qc qla q.la.length qlc (q.nu || decide (x ≠ 5))) l95.at_ (by simp) rfl (by simp) ?_
      have p6 := p5.put l95 (.cells (pO qa q.fi.length qc qla q.la.length qlc (q.nu || decide (x ≠ 5))) T_place_part (0, 0))
      have g6 := g5.locw n9 (.cells (pO qa q.fi.length qc qla q.la.length qlc (q.nu || decide (x ≠ 5))) T_place_part (0, 0))
      have l46 := l45.other hne (ox := .cells (pO qa q.fi.length qc qla q.la.length qlc (q.nu || decide (x ≠ 5))) T_place_part (0, 0))
      refine get3 (set_same _ _ _) ?_
      refine ret3 l46.at_ ?_
      exact kk _ _ sa8 sc8 fa8 fc8 fv5 qa qc qla qlc (p6.put l46 _) (g6.locw n4 _) c5 cl5
    refine LdV.s2 l95.at_ (UnB.mk ?_)
    refine Br.mk (fun hz => ?_) (fun hz => ?_)
    · exact tail true (by rw [hz]; rfl)
    · refine LdV.s0 l35.at_ (UnI.mk ?_)
      refine tail (x != 5) ?_
      rw [hz, Bool.false_or]
      by_cases e : x = 5
      · subst e; rfl
      · rw [decide_eq_true e]; simpa using e
  refine LdV.s0 l312.at_ (UnI.mk ?_)
  refine BrN (fun h6n => ?_) (fun h6e => ?_)
  · rw [if_pos h6n] at k'
    refine LdV.s1 l9.at_ (UnS.mk ?_)
    refine LdV.s0 l9.at_ (UnS.mk ?_)
    refine links_spec p12 b8'.bnd (by omega) (cql.le g12.le) (cq.le g12.le) (fun z hz => by rw [b8'.len]; exact kql.2 z hz) (by have := kql.len; omega) kq ?_
    intro m13 V13 fv13 p13 g13
    dsimp only [Cont]
    refine UnTup.mk (UnNil.mk ?_)
    exact fin p13 (g012.trans g13) (l312.go g13) (l412.go g13) (l9.go g13) ((cq.le g12.le).le g13.le) ((cql.le g12.le).le g13.le) k'
  · rw [if_neg (by simpa using h6e)] at k'
    exact fin p12 g012 l312 l412 l9 (cq.le g12.le) (cql.le g12.le) k'
theorem walk_spec (r : Rx) : form r = true → WalkS r := by
  refine Rx.ind (C := fun r => form r = true → WalkS r) ?_ r
  intro k S ps ih hf
  rcases form_cases hf with ⟨rfl, rfl, hS⟩ | ⟨_, hall, ⟨hk | hk, hlen⟩ | ⟨h4, h6, x, rfl, hx⟩⟩
  · exact walk_leaf
  · subst hk; exact walk_cat (fun a ha => ⟨(hall a ha).2, ih a ha (hall a ha).2⟩)
  · subst hk; exact walk_alt (fun a ha => ⟨(hall a ha).2, ih a ha (hall a ha).2⟩)
  · exact walk_sign h4 h6 (hall x (by simp)).2 (ih x (by simp) (hall x (by simp)).2)
end Go.E.Pl
set_option linter.unusedVariables false
set_option linter.unusedSimpArgs false
set_option maxRecDepth 20000
namespace Go.E.Pl
open Go.H Go.E Go.E.Rg
/-- A way: from a place that reads at i to one that has read ahead of j. -/
inductive Way (w : List UInt8) (A : Nat → UInt8 → Prop) (F : Nat → Nat → Prop) : Nat → Nat → Nat → Nat → Prop where
  | one {p i : Nat} {c : UInt8} : w[i]? = some c → A p c → Way w A F p i p (i + 1)
  | step {p i p' q j : Nat} {c : UInt8} : w[i]? = some c → A p c → F p p' → Way w A F p' (i + 1) q j → Way w A F p i q j
section
variable {w : List UInt8} {A : Nat → UInt8 → Prop} {F G : Nat → Nat → Prop}
theorem Way.mono (h : ∀ a b, F a b → G a b) {p i q j : Nat} (k : Way w A F p i q j) : Way w A G p i q j := by
  induction k with
  | one a b => exact .one a b
  | step a b c _ ih => exact .step a b (h _ _ c) ih
theorem Way.app {p i q x p' q' j : Nat} (k : Way w A F p i q x) (e : F q p') (l : Way w A F p' x q' j) : Way w A F p i q' j := by
  induction k with
  | one a b => exact .step a b e l
  | step a b c _ ih => exact .step a b c (ih e l)
theorem Way.stay {n m : Nat} (h : ∀ a b, In n m a → F a b → G a b ∧ In n m b) {p i q j : Nat} (k : Way w A F p i q j) (hp : In n m p) : Way w A G p i q j ∧ In n m q := by
  induction k with
  | one a b => exact ⟨.one a b, hp⟩
  | step a b c _ ih =>
    obtain ⟨h1, h2⟩ := h _ _ hp c
    obtain ⟨g1, g2⟩ := ih h2
    exact ⟨.step a b h1 g1, g2⟩
/-- The last letter of a way. -/
theorem Way.last {p i q j : Nat} (k : Way w A F p i q j) : ∃ j', j = j' + 1 ∧ ∃ c, w[j']? = some c ∧ A q c ∧ ((p = q ∧ i = j') ∨ ∃ q', Way w A F p i q' j' ∧ F q' q) := by
  induction k with
  | one a b => exact ⟨_, rfl, _, a, b, .inl ⟨rfl, rfl⟩⟩
  | step a b c _ ih =>
    obtain ⟨j', e, c', h1, h2, h3⟩ := ih
    refine ⟨j', e, c', h1, h2, .inr ?_⟩
    rcases h3 with ⟨rfl, rfl⟩ | ⟨q', h4, h5⟩
    · exact ⟨_, .one a b, c⟩
    · exact ⟨q', .step a b c h4, h5⟩
end
section
variable (w : List UInt8) (A : Nat → UInt8 → Prop)
def Sts (n : Nat) (l : List (Nat → Bool)) : Prop := ∀ k S, l[k]? = some S → ∀ c : UInt8, A (n + k) c ↔ S c.toNat = true
variable {w : List UInt8} {A : Nat → UInt8 → Prop}
theorem Sts.left {n : Nat} {l m : List (Nat → Bool)} (h : Sts A n (l ++ m)) : Sts A n l := fun k S hk => h k S (by
  have : k < l.length := by
    rcases Nat.lt_or_ge k l.length with h | h
    · exact h
    · rw [List.getElem?_eq_none h] at hk; cases hk
  rw [List.getElem?_append_left this]; exact hk)
theorem Sts.right {n : Nat} {l m : List (Nat → Bool)} (h : Sts A n (l ++ m)) : Sts A (n + l.length) m := fun k S hk c => by
  have := h (l.length + k) S (by rw [List.getElem?_append_right (by omega)]; rw [show l.length + k - l.length = k by omega]; exact hk) c
  rw [Nat.add_assoc]; exact this
end
end Go.E.Pl
set_option linter.unusedVariables false
set_option linter.unusedSimpArgs false
set_option maxRecDepth 20000
namespace Go.E.Pl
open Go.H Go.E Go.E.Rg
theorem cnt_nodes (r : Rx) : cnt r ≤ nodes r := by
  refine Rx.rec (motive_1 := fun r => cnt r ≤ nodes r) (motive_2 := fun ps => cntL ps ≤ nodesL ps ∧ (sets1 ps).length ≤ nodesL ps) ?_ ?_ ?_ r
  · intro k S ps ⟨h1, h2⟩
    unfold cnt nodes
    rw [setsOf]
    split
    · simp
    · split
      · unfold cntL at h1; omega
      · omega
  · simp [cntL, setsL, sets1, nodesL]
  · intro r rs h1 ⟨h2, h3⟩
    rw [cntL_cons, nodesL, sets1]
    unfold cnt at h1
    refine ⟨?_, ?_⟩
    · unfold cnt; omega
    · omega
theorem may_cnt {r : Rx} (h : may r = 0) : cnt r ≤ 40 := Nat.le_trans (cnt_nodes r) (may_form h).2.1
/-- There is a first one, and a last one. -/
theorem some_ends (r : Rx) : form r = true → ∀ n, (∃ x, Fi n r x) ∧ ∃ x, La n r x := by
  refine Rx.ind (C := fun r => form r = true → ∀ n, (∃ x, Fi n r x) ∧ ∃ x, La n r x) ?_ r
  intro k S ps ih hf n
  rcases form_cases hf with ⟨rfl, rfl, hS⟩ | ⟨_, hall, ⟨hk | hk, hlen⟩ | ⟨h4, h6, x, rfl, hx⟩⟩
  · exact ⟨⟨n, by rw [Fi, if_pos rfl]⟩, ⟨n, by rw [La, if_pos rfl]⟩⟩
  · subst hk
    have hl : ∀ (ps : List Rx), ps ≠ [] → (∀ a ∈ ps, ∀ n, ∃ x, La n a x) → ∀ n, ∃ x, LaC n ps x := by
      intro ps
      induction ps with
      | nil => intro h; exact absurd rfl h
      | cons r rs ihl =>
        intro _ ha n
        by_cases e : rs = []
        · subst e
          obtain ⟨x, hx⟩ := ha r (by simp) n
          exact ⟨x, by rw [LaC]; exact .inl ⟨by rw [nullA], hx⟩⟩
        · obtain ⟨x, hx⟩ := ihl e (fun a h => ha a (by simp [h])) (n + cnt r)
          exact ⟨x, by rw [LaC]; exact .inr hx⟩
    refine ⟨?_, ?_⟩
    · cases ps with
      | nil => simp at hlen
      | cons r rs =>
        obtain ⟨x, hx⟩ := (ih r (by simp) (hall r (by simp)).2 n).1
        exact ⟨x, by rw [Fi, if_neg (by decide), if_pos rfl, FiC]; exact .inl hx⟩
    · obtain ⟨x, hx⟩ := hl ps (by rintro rfl; simp at hlen) (fun a ha n => (ih a ha (hall a ha).2 n).2) n
      exact ⟨x, by rw [La, if_neg (by decide), if_pos rfl]; exact hx⟩
  · subst hk
    cases ps with
    | nil => simp at hlen
    | cons r rs =>
      obtain ⟨⟨x, hx⟩, y, hy⟩ := ih r (by simp) (hall r (by simp)).2 n
      exact ⟨⟨x, by rw [Fi, if_neg (by decide), if_neg (by decide), if_pos rfl, FiA]; exact .inl hx⟩, y, by rw [La, if_neg (by decide), if_neg (by decide), if_pos rfl, LaA]; exact .inl hy⟩
  · obtain ⟨⟨y, hy⟩, z, hz⟩ := ih x (by simp) (hall x (by simp)).2 n
    exact ⟨⟨y, by rw [Fi, if_neg (by omega), if_neg (by omega), if_neg (by omega), Fi1]; exact hy⟩, z, by rw [La, if_neg (by omega), if_neg (by omega), if_neg (by omega), La1]; exact hz⟩
/-- The places of an expression, by relations. -/
structure PlOK (r : Rx) (p : Plc) : Prop where
  sets : p.sets = setsOf r
  len : p.fol.length = cnt r
  nu : p.nu = null r
  fi : ∀ x, x ∈ p.fi ↔ Fi 0 r x
  la : ∀ x, x ∈ p.la ↔ La 0 r x
  fo : ∀ i j, j ∈ p.fol.getD i [] ↔ Fo 0 r i j
  rfi : Rz p.fi
  rla : Rz p.la
  rfo : ∀ l ∈ p.fol, Rz l
theorem plc_ok {r : Rx} (hf : form r = true) : PlOK r (plc r) := by
  have h := walk_ok (J := also) (fun a b x => also_mem) r hf ⟨[], []⟩ rfl
  obtain ⟨g1, g2⟩ := walk_rz r ⟨[], []⟩ (fun l hl => by cases hl)
  refine ⟨by show (wk also r ⟨[], []⟩).2.sets = _; rw [h.sets]; rfl, ?_, h.nu, h.fi, h.la, fun i j => ?_, g1.1, g1.2, g2⟩
  · show (wk also r ⟨[], []⟩).2.fol.length = _
    rw [h.fol_lt]; simp
  · have := h.fo i j
    show j ∈ (wk also r ⟨[], []⟩).2.fol.getD i [] ↔ _
    rw [this]
    simp
theorem PlOK.fi_lt {r : Rx} {p : Plc} (h : PlOK r p) : ∀ x ∈ p.fi, x < cnt r := fun x hx => by have := ((bounds r 0).1 x ((h.fi x).mp hx)).2; omega
theorem PlOK.la_lt {r : Rx} {p : Plc} (h : PlOK r p) : ∀ x ∈ p.la, x < cnt r := fun x hx => by have := ((bounds r 0).2.1 x ((h.la x).mp hx)).2; omega
theorem PlOK.fo_lt {r : Rx} {p : Plc} (h : PlOK r p) : ∀ l ∈ p.fol, ∀ x ∈ l, x < cnt r := fun l hl x hx => by
  obtain ⟨i, hi, rfl⟩ := List.getElem_of_mem hl
  have := (h.fo i x).mp (by rw [List.getD_eq_getElem?_getD, List.getElem?_eq_getElem hi]; exact hx)
  have := ((bounds r 0).2.2 _ _ this).2.2
  omega
end Go.E.Pl
set_option linter.unusedVariables false
set_option linter.unusedSimpArgs false
set_option maxRecDepth 20000
namespace Go.E.Pl
open Go.H Go.E Go.E.Rg
attribute [local irreducible] BiN MkS ConvN LookN MapUpN CallV HC
/-- Where a Places' four rows lie. -/
structure Ads where
  sa : Option Addr
  sc : Nat
  ia : Option Addr
  ic : Nat
  la : Option Addr
  lc : Nat
  fa : Option Addr
  fc : Nat
abbrev lO (A : Ads) (p : Plc) : Array Value := #[.slice A.sa p.sets.length A.sc, .slice A.ia p.fi.length A.ic, .slice A.la p.la.length A.lc, .slice A.fa p.fol.length A.fc, .bool p.nu]
/-- A Places in memory. -/
structure PlV (m : Mem) (p : Plc) (A : Ads) : Prop where
  cs : CellsAt m A.sa (p.sets.flatMap four)
  cf : CellsAt m A.ia (ints (ns p.fi))
  cl : CellsAt m A.la (ints (ns p.la))
  co : ∃ fv, CellsAt m A.fa fv ∧ RowsOK m p.fol fv
theorem PlV.le {m m' : Mem} {p : Plc} {A : Ads} (h : PlV m p A) (k : Le m m') : PlV m' p A := ⟨h.cs.le k, h.cf.le k, h.cl.le k, by obtain ⟨fv, h1, h2⟩ := h.co; exact ⟨fv, h1.le k, h2.le k⟩⟩
def pl0 : Plc := ⟨[], [], [], [], false⟩
def ads0 : Ads := ⟨none, 0, none, 0, none, 0, none, 0⟩
theorem PlV.zero (m : Mem) : PlV m pl0 ads0 := ⟨CellsAt.empty _ _, CellsAt.empty _ _, CellsAt.empty _ _, [], CellsAt.empty _ _, rfl, fun i l h => by cases h⟩
def ofP (r : Rx) : Plc × Int := if may r = 0 then (plc r, 0) else (pl0, may r)
theorem ofP_ok {r : Rx} (h : may r = 0) : ofP r = (plc r, 0) := by unfold ofP; rw [if_pos h]
theorem ofP_no {r : Rx} (h : may r ≠ 0) : ofP r = (pl0, may r) := by unfold ofP; rw [if_neg h]
section
variable {m : Mem} {b : Nat} {e : TypeId}
theorem put5 {x0 x1 x2 x3 x4 u0 u1 u2 u3 u4 : Value} {K : Mem → Prop} (h : m b = some (.cells #[x0, x1, x2, x3, x4] e (0, 0))) (h0 : notOne u0 = false) (h1 : notOne u1 = false) (h2 : notOne u2 = false) (h3 : notOne u3 = false) (h4 : notOne u4 = false)
    (q : K (m.set b (.cells #[u0, u1, u2, u3, u4] e (0, 0)))) : St1 m b 0 u0 fun m1 => St1 m1 b 1 u1 fun m2 => St1 m2 b 2 u2 fun m3 => St1 m3 b 3 u3 fun m4 => St1 m4 b 4 u4 K := by
  refine St1.to #[u0, x1, x2, x3, x4] h (by simp) h0 (by simp) ?_
  refine St1.to #[u0, u1, x2, x3, x4] (set_same _ _ _) (by simp) h1 (by simp) ?_
  rw [set_set]
  refine St1.to #[u0, u1, u2, x3, x4] (set_same _ _ _) (by simp) h2 (by simp) ?_
  rw [set_set]
  refine St1.to #[u0, u1, u2, u3, x4] (set_same _ _ _) (by simp) h3 (by simp) ?_
  rw [set_set]
  refine St1.to #[u0, u1, u2, u3, u4] (set_same _ _ _) (by simp) h4 (by simp) ?_
  rw [set_set]
  exact q
theorem get5 {A : Ads} {p : Plc} {fr : Nat × Nat} {K : Option Addr → Nat → Nat → Option Addr → Nat → Nat → Option Addr → Nat → Nat → Option Addr → Nat → Nat → Bool → Prop} (h : m b = some (.cells (lO A p) e fr))
    (q : K A.sa p.sets.length A.sc A.ia p.fi.length A.ic A.la p.la.length A.lc A.fa p.fol.length A.fc p.nu) :
    LdV m b 0 fun v => UnS v fun x0a x0l x0c => LdV m b 1 fun v => UnS v fun x1a x1l x1c => LdV m b 2 fun v => UnS v fun x2a x2l x2c => LdV m b 3 fun v => UnS v fun x3a x3l x3c => LdV m b 4 fun v => UnB v fun z => K x0a x0l x0c x1a x1l x1c x2a x2l x2c x3a x3l x3c z :=
  LdV.s0 h (LdV.s1 h (LdV.s2 h (LdV.s3 h (LdV.s4 h q))))
theorem ContPl.mk {A : Ads} {p : Plc} {x : Int} {K : Option Addr → Nat → Nat → Option Addr → Nat → Nat → Option Addr → Nat → Nat → Option Addr → Nat → Nat → Bool → Int → Mem → Prop} {Pn : List PanicEntry → Mem → Prop} (h : K A.sa p.sets.length A.sc A.ia p.fi.length A.ic A.la p.la.length A.lc A.fa p.fol.length A.fc p.nu x m) :
    Cont (fun v m => UnTup v fun us0 => UnCons us0 fun w us1 => UnAgg w fun l => UnCons l fun v l => UnS v fun x0a x0l x0c => UnCons l fun v l => UnS v fun x1a x1l x1c => UnCons l fun v l => UnS v fun x2a x2l x2c => UnCons l fun v l => UnS v fun x3a x3l x3c => UnCons l fun v l => UnB v fun z => UnNil l (
      UnCons us1 fun w us2 => UnI w .i64 fun x => UnNil us2 (K x0a x0l x0c x1a x1l x1c x2a x2l x2c x3a x3l x3c z x m))) Pn (.returned (.tuple #[.agg (lO A p), .int .i64 x])) m := h
/-- A result in a place of its own. -/
theorem own5 {A : Ads} {p : Plc} {x0 x1 x2 x3 x4 : Value} {K : Nat → Mem → Prop} (h : ∀ b m1, m b = none → Le m m1 → m1 b = some (.cells (lO A p) e (0, 0)) → K b m1) :
    NewC m #[x0, x1, x2, x3, x4] e fun b m1 => St1 m1 b 0 (.slice A.sa p.sets.length A.sc) fun m2 => St1 m2 b 1 (.slice A.ia p.fi.length A.ic) fun m3 => St1 m3 b 2 (.slice A.la p.la.length A.lc) fun m4 => St1 m4 b 3 (.slice A.fa p.fol.length A.fc) fun m5 => St1 m5 b 4 (.bool p.nu) fun m6 => K b m6 := by
  intro b hb
  refine put5 (set_same _ _ _) rfl rfl rfl rfl rfl ?_
  rw [set_set]
  exact h b _ hb (Le.set hb _) (set_same _ _ _)
end
theorem Of_spec {r : Rx} {m : Mem} {v : Value} {R : Ending → Mem → Prop} (ha : ArgC m r v) (hn : nodes r ≤ 4000000000000000000) (k : ∀ m' A, Le m m' → PlV m' (ofP r).1 A → R (.returned (.tuple #[.agg (lO A (ofP r).1), .int .i64 (ofP r).2])) m') :
    HC P place_Of.id #[rxA r.k r.S v] m R := by
  obtain ⟨a, l, c, rfl⟩ := ha.sl
  refine place_Of.ok _ _ _ _ _ _ _ _ _ _ ?_
  refine newRx ?_
  intro b1 m1 hb1 hle1 h1
  intro b2 hb2
  have hle2 := Le.set hb2 (.cells #[.slice none 0 0, .slice none 0 0, .slice none 0 0, .slice none 0 0, .bool false] T_place_Places (0, 0))
  have h12 := hle2 _ _ h1
  have h2 : (m1.set b2 (.cells #[.slice none 0 0, .slice none 0 0, .slice none 0 0, .slice none 0 0, .bool false] T_place_Places (0, 0))) b2 = _ := set_same _ _ _
  generalize m1.set b2 (.cells #[.slice none 0 0, .slice none 0 0, .slice none 0 0, .slice none 0 0, .bool false] T_place_Places (0, 0)) = m2 at hle2 h12 h2 ⊢
  have w2 : m b2 = none := hle1.new hb2
  have l2 := hle1.trans hle2
  refine get6 h12 ?_
  refine May_spec (ha.le l2) hn ?_
  intro m3 hle3
  dsimp only [Cont]
  refine UnI.mk ?_
  have l3 := l2.trans hle3
  have h23 := hle3 _ _ h2
  have h13 := hle3 _ _ h12
  refine BrN (fun h0 => ?_) (fun h0 => ?_)
  · rw [ofP_no h0] at k
    refine put5 (u0 := .slice none 0 0) h23 rfl rfl rfl rfl rfl ?_
    refine get5 (A := ads0) (p := pl0) (set_same _ _ _) ?_
    refine k _ ads0 ?_ (PlV.zero _)
    exact (Chg.set m3 b2 _).to_le l3 (fun b e => by rw [show b = b2 from e]; exact w2)
  · rw [ofP_ok h0] at k
    have hf := (may_form h0).1
    have hcnt := may_cnt h0
    intro b5 hb5
    have hle4 := Le.set hb5 (.cells #[.slice none 0 0, .slice none 0 0, .slice none 0 0, .slice none 0 0, .bool false] T_place_Places (0, 0))
    have h5 : (m3.set b5 (.cells #[.slice none 0 0, .slice none 0 0, .slice none 0 0, .slice none 0 0, .bool false] T_place_Places (0, 0))) b5 = _ := set_same _ _ _
    have h14 := hle4 _ _ h13
    have h24 := hle4 _ _ h23
    generalize m3.set b5 (.cells #[.slice none 0 0, .slice none 0 0, .slice none 0 0, .slice none 0 0, .bool false] T_place_Places (0, 0)) = m4 at hle4 h5 h14 h24 ⊢
    have w5 : m b5 = none := l3.new hb5
    have hne52 : b2 ≠ b5 := by rintro rfl; rw [h23] at hb5; cases hb5
    refine get6 h14 ?_
    have p4 : PSt T_place_Places m4 m b5 ⟨[], []⟩ none 0 none 0 [] := ⟨l3.trans hle4, h5, Own.nil _ _ _, Own.nil _ _ _, ⟨rfl, fun i l h => by cases h⟩, fun b hb => (by rcases hb with rfl | e | e; exact w5; cases e; cases e), fun e => (by cases e), fun e => (by cases e), fun b e => (by cases e)⟩
    have l24 : Loc (Ft b5 none none) m4 m b2 (.cells #[.slice none 0 0, .slice none 0 0, .slice none 0 0, .slice none 0 0, .bool false] T_place_Places (0, 0)) := ⟨h24, w2, fun e => (by rcases e with e | e | e; exact hne52 e; cases e; cases e)⟩
    have hb0 : StB 0 ⟨[], []⟩ := ⟨rfl, rfl, fun l h => by cases h⟩
    refine walk_spec r hf p4 hb0 (by omega) ha ?_
    intro m5 V5 sa sc fa fc fv qa qc qla qlc p5 g5 cq cql
    obtain ⟨b5', ⟨hq1, hq2⟩, hq3, hq4⟩ := wk_bnd hf hb0
    refine ContPt.mk ?_
    refine copyPt ?_
    intro b6 m9 hb6 hle9 h6
    obtain ⟨p9, g9, l69⟩ := p5.mine hle9 hb6 h6
    have l29 := (l24.go g5).go g9
    have hne65 : b6 ≠ b5 := by rintro rfl; rw [p5.obj] at hb6; cases hb6
    refine LdV.s0 p9.obj (UnS.mk ?_)
    have hnum := b5'.num
    refine BrDf (by omega) ?_
    refine ⟨on m9 fun b => b ≠ b5, on_le _ _, ?_⟩
    have hr6 : (on m9 fun b => b ≠ b5) b6 = _ := (on_in (G := fun b => b ≠ b5) hne65).trans h6
    have hr : ∀ o, Le (on m9 fun b => b ≠ b5) (m9.set b5 o) := fun o b o' hbo => by
      obtain ⟨q1, q2⟩ := on_live hbo
      rw [set_other _ _ q1]; exact q2
    generalize (on m9 fun b => b ≠ b5) = r10 at hr6 hr ⊢
    refine LdV.s0 hr6 (UnS.mk (LdV.s1 hr6 (UnS.mk (LdV.s2 hr6 (UnB.mk ?_)))))
    refine St1.to #[.slice sa (wk also r ⟨[], []⟩).2.sets.length sc, .slice qa (wk also r ⟨[], []⟩).1.fi.length qc, .slice none 0 0, .slice fa (wk also r ⟨[], []⟩).2.fol.length fc, .bool false] p9.obj (by simp) rfl (by simp) ?_
    refine lk_same (hr _) ?_
    refine St1.to #[.slice sa (wk also r ⟨[], []⟩).2.sets.length sc, .slice qa (wk also r ⟨[], []⟩).1.fi.length qc, .slice qla (wk also r ⟨[], []⟩).1.la.length qlc, .slice fa (wk also r ⟨[], []⟩).2.fol.length fc, .bool false] (set_same _ _ _) (by simp) rfl (by simp) ?_
    rw [set_set]
    refine lk_same (hr _) ?_
    refine St1.to (lO ⟨sa, sc, qa, qc, qla, qlc, fa, fc⟩ (plc r)) (set_same _ _ _) (by simp) rfl (by simp [plc]) ?_
    rw [set_set]
    refine get5 (set_same _ _ _) ?_
    have h2f : (m9.set b5 (.cells (lO ⟨sa, sc, qa, qc, qla, qlc, fa, fc⟩ (plc r)) T_place_Places (0, 0))) b2 = _ := (set_other _ _ hne52).trans l29.at_
    refine put5 h2f rfl rfl rfl rfl rfl ?_
    refine get5 (A := ⟨sa, sc, qa, qc, qla, qlc, fa, fc⟩) (p := plc r) (set_same _ _ _) ?_
    have hch : Chg (fun b => b = b5 ∨ b = b2) m9 ((m9.set b5 (.cells (lO ⟨sa, sc, qa, qc, qla, qlc, fa, fc⟩ (plc r)) T_place_Places (0, 0))).set b2 (.cells (lO ⟨sa, sc, qa, qc, qla, qlc, fa, fc⟩ (plc r)) T_place_Places (0, 0))) :=
      ⟨fun b o hb hn => by rw [set_other _ _ (fun e => hn (.inr e)), set_other _ _ (fun e => hn (.inl e))]; exact hb, fun b hb => (Chg.set _ b2 _).live b ((Chg.set m9 b5 _).live b hb)⟩
    have hV : Le V5 ((m9.set b5 (.cells (lO ⟨sa, sc, qa, qc, qla, qlc, fa, fc⟩ (plc r)) T_place_Places (0, 0))).set b2 (.cells (lO ⟨sa, sc, qa, qc, qla, qlc, fa, fc⟩ (plc r)) T_place_Places (0, 0))) := fun b o hb => by
      refine hch.eq b o (p9.le b o hb) (fun e => ?_)
      rcases e with rfl | rfl
      · rw [p9.nV b (.inl rfl)] at hb; cases hb
      · rw [l29.hid] at hb; cases hb
    have hap : ∀ b, (blk sa = some b ∨ blk fa = some b) → ¬ (b = b5 ∨ b = b2) := by
      rintro b (hb | hb) (rfl | rfl)
      · exact p9.s1 hb
      · exact l29.out (.inr (.inl hb))
      · exact p9.f1 hb
      · exact l29.out (.inr (.inr hb))
    refine k _ ⟨sa, sc, qa, qc, qla, qlc, fa, fc⟩ (g5.le.trans hV) ⟨(p9.os.chg hch (fun b hb => hap b (.inl hb))).cells, cq.le hV, cql.le hV, fv, (p9.of.chg hch (fun b hb => hap b (.inr hb))).cells, p9.rows.le hV⟩
end Go.E.Pl
set_option linter.unusedVariables false
set_option linter.unusedSimpArgs false
set_option maxRecDepth 20000
namespace Go.E.Rg
open Go.H Go.E
attribute [local irreducible] BiN MkS ConvN LookN MapUpN CallV HC limb dbTab
section
variable {m mm m3 m' : Mem} {a : Option Addr} {c : Nat} {prs : List (Rx × Value)} {r : Nat}
theorem RL.up {S : Nat → Prop} (h : RL m mm a c prs) (k : Chg S mm m3) (hs : ∀ b, S b → m b ≠ none) : RL m m3 a c prs := by
  refine ⟨h.own.chg k (fun b hb hS => hs b hS (h.fr b hb)), h.fr, fun p hp => (h.ok p hp).le ?_⟩
  exact on_mono k (fun b hb _ hS => hs b hS hb.1) (fun b hb _ => hb)
theorem RL.part (h : RL m mm a c prs) (k : Le mm m') {p : Rx × Value} (hp : p ∈ prs) : ArgC (newB m m') p.1 p.2 :=
  (h.ok p hp).le (on_mono (k.chg fun _ => False) (fun _ _ _ h => h) (fun b hb _ => hb.1))
theorem RL.arg (h : RL m mm a c prs) (k : Le mm m') (hl : prs.length ≤ 9223372036854775807) (kd : Int) (S : Nat → Bool) : ArgC (newB m m') (.mk kd S (prs.map (·.1))) (.slice a prs.length c) :=
  .mk h.own.cap hl (CellsAt.on (h.own.cells.le k) (fun b hb => h.fr b hb)) (fun p hp => h.part k hp)
theorem RL.in_ (h : RL m mm a c prs) (hm : ∀ b, m b ≠ none → mm b ≠ none) {x : Rx} {v : Value} (hx : ArgC (newB mm m3) x v) : ArgC (on m3 fun b => m b = none ∧ blk a ≠ some b) x v := by
  refine hx.le ?_
  intro b o hb
  obtain ⟨h1, h2⟩ := on_live hb
  have e1 : m b = none := by
    cases e : m b with
    | none => rfl
    | some o => exact absurd h1 (hm b (by rw [e]; simp))
  have e2 : blk a ≠ some b := fun e => h.own.live b e h1
  rw [on_in (G := fun b => m b = none ∧ blk a ≠ some b) ⟨e1, e2⟩]; exact h2
theorem RL.push (h : RL m mm a c prs) {x : Rx} {v : Value} (hv : notOne v = false) (hx : ArgC (on mm fun b => m b = none ∧ blk a ≠ some b) x v) (hlen : prs.length ≤ 1000000000) (hmm : ∀ b, m b ≠ none → mm b ≠ none) {ty : TypeId} {cs : Array Bool} {K : Value → Mem → Prop} {Pn : List PanicEntry → Mem → Prop}
    (k : ∀ a' c' m5, Chg (fun b => blk a = some b) mm m5 → RL m m5 a' c' (prs ++ [(x, v)]) → K (.slice a' (prs.length + 1) c') m5) :
    ∀ b, mm b = none → BiN P .append #[T_sl_api_Rx, T_sl_api_Rx] ty cs #[.slice a prs.length c, .slice (some ⟨b, 0, none⟩) 1 1] (mm.set b (.cells #[.int .i64 x.k, .int .u64 (L x.S 0), .int .u64 (L x.S 1), .int .u64 (L x.S 2), .int .u64 (L x.S 3), v] T_api_Rx (0, 0))) K Pn := by
  refine push_row eRx (by decide) h.own rfl ?_ hlen (by decide) ?_
  · intro u hu
    simp only [List.mem_cons, List.not_mem_nil, or_false] at hu
    rcases hu with rfl | rfl | rfl | rfl | rfl | rfl <;> first | rfl | exact hv
  intro a' c' m5 hch ho hfr
  have hf' : Fresh m a' := by
    rcases hfr with e | e
    · intro b hb; rw [e] at hb; exact h.fr b hb
    · intro b hb
      have := e b hb
      cases e2 : m b with
      | none => rfl
      | some o => exact absurd this (hmm b (by rw [e2]; simp))
  have hle : Le (on mm fun b => m b = none ∧ blk a ≠ some b) (on m5 fun b => m b = none ∧ blk a' ≠ some b) := by
    refine on_mono hch (fun b hb _ hS => hb.2 hS) (fun b hb hl => ⟨hb.1, fun e => ?_⟩)
    rcases hfr with e2 | e2
    · rw [e2] at e; exact hb.2 e
    · exact hl (e2 b e)
  refine k a' c' m5 hch ⟨?_, hf', ?_⟩
  · rw [List.flatMap_append, List.length_append]
    exact ho
  · intro p hp
    rcases List.mem_append.mp hp with hp | hp
    · exact (h.ok p hp).le hle
    · have : p = (x, v) := by simpa using hp
      subst this
      exact hx.le hle
theorem RL.one (hb : m3 r = none) (hm : ∀ b, m b ≠ none → m3 b ≠ none) {x : Rx} {v : Value} (hx : ArgC (newB m m3) x v) : RL m (m3.set r (.cells #[.int .i64 x.k, .int .u64 (L x.S 0), .int .u64 (L x.S 1), .int .u64 (L x.S 2), .int .u64 (L x.S 3), v] T_api_Rx (0, 0))) (some ⟨r, 0, none⟩) 1 [(x, v)] := by
  have hmr : m r = none := by
    cases e : m r with
    | none => rfl
    | some o => exact absurd hb (hm r (by rw [e]; simp))
  refine ⟨⟨by simp [rxRow], .inr ⟨r, _, rfl, set_same _ _ _, Nat.le_refl _, by simp, by simp [rxRow], by omega⟩⟩, fun b e => by cases e; exact hmr, ?_⟩
  intro p hp
  have : p = (x, v) := by simpa using hp
  subst this
  refine hx.le ?_
  refine on_mono ((Le.set hb _).chg fun _ => False) (fun _ _ _ h => h) (fun b h1 h2 => ⟨h1, fun e => ?_⟩)
  cases e
  exact h2 hb
end
abbrev zRx : Array Value := #[.int .i64 0, .int .u64 0, .int .u64 0, .int .u64 0, .int .u64 0, .slice none 0 0]
end Go.E.Rg
set_option linter.unusedVariables false
set_option linter.unusedSimpArgs false
set_option maxRecDepth 20000
namespace Go.E.Rg
open Go.H Go.E
attribute [local irreducible] BiN MkS ConvN LookN MapUpN CallV HC limb dbTab
theorem Cl.app {T : TypeId} {m m1 mm m' : Mem} {r b : Nat} {c : Array Value} {a : Option Addr} (h : Cl T m mm r b c) (k : Chg (fun x => blk a = some x) mm m') (hf : Fresh m1 a) (hb : m1 b ≠ none) (hm : ∀ b, m b ≠ none → m1 b ≠ none) : Cl T m m' r b c := by
  refine ⟨k.eq _ _ h.at_ (fun e => hb (hf b e)), h.ne, h.new, ?_⟩
  refine h.ch.trans k (fun x hx e => ?_)
  exact absurd (hf x e) (hm x hx)
end Go.E.Rg
set_option linter.unusedVariables false
set_option linter.unusedSimpArgs false
set_option maxRecDepth 20000
namespace Go.E.Rg
open Go.H Go.E
attribute [local irreducible] BiN MkS ConvN LookN MapUpN CallV HC limb dbTab
abbrev ptr (b : Nat) : Value := .pointer (some ⟨b, 0, none⟩)
end Go.E.Rg
set_option linter.unusedVariables false
set_option linter.unusedSimpArgs false
set_option maxRecDepth 20000
namespace Go.E.Rg
open Go.H Go.E
attribute [local irreducible] BiN MkS ConvN LookN MapUpN CallV HC limb dbTab
theorem ContU.mk {K : Mem → Prop} {Pn : List PanicEntry → Mem → Prop} {m : Mem} (h : K m) : Cont (fun v m => UnTup v fun us0 => UnNil us0 (K m)) Pn (.returned (.tuple #[])) m := h
end Go.E.Rg
set_option linter.unusedVariables false
set_option linter.unusedSimpArgs false
set_option maxRecDepth 20000
namespace Go.E.Rg
open Go.H Go.E
attribute [local irreducible] BiN MkS ConvN LookN MapUpN CallV HC limb dbTab
theorem IxS.blk {m : Mem} {b n i : Nat} {vs : List Value} {e : TypeId} {fr : Nat × Nat} {v : Value} (h : m b = some (.cells vs.toArray e fr)) (hi : i < n) (hv : vs[i]? = some v) {K : Value → Prop} (k : K v) : IxS (some ⟨b, 0, none⟩) n (i : Int) 1 fun b o => LdV m b o K := by
  refine ⟨by omega, by omega, ?_⟩
  refine LdV.mk (v := v) ?_ k
  refine cell_of h ?_
  rw [show (0 + (i : Int).toNat * 1) = i by omega]
  simpa using hv
end Go.E.Rg
set_option linter.unusedVariables false
set_option linter.unusedSimpArgs false
set_option maxRecDepth 20000
namespace Go.E.Rg
open Go.H Go.E
attribute [local irreducible] BiN MkS ConvN LookN MapUpN CallV HC limb dbTab
theorem wo_chg {m m' : Mem} {r : Nat} (k : Chg (fun b => b = r) m m') : Le (m.wo fun b => b = r) (m'.wo fun b => b = r) := fun b o hb => by
  by_cases e : b = r
  · rw [wo_out (F := fun b => b = r) e] at hb; cases hb
  · rw [wo_in (F := fun b => b = r) e] at hb ⊢
    exact k.eq b o hb e
/-- Numbers, some of them left; where they lie nothing turns (B). -/
def Pk (B m : Mem) (r : Nat) (l : List UInt8) : Prop := ∃ (la : Option Addr) (cap : Nat) (ps : List UInt8) (n : Nat), m r = some (.cells #[.slice la ps.length cap, .int .i64 (n : Int)] T_eyotplay_Picks (0, 0)) ∧ CellsAt B la (u8s ps) ∧ Le B (m.wo fun b => b = r) ∧ n ≤ ps.length ∧ ps.length ≤ 1000000 ∧ ps.drop n = l
section
variable {B m m' : Mem} {r b : Nat} {l : List UInt8}
theorem Pk.le (h : Pk B m r l) (k : Le m m') : Pk B m' r l := by
  obtain ⟨la, cap, ps, n, h1, h2, h3, h4⟩ := h
  exact ⟨la, cap, ps, n, k _ _ h1, h2, h3.trans (wo_chg (k.chg _)), h4⟩
theorem Pk.live (h : Pk B m r l) : m r ≠ none := by
  obtain ⟨la, cap, ps, n, h1, _⟩ := h
  rw [h1]; simp
theorem Pk.base (h : Pk B m r l) : Le B m := by
  obtain ⟨la, cap, ps, n, h1, h2, h3, h4⟩ := h
  exact h3.trans (wo_le _ _)
/-- Something new is written elsewhere. -/
theorem Pk.oth (h : Pk B m r l) (hb : b ≠ r) (hB : B b = none) (o : Obj) : Pk B (m.set b o) r l := by
  obtain ⟨la, cap, ps, n, h1, h2, h3, h4⟩ := h
  refine ⟨la, cap, ps, n, (set_other _ _ hb.symm).trans h1, h2, fun x o' hx => ?_, h4⟩
  have := h3 x o' hx
  by_cases e : x = r
  · rw [wo_out (F := fun b => b = r) e] at this; cases this
  · rw [wo_in (F := fun b => b = r) e] at this ⊢
    rw [set_other _ _ (fun e2 => by subst e2; rw [hB] at hx; cases hx)]; exact this
end
theorem Num_spec {B m : Mem} {r k : Nat} {l : List UInt8} (hp : Pk B m r l) (hk : 0 < k) {R : Ending → Mem → Prop} (h : ∀ m', Chg (fun b => b = r) m m' → Pk B m' r l.tail → R (.returned (.int .i64 (num l k : Nat))) m') :
    HC P eyotplay_Picks_Num.id #[.pointer (some ⟨r, 0, none⟩), .int .i64 (k : Int)] m R := by
  obtain ⟨la, cap, ps, n, h1, hB, h2, hn, hl, rfl⟩ := hp
  refine eyotplay_Picks_Num.ok _ _ _ _ ?_
  refine Sub.all ?_
  refine LdV.s1 h1 (UnI.mk ?_)
  refine LdV.s0 h1 (UnS.mk ?_)
  refine BrD (fun hge => ?_) (fun hlt => ?_)
  · have hz : ps.drop n = [] := List.drop_eq_nil_of_le (by omega)
    have := h m (Chg.refl _ _) ⟨la, cap, ps, n, h1, hB, h2, hn, hl, by rw [hz]; rfl⟩
    rw [hz] at this
    exact this
  have hnl : n < ps.length := by omega
  refine LdV.s1 h1 (UnI.mk ?_)
  rw [wi (n := (n : Int) + 1) (by omega) (by omega)]
  refine St1.to #[.slice la ps.length cap, .int .i64 ((n + 1 : Nat) : Int)] h1 (by simp) rfl rfl ?_
  have hch := Chg.set m r (.cells #[.slice la ps.length cap, .int .i64 ((n + 1 : Nat) : Int)] T_eyotplay_Picks (0, 0))
  have h1' : (m.set r (.cells #[.slice la ps.length cap, .int .i64 ((n + 1 : Nat) : Int)] T_eyotplay_Picks (0, 0))) r = _ := set_same _ _ _
  generalize m.set r (.cells #[.slice la ps.length cap, .int .i64 ((n + 1 : Nat) : Int)] T_eyotplay_Picks (0, 0)) = m2 at hch h1' ⊢
  have h2' := h2.trans (wo_chg hch)
  refine Sub.all ?_
  refine LdV.s0 h1' (UnS.mk ?_)
  refine LdV.s1 h1' (UnI.mk ?_)
  rw [wi (n := ((n + 1 : Nat) : Int) - 1) (by omega) (by omega), show ((n + 1 : Nat) : Int) - 1 = (n : Int) by omega]
  refine IxS.u8s (hB.le (h2'.trans (wo_le _ _))) rfl (by omega) (by omega) ?_
  intro x hx
  rw [Int.toNat_natCast] at hx
  refine UnI.mk ?_
  have hd : ps.drop n = x :: ps.drop (n + 1) := by
    rw [List.drop_eq_getElem_cons hnl]
    rw [List.getElem?_eq_getElem hnl] at hx
    cases hx; rfl
  have hxl := UInt8.toNat_lt x
  refine NzI.mk (by omega) ?_
  rw [wi (by omega) (by omega)]
  have := h m2 hch ⟨la, cap, ps, n + 1, h1', hB, h2', by omega, hl, by rw [hd]; rfl⟩
  rw [hd] at this
  have e : Int.tmod ((x.toNat : Nat) : Int) (k : Int) = ((num (x :: ps.drop (n + 1)) k : Nat) : Int) := by
    unfold num
    rw [Int.tmod_eq_emod_of_nonneg (by omega)]
    exact (Int.natCast_emod _ _).symm
  rw [e]
  exact this
/-- A row of bytes of one's own. -/
theorem new_row {m : Mem} {bs : List UInt8} {K : Nat → Mem → Prop} (h : ∀ b m', Le m m' → CellsAt m' (some ⟨b, 0, none⟩) (u8s bs) → K b m') : NewC m (u8s bs).toArray T_uint8 K := fun b hb =>
  h b _ (Le.set hb _) (cells_at (set_same _ _ _) (by simp))
theorem Set_spec {B m : Mem} {r : Nat} {l : List UInt8} (hp : Pk B m r l) {R : Ending → Mem → Prop} (h : ∀ m', Chg (fun b => b = r) m m' → Pk B m' r (psR l) → R (.returned (setv (psS l))) m') :
    HC P eyotplay_Picks_Set.id #[.pointer (some ⟨r, 0, none⟩)] m R := by
  refine eyotplay_Picks_Set.ok _ _ _ ?_
  intro b2 hb2
  have c2 := Cl.mk0 (T := T_api_Set) (c := z4) hp.live hb2
  have hBb : B b2 = none := hp.base.new hb2
  have hp1 := hp.le (Le.set hb2 (.cells z4 T_api_Set (0, 0)))
  generalize m.set b2 (.cells z4 T_api_Set (0, 0)) = m1 at c2 hp1 ⊢
  refine Num_spec (k := 7) hp1 (by decide) ?_
  intro m2 hch2 hp2
  have c3 := c2.step hch2
  dsimp only [Cont]
  refine UnI.mk ?_
  have h7 := num_lt l (m := 7) (by decide)
  -- the end: this set is told
  have fin : ∀ (S : Nat → Bool) (mm : Mem), Chg (fun b => b = r) m2 mm → Pk B mm r (psR l) → S = psS l →
      St1 mm b2 0 (.int .u64 (L S 0)) fun m1 => St1 m1 b2 1 (.int .u64 (L S 1)) fun m2 => St1 m2 b2 2 (.int .u64 (L S 2)) fun m3 => St1 m3 b2 3 (.int .u64 (L S 3)) fun m4 =>
        LdV m4 b2 0 fun v => UnI v .u64 fun x0 => LdV m4 b2 1 fun v => UnI v .u64 fun x1 => LdV m4 b2 2 fun v => UnI v .u64 fun x2 => LdV m4 b2 3 fun v => UnI v .u64 fun x3 => R (.returned (.agg #[.int .u64 x0, .int .u64 x1, .int .u64 x2, .int .u64 x3])) m4 := by
    rintro S mm hch hpm rfl
    have c4 := c3.step hch
    refine out4 c4.at_ ?_
    refine h _ (c4.put _).ch ?_
    exact hpm.oth c4.ne hBb _
  have hR : ∀ c, num l 7 = c → c ≤ 3 → psR l = l.tail := fun c h h' => by unfold psR; rw [if_pos (by omega)]
  refine BrE (fun e => ?_) (fun e => ?_)
  · have e : num l 7 = 0 := by omega
    refine new_row (bs := [97, 98]) ?_
    intro b m3 hle3 hc
    refine ROf_spec hc rfl (by decide) ?_
    intro m4 hle4
    refine ContSet.mk ?_
    exact fin _ m4 ((hle3.trans hle4).chg _) (by rw [hR 0 e (by decide)]; exact hp2.le (hle3.trans hle4)) (by unfold psS; rw [if_pos e])
  have e : num l 7 ≠ 0 := by omega
  refine BrE (fun e1 => ?_) (fun e1 => ?_)
  · have e1 : num l 7 = 1 := by omega
    refine new_row (bs := [98, 99, 100]) ?_
    intro b m3 hle3 hc
    refine ROf_spec hc rfl (by decide) ?_
    intro m4 hle4
    refine ContSet.mk ?_
    exact fin _ m4 ((hle3.trans hle4).chg _) (by rw [hR 1 e1 (by decide)]; exact hp2.le (hle3.trans hle4)) (by unfold psS; rw [if_neg e, if_pos e1])
  have e1 : num l 7 ≠ 1 := by omega
  refine BrE (fun e2 => ?_) (fun e2 => ?_)
  · have e2 : num l 7 = 2 := by omega
    refine new_row (bs := [97, 10]) ?_
    intro b m3 hle3 hc
    refine ROf_spec hc rfl (by decide) ?_
    intro m4 hle4
    refine ContSet.mk ?_
    refine RNot_spec ?_
    intro m5 hle5
    refine ContSet.mk ?_
    have hle := (hle3.trans hle4).trans hle5
    exact fin _ m5 (hle.chg _) (by rw [hR 2 e2 (by decide)]; exact hp2.le hle) (by unfold psS; rw [if_neg e, if_neg e1, if_pos e2])
  have e2 : num l 7 ≠ 2 := by omega
  refine BrE (fun e3 => ?_) (fun e3 => ?_)
  · have e3 : num l 7 = 3 := by omega
    refine new_row (bs := [48, 49, 50]) ?_
    intro b m3 hle3 hc
    refine ROf_spec hc rfl (by decide) ?_
    intro m4 hle4
    refine ContSet.mk ?_
    exact fin _ m4 ((hle3.trans hle4).chg _) (by rw [hR 3 e3 (by decide)]; exact hp2.le (hle3.trans hle4)) (by unfold psS; rw [if_neg e, if_neg e1, if_neg e2, if_pos e3])
  have e3 : num l 7 ≠ 3 := by omega
  refine Num_spec (k := 6) hp2 (by decide) ?_
  intro m3 hch3 hp3
  dsimp only [Cont]
  refine UnI.mk ?_
  have h6 := num_lt l.tail (m := 6) (by decide)
  have hsz : (ByteArray.mk #[97, 98, 49, 10, 32, 45]).size = 6 := rfl
  refine ⟨by omega, by omega, ?_⟩
  have hbt : bt (ByteArray.mk #[97, 98, 49, 10, 32, 45]) (num l.tail 6 : Nat) = (((few.getD (num l.tail 6) 0).toNat : Nat) : Int) := by
    generalize num l.tail 6 = q at h6
    have : q = 0 ∨ q = 1 ∨ q = 2 ∨ q = 3 ∨ q = 4 ∨ q = 5 := by omega
    rcases this with rfl | rfl | rfl | rfl | rfl | rfl <;> rfl
  rw [hbt]
  refine new_row (bs := [few.getD (num l.tail 6) 0]) ?_
  intro b m4 hle4 hc
  refine ROf_spec hc rfl (by simp) ?_
  intro m5 hle5
  refine ContSet.mk ?_
  have hle := hle4.trans hle5
  refine fin _ m5 (hch3.trans (hle.chg _) (fun _ _ e => e)) ?_ ?_
  · have : psR l = l.tail.tail := by unfold psR; rw [if_neg (by omega)]
    rw [this]; exact hp3.le hle
  · unfold psS; rw [if_neg e, if_neg e1, if_neg e2, if_neg e3]
end Go.E.Rg
set_option linter.unusedVariables false
set_option linter.unusedSimpArgs false
set_option maxRecDepth 20000
namespace Go.E.Rg
open Go.H Go.E
attribute [local irreducible] BiN MkS ConvN LookN MapUpN CallV HC limb dbTab
theorem Pk.chg {B m m' : Mem} {r : Nat} {l : List UInt8} {S : Nat → Prop} (h : Pk B m r l) (k : Chg S m m') (hs : ∀ b, S b → b ≠ r ∧ B b = none) : Pk B m' r l := by
  obtain ⟨la, cap, ps, n, h1, h2, h3, h4⟩ := h
  refine ⟨la, cap, ps, n, k.eq _ _ h1 (fun hS => (hs r hS).1 rfl), h2, fun x o' hx => ?_, h4⟩
  have := h3 x o' hx
  by_cases e : x = r
  · rw [wo_out (F := fun b => b = r) e] at this; cases this
  · rw [wo_in (F := fun b => b = r) e] at this ⊢
    exact k.eq x o' this (fun hS => by rw [(hs x hS).2] at hx; cases hx)
theorem Cl.with {T : TypeId} {m mm : Mem} {r b b' : Nat} {c : Array Value} (h : Cl T m mm r b c) (hne : b ≠ b') (o : Obj) (hm : m b' = none) : Cl T m (mm.set b' o) r b c := by
  refine ⟨(set_other _ _ hne).trans h.at_, h.ne, h.new, ?_⟩
  refine h.ch.trans (Chg.set mm b' o) (fun x hx e => ?_)
  rw [show x = b' from e, hm] at hx; exact absurd rfl hx
def PrxOK (d : Nat) : Prop := ∀ {B m : Mem} {r : Nat} {l : List UInt8} {R : Ending → Mem → Prop}, Pk B m r l → (∀ m' v, Chg (fun b => b = r) m m' → Pk B m' r (prx d l).2 → ArgC (newB m m') (prx d l).1 v → R (.returned (rxA (prx d l).1.k (prx d l).1.S v)) m') → HC P eyotplay_Picks_Rx.id #[.pointer (some ⟨r, 0, none⟩), .int .i64 (d : Int)] m R
section
variable {B m m1 : Mem} {r b4 b8 : Nat} {d n : Nat} {kind : Int} {l0 : List UInt8} {R : Ending → Mem → Prop}
/-- One more part is put on. -/
theorem k5_spec {K3 : Option Addr → Int → Nat → Nat → Int → Int → Nat → Nat → Int → Mem → Prop} {x0 : Option Addr} {x1 : Int} {x4o : Nat} {i : Nat} {mm : Mem} {b10 : Nat} {a : Option Addr} {c : Nat} {prs : List (Rx × Value)} {y : Rx} {a' : Option Addr} {l' c' : Nat} {lr : List UInt8}
    (hle1 : Le B m1) (hrl1 : m1 r ≠ none) (hl4 : m1 b4 ≠ none) (hl8 : m1 b8 ≠ none) (hup : ∀ b, m b ≠ none → m1 b ≠ none) (h48 : b4 ≠ b8) (hm8 : m b8 = none)
    (c4 : Cl T_api_Rx m mm r b4 zRx) (c8 : Cl T_api_Rx m mm r b8 (rxO kind noS (.slice a prs.length c))) (hL : RL m1 mm a c prs) (hp : Pk B mm r lr) (hupm : ∀ b, m1 b ≠ none → mm b ≠ none)
    (h10 : mm b10 = some (.cells (rxO y.k y.S (.slice a' l' c')) T_api_Rx (0, 0))) (hy : ArgC (on mm fun b => m1 b = none ∧ blk a ≠ some b) y (.slice a' l' c')) (hlen : prs.length ≤ 100) (hi : i ≤ 100) (hB8 : B b8 = none)
    (hK : ∀ m' a2 c2, Cl T_api_Rx m m' r b4 zRx → Cl T_api_Rx m m' r b8 (rxO kind noS (.slice a2 (prs.length + 1) c2)) → RL m1 m' a2 c2 (prs ++ [(y, .slice a' l' c')]) → Pk B m' r lr → (∀ b, m1 b ≠ none → m' b ≠ none) → K3 x0 x1 b4 x4o kind (n : Int) b8 0 ((i + 1 : Nat) : Int) m') :
    eyotplay_Picks_Rx.k5 K3 x0 x1 b4 x4o kind (n : Int) b8 0 (i : Int) b10 0 R mm := by
  unfold eyotplay_Picks_Rx.k5
  refine LdV.s5 c8.at_ (UnS.mk ?_)
  refine get6 h10 ?_
  refine RL.push hL (x := y) rfl hy (by omega) hupm ?_
  intro a2 c2 m5 hch5 hL5
  refine UnS.mk ?_
  have c45 := c4.app hch5 hL.fr hl4 hup
  have c85 := c8.app hch5 hL.fr hl8 hup
  have hp5 := hp.chg hch5 (fun b hb => ⟨fun e => by subst e; exact hrl1 (hL.fr b hb), hle1.new (hL.fr b hb)⟩)
  have hup5 : ∀ b, m1 b ≠ none → m5 b ≠ none := fun b hb => hch5.live b (hupm b hb)
  refine St1.to (rxO kind noS (.slice a2 (prs.length + 1) c2)) c85.at_ (by simp [rxO]) rfl (by simp [rxO]) ?_
  rw [show IntKind.i64.wrap ((i : Int) + 1) = ((i + 1 : Nat) : Int) by rw [wi (by omega) (by omega)]; omega]
  refine hK _ a2 c2 (c45.with h48 _ hm8) (c85.put _) (hL5.up (Chg.set m5 b8 _) (fun b e => by rw [show b = b8 from e]; exact hl8)) (hp5.oth c85.ne hB8 _) (fun b hb => (Chg.set m5 b8 _).live b (hup5 b hb))
end
theorem prx_spec : ∀ d, d ≤ 1000 → PrxOK d := by
  intro d
  induction d with
  | zero =>
    intro hd B m r l R hp k
    refine eyotplay_Picks_Rx.ok _ _ _ _ ?_
    intro b4 hb4
    have c4 := Cl.mk0 (T := T_api_Rx) (c := zRx) hp.live hb4
    have hB4 : B b4 = none := hp.base.new hb4
    have hp1 := hp.le (Le.set hb4 (.cells zRx T_api_Rx (0, 0)))
    generalize m.set b4 (.cells zRx T_api_Rx (0, 0)) = m1 at c4 hp1 ⊢
    refine Num_spec (k := 9) hp1 (by decide) ?_
    intro m2 hch2 hp2
    dsimp only [Cont]
    refine UnI.mk ?_
    refine BrDt (by omega) ?_
    unfold eyotplay_Picks_Rx.k1
    refine Br.t rfl ?_
    refine Set_spec hp2 ?_
    intro m3 hch3 hp3
    refine ContSet.mk ?_
    have c5 := (c4.step hch2).step hch3
    refine out6 (S := psS l.tail) c5.at_ ?_
    exact k _ (.slice none 0 0) (c5.put _).ch (hp3.oth c5.ne hB4 _) ArgC.none
  | succ d ih =>
    intro hd B m r l R hp k
    refine eyotplay_Picks_Rx.ok _ _ _ _ ?_
    intro b4 hb4
    have c4 := Cl.mk0 (T := T_api_Rx) (c := zRx) hp.live hb4
    have hB4 : B b4 = none := hp.base.new hb4
    have hle0 : Le m (m.set b4 (.cells zRx T_api_Rx (0, 0))) := Le.set hb4 _
    have hp1 := hp.le hle0
    have hl40 : (m.set b4 (.cells zRx T_api_Rx (0, 0))) b4 ≠ none := by rw [set_same]; simp
    generalize m.set b4 (.cells zRx T_api_Rx (0, 0)) = m0 at c4 hp1 hle0 hl40 ⊢
    refine Num_spec (k := 9) hp1 (by decide) ?_
    intro m2 hch2 hp2
    dsimp only [Cont]
    refine UnI.mk ?_
    have c42 := c4.step hch2
    have hl42 : m2 b4 ≠ none := hch2.live _ hl40
    have hup2 : ∀ b, m b ≠ none → m2 b ≠ none := fun b hb => hch2.live b (hle0.live hb)
    refine BrDf (by omega) ?_
    have h9 := num_lt l (m := 9) (by decide)
    have hprx : prx (d + 1) l = (if num l 9 < 4 then (st (psS l.tail), psR l.tail)
      else if kindOf (num l 9) ≤ 3 then (.mk (kindOf (num l 9)) noS (kidsF (prx d) (kindOf (num l 9)) (2 + num l.tail 2) l.tail.tail).1, (kidsF (prx d) (kindOf (num l 9)) (2 + num l.tail 2) l.tail.tail).2)
      else (.mk (kindOf (num l 9)) noS (kidsF (prx d) (kindOf (num l 9)) 1 l.tail).1, (kidsF (prx d) (kindOf (num l 9)) 1 l.tail).2)) := rfl
    unfold eyotplay_Picks_Rx.k1
    refine BrD (fun hlt => ?_) (fun hge => ?_)
    · rw [hprx, if_pos (by omega)] at k
      refine Set_spec hp2 ?_
      intro m3 hch3 hp3
      refine ContSet.mk ?_
      have c5 := c42.step hch3
      refine out6 (S := psS l.tail) c5.at_ ?_
      exact k _ (.slice none 0 0) (c5.put _).ch (hp3.oth c5.ne hB4 _) ArgC.none
    rw [hprx, if_neg (by omega)] at k
    have hki : kindOf (num l 9) = 2 + (((num l 9 + 1) % 5 : Nat) : Int) := rfl
    have ekind : IntKind.i64.wrap (2 + (Int.tmod (IntKind.i64.wrap (((num l 9 : Nat) : Int) + 1)) 5)) = kindOf (num l 9) := by
      rw [wi (n := ((num l 9 : Nat) : Int) + 1) (by omega) (by omega)]
      have : Int.tmod (((num l 9 : Nat) : Int) + 1) 5 = (((num l 9 + 1) % 5 : Nat) : Int) := by
        rw [Int.tmod_eq_emod_of_nonneg (by omega)]; omega
      rw [this, hki, wi (by omega) (by omega)]
    rw [ekind]
    have hkin := kindOf_in (num l 9)
    generalize kindOf (num l 9) = kind at k hkin ⊢
    -- so many parts
    have parts : ∀ (n : Nat) (l0 : List UInt8) (m3 : Mem), n ≤ 3 → Chg (fun b => b = r) m2 m3 → Pk B m3 r l0 →
        (∀ m' v, Chg (fun b => b = r) m m' → Pk B m' r (kidsF (prx d) kind n l0).2 → ArgC (newB m m') (.mk kind noS (kidsF (prx d) kind n l0).1) v → R (.returned (rxA kind noS v)) m') →
        eyotplay_Picks_Rx.k2 (some ⟨r, 0, none⟩) ((d + 1 : Nat) : Int) b4 0 kind (n : Int) R m3 := by
      intro n l0 m3 hn hch3 hp3 hk
      unfold eyotplay_Picks_Rx.k2
      intro b8 hb8
      have c43 := c42.step hch3
      have hm8 : m b8 = none := c43.ch.new hb8
      have hB8 : B b8 = none := hp3.base.new hb8
      have h48 : b4 ≠ b8 := by rintro rfl; rw [c43.at_] at hb8; cases hb8
      have h8r : b8 ≠ r := by rintro rfl; exact hp3.live hb8
      have key := put6 (m := m3.set b8 (.cells zRx T_api_Rx (0, 0))) (b := b8) (k := kind) (S := noS) (a := none) (l := 0) (c := 0) (e := T_api_Rx) (K := fun m7 => eyotplay_Picks_Rx.l3 (some ⟨r, 0, none⟩) ((d + 1 : Nat) : Int) b4 0 kind (n : Int) b8 0 0 R m7) (set_same _ _ _) (by
        rw [set_set]
        have c44 : Cl T_api_Rx m (m3.set b8 (.cells (rxO kind noS (.slice none 0 0)) T_api_Rx (0, 0))) r b4 zRx := c43.le (Le.set hb8 _)
        have c84 : Cl T_api_Rx m (m3.set b8 (.cells (rxO kind noS (.slice none 0 0)) T_api_Rx (0, 0))) r b8 (rxO kind noS (.slice none 0 0)) := Cl.mkAt c43.ch hp.live hb8
        have hp4 := hp3.le (Le.set hb8 (.cells (rxO kind noS (.slice none 0 0)) T_api_Rx (0, 0)))
        have hl8 : (m3.set b8 (.cells (rxO kind noS (.slice none 0 0)) T_api_Rx (0, 0))) b8 ≠ none := by rw [set_same]; simp
        have hl4 : (m3.set b8 (.cells (rxO kind noS (.slice none 0 0)) T_api_Rx (0, 0))) b4 ≠ none := (Le.set hb8 _).live (hch3.live _ hl42)
        have hup : ∀ b, m b ≠ none → (m3.set b8 (.cells (rxO kind noS (.slice none 0 0)) T_api_Rx (0, 0))) b ≠ none := fun b hb => (Le.set hb8 _).live (hch3.live b (hup2 b hb))
        generalize m3.set b8 (.cells (rxO kind noS (.slice none 0 0)) T_api_Rx (0, 0)) = m1 at c44 c84 hp4 hl8 hl4 hup ⊢
        have hrl1 := hp4.live
        have hle1 := hp4.base
        refine ⟨fun N x0 x1 x4b x4o x6 x7 x8b x8o i mm => x0 = some ⟨r, 0, none⟩ ∧ x1 = ((d + 1 : Nat) : Int) ∧ x4b = b4 ∧ x4o = 0 ∧ x6 = kind ∧ x7 = (n : Int) ∧ x8b = b8 ∧ x8o = 0 ∧ ∃ (j : Nat) (a : Option Addr) (c : Nat) (prs : List (Rx × Value)) (l' : List UInt8), i = (j : Int) ∧ j ≤ n ∧ N = n - j ∧ prs.length = j ∧ Cl T_api_Rx m mm r b4 zRx ∧ Cl T_api_Rx m mm r b8 (rxO kind noS (.slice a prs.length c)) ∧ RL m1 mm a c prs ∧ Pk B mm r l' ∧ (∀ b, m1 b ≠ none → mm b ≠ none) ∧
            kidsF (prx d) kind n l0 = (prs.map (·.1) ++ (kidsF (prx d) kind (n - j) l').1, (kidsF (prx d) kind (n - j) l').2), n,
          ⟨rfl, rfl, rfl, rfl, rfl, rfl, rfl, rfl, 0, none, 0, [], l0, rfl, by omega, by omega, rfl, c44, c84, ⟨Own.nil _ _ _, Fresh.none _, fun p hp => by cases hp⟩, hp4, fun b hb => hb, by simp⟩, ?_⟩
        rintro N x0 x1 x4b x4o x6 x7 x8b x8o i mm ⟨g0, g1, g2, g3, g4, g5, g6, g7, j, a, c, prs, l', rfl, hj, rfl, hpj, cm4, cm8, hL, hpm, hupm, hkids⟩
        subst x0 x1 x4b x4o x6 x7 x8b x8o
        unfold eyotplay_Picks_Rx.l3B
        refine BrD (fun hlt => ?_) (fun hge => ?_)
        rotate_left
        · have hz : n - j = 0 := by omega
          rw [hz] at hkids
          have e0 : kidsF (prx d) kind 0 l' = ([], l') := rfl
          rw [e0, List.append_nil] at hkids
          refine get6 cm8.at_ ?_
          refine out6 (S := noS) cm4.at_ ?_
          have c5 := cm4.put (rxO kind noS (.slice a prs.length c))
          have hL5 := hL.up (Chg.set mm b4 (.cells (rxO kind noS (.slice a prs.length c)) T_api_Rx (0, 0))) (fun b e => by rw [show b = b4 from e]; exact hl4)
          rw [hkids] at hk
          exact hk _ (.slice a prs.length c) c5.ch (hpm.oth cm4.ne hB4 _) ((hL5.arg (Le.refl _) (by omega) kind noS).le (newB_up hup))
        have ed : IntKind.i64.wrap (((d + 1 : Nat) : Int) - 1) = (d : Int) := by rw [wi (by omega) (by omega)]; omega
        rw [ed]
        refine ih (by omega) hpm ?_
        intro m4 v hch4 hp5 hv
        obtain ⟨a', l'', c', rfl⟩ := hv.sl
        refine ContRx.mk ?_
        refine copyRx ?_
        intro b10 m8 hb10 hle8 h10
        have cm4' := (cm4.step hch4).le hle8
        have cm8' := (cm8.step hch4).le hle8
        have hL8 := (hL.up hch4 (fun b e => by rw [show b = r from e]; exact hrl1)).up (hle8.chg fun _ => False) (fun _ h => h.elim)
        have hp8 := hp5.le hle8
        have hup8 : ∀ b, m1 b ≠ none → m8 b ≠ none := fun b hb => hle8.live (hch4.live b (hupm b hb))
        have hin : ∀ {y : Rx} {w : Value} {m9 : Mem}, ArgC (newB mm m9) y w → ArgC (on m9 fun b => m1 b = none ∧ blk a ≠ some b) y w := fun h => hL.in_ hupm h
        have hx : ArgC (newB mm m8) (prx d l').1 (.slice a' l'' c') := hv.le (newB_le hle8)
        obtain ⟨q, hq⟩ : ∃ q, n - j = q + 1 := ⟨n - j - 1, by omega⟩
        have hq' : n - (j + 1) = q := by omega
        have hks : kidsF (prx d) kind (n - j) l' = ((kidF (prx d) kind l').1 :: (kidsF (prx d) kind q (kidF (prx d) kind l').2).1, (kidsF (prx d) kind q (kidF (prx d) kind l').2).2) := by rw [hq]; rfl
        rw [hks] at hkids
        -- this part, or a set in its place
        have k4 : ∀ z : Bool, (z = true ↔ ((prx d l').1.k = kind ∨ (4 ≤ kind ∧ 4 ≤ (prx d l').1.k))) → eyotplay_Picks_Rx.k4 (fun x0 x1 x4b x4o x6 x7 x8b x8o i mm => ∃ N1, N1 < n - j ∧ (x0 = some ⟨r, 0, none⟩ ∧ x1 = ((d + 1 : Nat) : Int) ∧ x4b = b4 ∧ x4o = 0 ∧ x6 = kind ∧ x7 = (n : Int) ∧ x8b = b8 ∧ x8o = 0 ∧ ∃ (j : Nat) (a : Option Addr) (c : Nat) (prs : List (Rx × Value)) (l' : List UInt8), i = (j : Int) ∧ j ≤ n ∧ N1 = n - j ∧ prs.length = j ∧ Cl T_api_Rx m mm r b4 zRx ∧ Cl T_api_Rx m mm r b8 (rxO kind noS (.slice a prs.length c)) ∧ RL m1 mm a c prs ∧ Pk B mm r l' ∧ (∀ b, m1 b ≠ none → mm b ≠ none) ∧
            kidsF (prx d) kind n l0 = (prs.map (·.1) ++ (kidsF (prx d) kind (n - j) l').1, (kidsF (prx d) kind (n - j) l').2))) (some ⟨r, 0, none⟩) ((d + 1 : Nat) : Int) b4 0 kind (n : Int) b8 0 (j : Int) b10 0 z R m8 := by
          intro z hz
          have goOn : ∀ {m9 : Mem} {y : Rx} {ay : Option Addr} {ly cy : Nat} {lr : List UInt8}, kidF (prx d) kind l' = (y, lr) → Cl T_api_Rx m m9 r b4 zRx → Cl T_api_Rx m m9 r b8 (rxO kind noS (.slice a prs.length c)) → RL m1 m9 a c prs → Pk B m9 r lr → (∀ b, m1 b ≠ none → m9 b ≠ none) → m9 b10 = some (.cells (rxO y.k y.S (.slice ay ly cy)) T_api_Rx (0, 0)) → ArgC (on m9 fun b => m1 b = none ∧ blk a ≠ some b) y (.slice ay ly cy) →
              eyotplay_Picks_Rx.k5 (fun x0 x1 x4b x4o x6 x7 x8b x8o i mm => ∃ N1, N1 < n - j ∧ (x0 = some ⟨r, 0, none⟩ ∧ x1 = ((d + 1 : Nat) : Int) ∧ x4b = b4 ∧ x4o = 0 ∧ x6 = kind ∧ x7 = (n : Int) ∧ x8b = b8 ∧ x8o = 0 ∧ ∃ (j : Nat) (a : Option Addr) (c : Nat) (prs : List (Rx × Value)) (l' : List UInt8), i = (j : Int) ∧ j ≤ n ∧ N1 = n - j ∧ prs.length = j ∧ Cl T_api_Rx m mm r b4 zRx ∧ Cl T_api_Rx m mm r b8 (rxO kind noS (.slice a prs.length c)) ∧ RL m1 mm a c prs ∧ Pk B mm r l' ∧ (∀ b, m1 b ≠ none → mm b ≠ none) ∧
                kidsF (prx d) kind n l0 = (prs.map (·.1) ++ (kidsF (prx d) kind (n - j) l').1, (kidsF (prx d) kind (n - j) l').2))) (some ⟨r, 0, none⟩) ((d + 1 : Nat) : Int) b4 0 kind (n : Int) b8 0 (j : Int) b10 0 R m9 := by
            intro m9 y ay ly cy lr hkf d4 d8 dL dp dup d10 dy
            refine k5_spec (m := m) (m1 := m1) hle1 hrl1 hl4 hl8 hup h48 hm8 d4 d8 dL dp dup d10 dy (by omega) (by omega) hB8 ?_
            intro m' a2 c2 e4 e8 eL ep eup
            refine ⟨n - (j + 1), by omega, rfl, rfl, rfl, rfl, rfl, rfl, rfl, rfl, j + 1, a2, c2, prs ++ [(y, .slice ay ly cy)], lr, rfl, by omega, rfl, by simp [hpj], e4, by rw [List.length_append]; exact e8, eL, ep, eup, ?_⟩
            rw [hq', hkids, hkf]
            simp
          unfold eyotplay_Picks_Rx.k4
          refine Br.mk (fun ht => ?_) (fun hf => ?_)
          · have hc := hz.mp ht
            have hkf : kidF (prx d) kind l' = (st (psS (prx d l').2), psR (prx d l').2) := by unfold kidF; rw [if_pos hc]
            refine Set_spec hp8 ?_
            intro m9 hch9 hp9
            refine ContSet.mk ?_
            have h10r : b10 ≠ r := by rintro rfl; exact hp5.live hb10
            have h109 := hch9.eq _ _ h10 h10r
            refine put6 (S := psS (prx d l').2) h109 ?_
            have hb10m1 : m1 b10 = none := by
              cases h : m1 b10 with
              | none => rfl
              | some o => exact absurd hb10 (hch4.live _ (hupm _ (by rw [h]; simp)))
            have hne4 : b4 ≠ b10 := by rintro rfl; exact hl4 hb10m1
            have hne8 : b8 ≠ b10 := by rintro rfl; exact hl8 hb10m1
            have hm10 : m b10 = none := by
              cases h : m b10 with
              | none => rfl
              | some o => exact absurd hb10m1 (hup _ (by rw [h]; simp))
            refine goOn hkf ((cm4'.step hch9).with hne4 _ hm10) ((cm8'.step hch9).with hne8 _ hm10) ?_ (hp9.oth h10r (hle1.new hb10m1) _) (fun b hb => (Chg.set m9 b10 _).live b (hch9.live b (hup8 b hb))) (set_same _ _ _) ArgC.none
            have hL9 := hL8.up hch9 (fun b e => by rw [show b = r from e]; exact hrl1)
            have hab : blk a ≠ some b10 := fun e => by
              have := (hL.up hch4 (fun b e => by rw [show b = r from e]; exact hrl1)).own.live b10 e
              exact this hb10
            have hchS := Chg.set m9 b10 (.cells (rxO 1 (psS (prx d l').2) (.slice none 0 0)) T_api_Rx (0, 0))
            refine ⟨hL9.own.chg hchS (fun b hb e => hab (by rw [hb]; rw [show b = b10 from e])), hL9.fr, fun p hpp => ?_⟩
            -- what the parts have lies elsewhere: it is older than b10
            have h0 := (hL.up hch4 (fun b e => by rw [show b = r from e]; exact hrl1)).ok p hpp
            refine h0.le ?_
            intro b o hb
            obtain ⟨g1, g2⟩ := on_live hb
            have hbne : b ≠ b10 := by rintro rfl; rw [hb10] at g2; cases g2
            have hbr : b ≠ r := fun e => hrl1 (e ▸ g1.1)
            rw [on_in (G := fun b => m1 b = none ∧ blk a ≠ some b) g1, set_other _ _ hbne]
            exact hch9.eq _ _ (hle8 _ _ g2) hbr
          · have hc : ¬ ((prx d l').1.k = kind ∨ (4 ≤ kind ∧ 4 ≤ (prx d l').1.k)) := by rw [← hz, hf]; decide
            have hkf : kidF (prx d) kind l' = ((prx d l').1, (prx d l').2) := by unfold kidF; rw [if_neg hc]
            exact goOn hkf cm4' cm8' hL8 hp8 hup8 h10 (hin hx)
        refine LdV.s0 h10 (UnI.mk ?_)
        refine BrE (fun e => ?_) (fun e => ?_)
        · exact k4 true (by simp [e])
        refine BrD (fun h4 => ?_) (fun h4 => ?_)
        · refine LdV.s0 h10 (UnI.mk ?_)
          refine k4 _ ?_
          simp only [ge_iff_le, decide_eq_true_eq]
          exact ⟨fun h => .inr ⟨by omega, h⟩, fun h => by rcases h with h | h; exact absurd h e; exact h.2⟩
        · refine k4 false ⟨fun h => (by cases h), fun h => ?_⟩
          rcases h with h | h
          · exact absurd h e
          · omega)
      rw [noS_L, noS_L, noS_L, noS_L] at key
      exact key
    refine BrD (fun h3 => ?_) (fun h3 => ?_)
    · rw [if_pos (by omega)] at k
      refine Num_spec (k := 2) hp2 (by decide) ?_
      intro m3 hch3 hp3
      dsimp only [Cont]
      refine UnI.mk ?_
      have h2 := num_lt l.tail (m := 2) (by decide)
      have e2 : IntKind.i64.wrap (2 + ((num l.tail 2 : Nat) : Int)) = ((2 + num l.tail 2 : Nat) : Int) := by rw [wi (by omega) (by omega)]; omega
      rw [e2]
      exact parts _ _ m3 (by omega) hch3 hp3 k
    · rw [if_neg (by omega)] at k
      exact parts 1 _ m2 (by omega) (Chg.refl _ _) hp2 k
end Go.E.Rg
set_option linter.unusedVariables false
set_option linter.unusedSimpArgs false
set_option maxRecDepth 20000
namespace Go.E.Rg
open Go.H Go.E
theorem kid_nodes {f : List UInt8 → Rx × List UInt8} {D : Nat} (hD : 1 ≤ D) (hf : ∀ l, nodes (f l).1 ≤ D) (kind : Int) (l : List UInt8) : nodes (kidF f kind l).1 ≤ D := by
  unfold kidF
  split
  · show nodes (st _) ≤ D
    unfold st
    rw [nodes_mk', nodesL_nil]; omega
  · exact hf l
theorem kids_nodes {f : List UInt8 → Rx × List UInt8} {D : Nat} (hD : 1 ≤ D) (hf : ∀ l, nodes (f l).1 ≤ D) (kind : Int) : ∀ (n : Nat) (l : List UInt8), nodesL (kidsF f kind n l).1 ≤ n * D
  | 0, l => by show nodesL [] ≤ _; rw [nodesL_nil]; omega
  | n + 1, l => by
    show nodesL ((kidF f kind l).1 :: _) ≤ _
    rw [nodesL_cons', Nat.add_mul, Nat.one_mul]
    have h1 := kid_nodes hD hf kind l
    have h2 := kids_nodes hD hf kind n (kidF f kind l).2
    omega
theorem prx_nodes : ∀ (d : Nat) (l : List UInt8), nodes (prx d l).1 ≤ 4 ^ d
  | 0, l => by
    show nodes (st _) ≤ _
    unfold st
    rw [nodes_mk', nodesL_nil]; simp
  | d + 1, l => by
    have hD : 1 ≤ 4 ^ d := Nat.pow_pos (by decide)
    have hs : ∀ S, nodes (st S) = 1 := fun S => by unfold st; rw [nodes_mk', nodesL_nil]
    unfold prx
    have h2 := num_lt l.tail (m := 2) (by decide)
    rw [Nat.pow_succ]
    split
    · show nodes (st _) ≤ _
      rw [hs]; omega
    split
    · show nodes (Rx.mk _ _ _) ≤ _
      rw [nodes_mk']
      have := kids_nodes hD (prx_nodes d) (kindOf (num l 9)) (2 + num l.tail 2) l.tail.tail
      have h3 : (2 + num l.tail 2) * 4 ^ d ≤ 3 * 4 ^ d := Nat.mul_le_mul_right _ (by omega)
      omega
    · show nodes (Rx.mk _ _ _) ≤ _
      rw [nodes_mk']
      have := kids_nodes hD (prx_nodes d) (kindOf (num l 9)) 1 l.tail
      omega
end Go.E.Rg
set_option linter.unusedVariables false
set_option linter.unusedSimpArgs false
set_option maxRecDepth 20000
namespace Go.E.Rg
open Go.H Go.E
attribute [local irreducible] BiN MkS ConvN LookN MapUpN CallV HC limb dbTab
/-- What Parse answers. -/
theorem ContPR.mk {k u0 u1 u2 u3 e : Int} {a : Option Addr} {l c : Nat} {K : Int → Int → Int → Int → Int → Option Addr → Nat → Nat → Int → Mem → Prop} {Pn : List PanicEntry → Mem → Prop} {m : Mem} (h : K k u0 u1 u2 u3 a l c e m) :
    Cont (fun v m => UnTup v fun us0 => UnCons us0 fun w us1 => UnAgg w fun l => UnCons l fun v l => UnI v .i64 fun x0 => UnCons l fun v l => UnI v .u64 fun x1 => UnCons l fun v l => UnI v .u64 fun x2 => UnCons l fun v l => UnI v .u64 fun x3 => UnCons l fun v l => UnI v .u64 fun x4 => UnCons l fun v l => UnS v fun xa xl xc => UnNil l (
      UnCons us1 fun w us2 => UnI w .i64 fun e => UnNil us2 (K x0 x1 x2 x3 x4 xa xl xc e m))) Pn
      (.returned (.tuple #[.agg #[.int .i64 k, .int .u64 u0, .int .u64 u1, .int .u64 u2, .int .u64 u3, .slice a l c], .int .i64 e])) m := h
/-- Parse told at once: what it answers, as an expression with a word why not. -/
def prs (l : List UInt8) : Rx × Int := match parse l with | .ok x => (x, 0) | .error e => (rx0, e)
theorem Made_spec {B m : Mem} {la : Option Addr} {cap : Nat} {ps : List UInt8} (hB : Le B m) (hc : CellsAt B la (u8s ps)) (hl : ps.length ≤ 1000000) {R : Ending → Mem → Prop} (h : ∀ m' r, Le m m' → m r = none → Pk B m' r ps → R (.returned (.pointer (some ⟨r, 0, none⟩))) m') :
    HC P eyotplay_Made.id #[.slice la ps.length cap] m R := by
  refine eyotplay_Made.ok _ _ _ _ _ ?_
  intro r hr
  refine h _ r (Le.set hr _) hr ⟨la, cap, ps, 0, set_same _ _ _, hc, le_wo (hB.trans (Le.set hr _)) (fun b e => by rw [show b = r from e]; exact hB.new hr), by omega, hl, by simp⟩
/-- An expression made of numbers. -/
theorem made_rx {B m : Mem} {la : Option Addr} {cap d : Nat} {ps : List UInt8} (hB : Le B m) (hc : CellsAt B la (u8s ps)) (hl : ps.length ≤ 1000000) (hd : d ≤ 1000) {R : Ending → Mem → Prop} {Pn : List PanicEntry → Mem → Prop}
    (h : ∀ m' a l c, Le m m' → ArgC m' (prx d ps).1 (.slice a l c) → R (.returned (rxA (prx d ps).1.k (prx d ps).1.S (.slice a l c))) m') :
    HC P eyotplay_Made.id #[.slice la ps.length cap] m (Cont (fun v m2 => UnP v fun x => HC P eyotplay_Picks_Rx.id #[.pointer x, .int .i64 (d : Int)] m2 R) Pn) := by
  refine Made_spec hB hc hl ?_
  intro m1 r hle1 hr hp
  dsimp only [Cont]
  refine UnP.mk ?_
  refine prx_spec d hd hp ?_
  intro m2 v hch hp2 hv
  obtain ⟨a, l, c, rfl⟩ := hv.sl
  exact h m2 a l c (hch.to_le hle1 (fun b e => by rw [show b = r from e]; exact hr)) (hv.le (on_le _ _))
/-- A result in a place of its own. -/
theorem own6 {m : Mem} {k : Int} {S : Nat → Bool} {a : Option Addr} {l c : Nat} {x0 x1 x2 x3 x4 x5 : Value} {K : Nat → Mem → Prop}
    (h : ∀ b m1, m b = none → Le m m1 → m1 b = some (.cells (rxO k S (.slice a l c)) T_api_Rx (0, 0)) → K b m1) :
    NewC m #[x0, x1, x2, x3, x4, x5] T_api_Rx fun b m1 => St1 m1 b 0 (.int .i64 k) fun m2 => St1 m2 b 1 (.int .u64 (L S 0)) fun m3 => St1 m3 b 2 (.int .u64 (L S 1)) fun m4 => St1 m4 b 3 (.int .u64 (L S 2)) fun m5 => St1 m5 b 4 (.int .u64 (L S 3)) fun m6 => St1 m6 b 5 (.slice a l c) fun m7 => K b m7 := copyRx h
end Go.E.Rg
set_option linter.unusedVariables false
set_option linter.unusedSimpArgs false
set_option maxRecDepth 20000
namespace Go.E.Pl
open Go.H Go.E Go.E.Rg
attribute [local irreducible] BiN MkS ConvN LookN MapUpN CallV HC limb dbTab
theorem plc_st (S : Nat → Bool) : plc (st S) = ⟨[S], [0], [0], [[]], false⟩ := by
  unfold plc st wk
  rw [if_pos rfl]
  rfl
theorem Of_rx0 {m : Mem} {R : Ending → Mem → Prop} (k : ∀ m' A, Le m m' → PlV m' (ofP rx0).1 A → R (.returned (.tuple #[.agg (lO A (ofP rx0).1), .int .i64 (ofP rx0).2])) m') :
    HC P place_Of.id #[.agg #[.int .i64 0, .int .u64 0, .int .u64 0, .int .u64 0, .int .u64 0, .slice none 0 0]] m R := by
  have := Of_spec (r := rx0) (m := m) (v := .slice none 0 0) ArgC.none (by decide +kernel) k
  have e : rxA rx0.k rx0.S (.slice none 0 0) = .agg #[.int .i64 0, .int .u64 0, .int .u64 0, .int .u64 0, .int .u64 0, .slice none 0 0] := by
    show rxA 0 noS (.slice none 0 0) = _
    unfold rxA
    rw [noS_L, noS_L, noS_L, noS_L]
  rw [e] at this
  exact this
theorem begun_spec {m : Mem} {R : Ending → Mem → Prop} (k : ∀ m', Le m m' → R (.returned (.bool true)) m') : HC P eyotlaw10_begun.id #[] m R := by
  refine eyotlaw10_begun.ok _ _ ?_
  intro b6 hb6
  have hle1 := Le.set hb6 (.cells #[.int .u8 0] T_uint8 (0, 0))
  have c6 : CellsAt (m.set b6 (.cells #[.int .u8 0] T_uint8 (0, 0))) (some ⟨b6, 0, none⟩) (u8s [0]) := cells_at (set_same _ _ _) rfl
  generalize m.set b6 (.cells #[.int .u8 0] T_uint8 (0, 0)) = m1 at hle1 c6 ⊢
  refine made_rx (ps := [0]) (d := 0) (Le.refl m1) c6 (by simp) (by decide) ?_
  intro m3 a l c hle3 hv
  have e : (prx 0 [0]).1 = st (psS []) := by unfold prx; rfl
  rw [e] at hv ⊢
  have hm : may (st (psS [])) = 0 := may_st (psS_some _)
  have hn : nodes (st (psS [])) = 1 := by unfold st; rw [nodes, nodesL]
  refine ContRx.mk ?_
  refine Of_spec hv (by rw [hn]; decide) ?_
  intro m4 A hle4 hp
  rw [ofP_ok hm, plc_st]
  refine ContPl.mk ?_
  refine own5 ?_
  intro b1 m10 hb1 hle10 h1
  have e2 : may rx0 = 2 := by decide +kernel
  refine Of_rx0 ?_
  intro m11 A2 hle11 _
  rw [ofP_no (by rw [e2]; decide), e2]
  refine ContPl.mk ?_
  refine own5 ?_
  intro b3 m17 hb3 hle17 h3
  have h17 := (hle11.trans hle17) _ _ h1
  refine BrEt rfl ?_
  refine LdV.s0 h17 (UnS.mk ?_)
  refine BrEt rfl ?_
  refine LdV.s1 h17 (UnS.mk ?_)
  refine BrEt rfl ?_
  refine LdV.s3 h17 (UnS.mk ?_)
  refine BrEt rfl ?_
  refine LdV.s4 h17 (UnB.mk ?_)
  refine Br.t rfl ?_
  exact k m17 ((((hle1.trans hle3).trans hle4).trans hle10).trans (hle11.trans hle17))
theorem rises_spec {m : Mem} {a : Option Addr} {c n : Nat} {l : List Nat} (hn : n ≤ 10000) (hc : CellsAt m a (ints (ns l))) (hl : Ok n l) {R : Ending → Mem → Prop} (k : R (.returned (.bool true)) m) : HC P eyotlaw10_rises.id #[.slice a l.length c, .int .i64 (n : Int)] m R := by
  have hlen := hl.len
  refine eyotlaw10_rises.ok _ _ _ _ _ _ ?_
  refine ⟨fun N xa xl xc n1 i mm => xa = a ∧ xl = l.length ∧ n1 = (n : Int) ∧ mm = m ∧ ∃ j : Nat, i = (j : Int) ∧ j ≤ l.length ∧ N = l.length - j, l.length, ⟨rfl, rfl, rfl, rfl, 0, rfl, by omega, by omega⟩, ?_⟩
  rintro N xa xl xc n1 i mm ⟨rfl, rfl, rfl, rfl, j, rfl, hj, rfl⟩
  unfold eyotlaw10_rises.l1B
  refine BrD (fun hlt => ?_) (fun hge => k)
  have hjl : j < l.length := by omega
  have at_ : ∀ i, (hi : i < l.length) → (ns l)[i]? = some ((l[i] : Nat) : Int) := fun i hi => by unfold ns; rw [List.getElem?_map, List.getElem?_eq_getElem hi]; rfl
  have ld : ∀ {mm' : Mem} {i : Int} {i' : Nat} {K : Int → Prop}, i = (i' : Int) → (hi : i' < l.length) → K ((l[i'] : Nat) : Int) → IxS xa l.length i 1 fun b o => LdV mm b o fun v => UnI v .i64 fun x => K x := by
    rintro mm' i i' K rfl hi hK
    refine IxS.ints (xs := ns l) hc (ns_len _) (by omega) (by omega) ?_
    intro v hv
    rw [Int.toNat_natCast, at_ _ hi] at hv
    cases hv
    exact hK
  have hb := hl.2 _ (List.getElem_mem hjl)
  refine Sub.all ?_
  refine ld (mm' := mm) rfl hjl ?_
  refine BrDf (by omega) ?_
  refine ld (mm' := mm) rfl hjl ?_
  refine BrDf (by omega) ?_
  have next : ∃ N1, N1 < l.length - j ∧ (xa = xa ∧ l.length = l.length ∧ (n : Int) = (n : Int) ∧ mm = mm ∧ ∃ j' : Nat, IntKind.i64.wrap ((j : Int) + 1) = (j' : Int) ∧ j' ≤ l.length ∧ N1 = l.length - j') := by
    refine ⟨l.length - (j + 1), by omega, rfl, rfl, rfl, rfl, j + 1, ?_, by omega, rfl⟩
    rw [wi (by omega) (by omega)]; omega
  refine BrD (fun hp => ?_) (fun hp => next)
  refine ld (mm' := mm) rfl hjl ?_
  refine ld (mm' := mm) (i' := j - 1) (by rw [wi (by omega) (by omega)]; omega) (by omega) ?_
  have := List.pairwise_iff_getElem.mp hl.1 (j - 1) j (by omega) hjl (by omega)
  refine BrDf (by omega) ?_
  exact next
theorem setsOf_ps {k : Int} {S : Nat → Bool} {ps : List Rx} (hf : form (.mk k S ps) = true) (hk : k ≠ 1) : setsOf (.mk k S ps) = setsL ps := by
  rw [setsOf, if_neg hk]
  split
  · rfl
  · rename_i h2
    rcases form_cases hf with ⟨h, _⟩ | ⟨_, _, ⟨h, _⟩ | ⟨_, _, x, rfl, _⟩⟩
    · exact absurd h hk
    · exact absurd h h2
    · rw [sets1, setsL, setsL, List.append_nil]
theorem count_spec (r : Rx) : form r = true → ∀ {m V : Mem} {la : Option Addr} {lc : Nat} {sets : List (Nat → Bool)} {v : Value} {R : Ending → Mem → Prop}, Own m T_api_Set 4 la sets.length lc (sets.flatMap four) → Le V m → (∀ b, blk la = some b → V b = none) → ArgC V r v → sets.length + cnt r ≤ 10000 →
    (∀ m' la' lc', Chg (fun b => blk la = some b) m m' → Own m' T_api_Set 4 la' (sets ++ setsOf r).length lc' ((sets ++ setsOf r).flatMap four) → (blk la' = blk la ∨ Fresh m la') → R (.returned (.slice la' (sets ++ setsOf r).length lc')) m') →
    HC P eyotlaw10_count.id #[rxA r.k r.S v, .slice la sets.length lc] m R := by
  refine Rx.ind (C := fun r => form r = true → ∀ {m V : Mem} {la : Option Addr} {lc : Nat} {sets : List (Nat → Bool)} {v : Value} {R : Ending → Mem → Prop}, Own m T_api_Set 4 la sets.length lc (sets.flatMap four) → Le V m → (∀ b, blk la = some b → V b = none) → ArgC V r v → sets.length + cnt r ≤ 10000 →
    (∀ m' la' lc', Chg (fun b => blk la = some b) m m' → Own m' T_api_Set 4 la' (sets ++ setsOf r).length lc' ((sets ++ setsOf r).flatMap four) → (blk la' = blk la ∨ Fresh m la') → R (.returned (.slice la' (sets ++ setsOf r).length lc')) m') →
    HC P eyotlaw10_count.id #[rxA r.k r.S v, .slice la sets.length lc] m R) ?_ r
  intro k S ps ih hf m V la lc sets v R ho hV hn ha hbd kk
  obtain ⟨prs, a, c, rfl, rfl, hl, hb, hc, hp⟩ := ha.inv
  show HC P eyotlaw10_count.id #[rxA k S (.slice a prs.length c), .slice la sets.length lc] m R
  refine eyotlaw10_count.ok _ _ _ _ _ _ _ _ _ _ _ _ _ ?_
  refine newRx ?_
  intro b2 m1 hb2 hle1 h2
  have hlb : ∀ b, blk la = some b → b ≠ b2 := fun b e e2 => ho.live b e (by rw [e2]; exact hb2)
  refine LdV.s0 h2 (UnI.mk ?_)
  refine BrE (fun e => ?_) (fun e => ?_)
  · subst e
    have hps : setsOf (.mk 1 S (prs.map (·.1))) = [S] := by rw [setsOf, if_pos rfl]
    rw [hps] at kk
    refine LdV.s1 h2 (UnI.mk (LdV.s2 h2 (UnI.mk (LdV.s3 h2 (UnI.mk (LdV.s4 h2 (UnI.mk ?_)))))))
    intro b12 hb12
    have hle2 := hle1.trans (Le.set hb12 (.cells #[.int .u64 (L S 0), .int .u64 (L S 1), .int .u64 (L S 2), .int .u64 (L S 3)] T_api_Set (0, 0)))
    have c12 : CellsAt (m1.set b12 (.cells #[.int .u64 (L S 0), .int .u64 (L S 1), .int .u64 (L S 2), .int .u64 (L S 3)] T_api_Set (0, 0))) (some ⟨b12, 0, none⟩) (four S) := cells_at (set_same _ _ _) rfl
    have hcs : 1 ≤ cnt (.mk 1 S (prs.map (·.1))) := by unfold cnt; rw [hps]; simp
    refine append_own eSet (Own.le hle2 ho) (news := four S) c12 rfl (by intro v hv; unfold four at hv; simp only [List.mem_cons, List.not_mem_nil, or_false] at hv; rcases hv with rfl | rfl | rfl | rfl <;> rfl) (by decide) (by omega) (by omega) ?_
    intro a' c' m' ho' hg
    refine UnS.mk ?_
    have e1 : (sets ++ [S]).length = sets.length + 1 := by simp
    have := kk m' a' c' ((hle2.chg _).trans hg.1 (fun _ _ e => e)) (by rw [e1, List.flatMap_append, show [S].flatMap four = four S by simp]; exact ho') (by
      rcases hg.2 with e | e
      · exact .inl e
      · exact .inr (Fresh.le hle2 e))
    rw [e1] at this
    exact this
  · have hps := setsOf_ps hf e
    have hall : ∀ a ∈ prs.map (·.1), form a = true := by
      rcases form_cases hf with ⟨h, _⟩ | ⟨_, h, _⟩
      · exact absurd h e
      · exact fun a ha => (h a ha).2
    have hcn : cnt (.mk k S (prs.map (·.1))) = cntL (prs.map (·.1)) := by unfold cnt cntL; rw [hps]
    rw [hps] at kk
    rw [hcn] at hbd
    refine ⟨fun N xa xl xc b o i mm => b = b2 ∧ o = 0 ∧ ∃ (j : Nat) (sj : List (Nat → Bool)), i = (j : Int) ∧ j ≤ prs.length ∧ N = prs.length - j ∧ xl = sj.length ∧ Own mm T_api_Set 4 xa sj.length xc (sj.flatMap four) ∧ Chg (fun b => blk la = some b) m mm ∧ mm b2 = some (.cells (rxO k S (.slice a prs.length c)) T_api_Rx (0, 0)) ∧
        (blk xa = blk la ∨ Fresh m xa) ∧ blk xa ≠ some b2 ∧ sj ++ setsL ((prs.map (·.1)).drop j) = sets ++ setsL (prs.map (·.1)), prs.length,
      ⟨rfl, rfl, 0, sets, rfl, by omega, by omega, rfl, Own.le hle1 ho, hle1.chg _, h2, .inl rfl, fun e => hlb _ e rfl, by simp⟩, ?_⟩
    rintro N xa xl xc b o i mm ⟨rfl, rfl, j, sj, rfl, hj, rfl, rfl, hown, hch, hbx, hfr, hne, hsj⟩
    have hlen : (prs.map (·.1)).length = prs.length := List.length_map _
    have hVm : Le V mm := hch.to_le hV (fun b e => hn b e) |> fun h => h
    unfold eyotlaw10_count.l1B
    refine LdV.s5 hbx (UnS.mk ?_)
    refine BrD (fun hlt => ?_) (fun hge => ?_)
    · have hjl : j < prs.length := by omega
      have hpm := List.getElem_mem hjl
      obtain ⟨a', l', c', hv⟩ := (hp _ hpm).sl
      have hdrop : (prs.map (·.1)).drop j = prs[j].1 :: (prs.map (·.1)).drop (j + 1) := by
        rw [List.drop_eq_getElem_cons (by rw [hlen]; exact hjl), List.getElem_map]
      rw [hdrop, setsL, ← List.append_assoc] at hsj
      have haj := hp _ hpm
      rw [hv] at haj
      refine LdV.s5 hbx (UnS.mk ?_)
      refine IxS.rx6 (hc.le hVm) hjl hv ?_
      have hnx : ∀ b, blk xa = some b → V b = none := fun b e => by
        rcases hfr with e2 | e2
        · rw [e2] at e; exact hn b e
        · cases e3 : V b with
          | none => rfl
          | some o => have := hV b o e3; rw [e2 b e] at this; cases this
      refine ih prs[j].1 (List.mem_map.mpr ⟨_, hpm, rfl⟩) (hall _ (List.mem_map.mpr ⟨_, hpm, rfl⟩)) hown hVm hnx haj ?_ ?_
      · have := congrArg List.length hsj
        simp only [List.length_append] at this
        unfold cntL at hbd
        unfold cnt
        omega
      · intro m' la' lc' hch' ho' hfr'
        dsimp only [Cont]
        refine UnS.mk ?_
        refine ⟨prs.length - (j + 1), by omega, rfl, rfl, j + 1, _, ?_, by omega, rfl, rfl, ho', ?_, hch'.eq _ _ hbx hne, ?_, ?_, hsj⟩
        · rw [wi (by omega) (by omega)]; omega
        · refine hch.trans hch' (fun b hb e => ?_)
          rcases hfr with e2 | e2
          · rw [e2] at e; exact e
          · exact absurd (e2 b e) hb
        · rcases hfr' with e2 | e2
          · rcases hfr with e3 | e3
            · exact .inl (e2.trans e3)
            · exact .inr (fun b e => e3 b (by rw [← e2]; exact e))
          · refine .inr (fun b e => ?_)
            exact hch.new (e2 b e)
        · rcases hfr' with e2 | e2
          · rw [e2]; exact hne
          · intro e
            have := e2 _ e
            rw [hbx] at this; cases this
    · have e2 : (prs.map (·.1)).drop j = [] := List.drop_eq_nil_of_le (by omega)
      rw [e2, setsL, List.append_nil] at hsj
      rw [← hsj] at kk
      exact kk mm xa xc hch hown hfr
end Go.E.Pl
set_option linter.unusedVariables false
set_option maxRecDepth 100000
namespace Go.E
open Go.H
noncomputable section
/-! ### eyot/eyotlaw10.PlaceCounts -/
namespace eyotlaw10_PlaceCounts
noncomputable def fn : Func := Go.Proofs.Try.f5
noncomputable def body : Code := fn.body.getD .skip
def od : Nat → Ord := fun | 15 => ordL [(0, 3), (1, 1), (2, 3), (3, 3), (4, 1), (5, 3), (6, 3), (7, 3), (8, 0), (9, 3), (10, 3), (11, 3), (12, 1), (13, 3), (14, 3), (15, 1), (16, 3), (17, 3), (18, 2), (19, 3), (20, 3)] .done | _ => .done
def tb : Nat → Tab := fun | 15 => (262144, [0, 1, 0, 7, 15, 0, 0, 96, 224, 511, 1023, 2047, 4095, 2047, 16383, 32767, 2047, 67583, 262143, 524287, 1048575], [(0, 16, 95), (1, 19807040628566084398385987584, 96), (0, 128, 97), (6, 118842243771396506390315925504, 98), (8, 158456325028528675187087900672, 99), (0, 64, 100), (0, 128, 101), (96, 1901475900342344102245054808064, 102), (128, 2535301200456458802993406410752, 103), (272, 5387515050969974956360988622848, 104), (512, 10141204801825835211973625643008, 105), (1024, 20282409603651670423947251286032, 106), (3072, 60847228810955011271841753858048, 107), (1024, 20282409603651670423947251286144, 108), (13312, 263671324847471715511314266718208, 109), (17408, 344800963262078397207103271862272, 110), (1024, 20282409603651670423947251286080, 111), (66560, 1318356624237358577556571333591040, 112), (164864, 3265467946187918938255507457048576, 113), (263168, 5212579268138479298954443580506112, 114), (525312, 10404876126673306927484939909726208, 115)]) | _ => (0, [], [])
def l6E (K : Nat → Nat → Option Addr → Nat → Nat → Int → Mem → Prop) : Env → Mem → Prop := fun ρ m => UnPA (ρ 4) fun p_4b p_4o => UnS (ρ 6) fun l_6a l_6l l_6c => UnI (ρ 7) .i64 fun i_7 => K p_4b p_4o l_6a l_6l l_6c i_7 m
def l6B  (K6 : Nat → Nat → Option Addr → Nat → Nat → Int → Mem → Prop) (p_4b : Nat) (p_4o : Nat) (l_6a : Option Addr) (l_6l : Nat) (l_6c : Nat) (i_7 : Int) (R : Ending → Mem → Prop) (m : Mem) : Prop :=
 Br (decide (i_7 < ((l_6l : Nat) : Int))) (
  Sub m fun r1 =>
  LdV r1 p_4b p_4o fun v =>
  UnS v fun x95a x95l x95c =>
  IxS x95a x95l i_7 4 fun x97b x97o =>
  LdV r1 x97b x97o fun v =>
  UnI v .u64 fun x98_0 =>
  LdV r1 x97b (x97o + 1) fun v =>
  UnI v .u64 fun x98_1 =>
  LdV r1 x97b (x97o + 2) fun v =>
  UnI v .u64 fun x98_2 =>
  LdV r1 x97b (x97o + 3) fun v =>
  UnI v .u64 fun x98_3 =>
  IxS l_6a l_6l i_7 4 fun x101b x101o =>
  LdV m x101b x101o fun v =>
  UnI v .u64 fun x102_0 =>
  LdV m x101b (x101o + 1) fun v =>
  UnI v .u64 fun x102_1 =>
  LdV m x101b (x101o + 2) fun v =>
  UnI v .u64 fun x102_2 =>
  LdV m x101b (x101o + 3) fun v =>
  UnI v .u64 fun x102_3 =>
  Br (!(eqL [.int .u64 x98_0, .int .u64 x98_1, .int .u64 x98_2, .int .u64 x98_3] [.int .u64 x102_0, .int .u64 x102_1, .int .u64 x102_2, .int .u64 x102_3])) (
   R (.returned (.bool false)) m) (
   LdV r1 p_4b (p_4o + 3) fun v =>
   UnS v fun x106a x106l x106c =>
   IxS x106a x106l i_7 1 fun x108b x108o =>
   LdV r1 x108b x108o fun v =>
   UnS v fun x109a x109l x109c =>
   HC P eyotlaw10_rises.id #[.slice x109a x109l x109c, .int .i64 ((l_6l : Nat) : Int)] m (Cont (fun v m2 =>
     UnB v fun x112 =>
     Br (!x112) (
      R (.returned (.bool false)) m2) (
      K6 p_4b p_4o l_6a l_6l l_6c (IntKind.i64.wrap (i_7 + 1)) m2)) (panicR R)))) (
  R (.returned (.bool true)) m)
def l6  (p_4b : Nat) (p_4o : Nat) (l_6a : Option Addr) (l_6l : Nat) (l_6c : Nat) (i_7 : Int) (R : Ending → Mem → Prop) (m : Mem) : Prop :=
  ∃ (I : Nat → Nat → Nat → Option Addr → Nat → Nat → Int → Mem → Prop) (N : Nat), I N p_4b p_4o l_6a l_6l l_6c i_7 m ∧ ∀ N p_4b p_4o l_6a l_6l l_6c i_7 m, I N p_4b p_4o l_6a l_6l l_6c i_7 m → l6B  (fun p_4b p_4o l_6a l_6l l_6c i_7 m => ∃ N1, N1 < N ∧ I N1 p_4b p_4o l_6a l_6l l_6c i_7 m) p_4b p_4o l_6a l_6l l_6c i_7 R m
noncomputable def l6A  (K6 : Nat → Nat → Option Addr → Nat → Nat → Int → Mem → Prop) (R : Ending → Mem → Prop) : ACode := (.code (lP (bB (sR (sL (sR (sR (sR (sR (sR (sR (sR (sR (body))))))))))))))
def k5E (K : Nat → Nat → Option Addr → Nat → Nat → Bool → Mem → Prop) : Env → Mem → Prop := fun ρ m => UnPA (ρ 4) fun p_4b p_4o => UnS (ρ 6) fun l_6a l_6l l_6c => UnB (ρ 82) fun x82 => K p_4b p_4o l_6a l_6l l_6c x82 m
def k5  (p_4b : Nat) (p_4o : Nat) (l_6a : Option Addr) (l_6l : Nat) (l_6c : Nat) (x82 : Bool) (R : Ending → Mem → Prop) (m : Mem) : Prop :=
 Br x82 (
  R (.returned (.bool false)) m) (
  LdV m p_4b (p_4o + 2) fun v =>
  UnS v fun x84a x84l x84c =>
  Br (((x84l : Nat) : Int) == 0) (
   R (.returned (.bool false)) m) (
   l6  p_4b p_4o l_6a l_6l l_6c 0 R m))
def k4E (K : Nat → Nat → Option Addr → Nat → Nat → Bool → Mem → Prop) : Env → Mem → Prop := fun ρ m => UnPA (ρ 4) fun p_4b p_4o => UnS (ρ 6) fun l_6a l_6l l_6c => UnB (ρ 76) fun x76 => K p_4b p_4o l_6a l_6l l_6c x76 m
def k4  (p_4b : Nat) (p_4o : Nat) (l_6a : Option Addr) (l_6l : Nat) (l_6c : Nat) (x76 : Bool) (R : Ending → Mem → Prop) (m : Mem) : Prop :=
 Br x76 (
  k5  p_4b p_4o l_6a l_6l l_6c true R m) (
  LdV m p_4b (p_4o + 1) fun v =>
  UnS v fun x78a x78l x78c =>
  k5  p_4b p_4o l_6a l_6l l_6c (((x78l : Nat) : Int) == 0) R m)
def k4G (Kk5 : Nat → Nat → Option Addr → Nat → Nat → Bool → Mem → Prop)  (p_4b : Nat) (p_4o : Nat) (l_6a : Option Addr) (l_6l : Nat) (l_6c : Nat) (x76 : Bool) (R : Ending → Mem → Prop) (m : Mem) : Prop :=
 Br x76 (
  Kk5 p_4b p_4o l_6a l_6l l_6c true  m) (
  LdV m p_4b (p_4o + 1) fun v =>
  UnS v fun x78a x78l x78c =>
  Kk5 p_4b p_4o l_6a l_6l l_6c (((x78l : Nat) : Int) == 0)  m)
def k3E (K : Nat → Nat → Option Addr → Nat → Nat → Bool → Mem → Prop) : Env → Mem → Prop := fun ρ m => UnPA (ρ 4) fun p_4b p_4o => UnS (ρ 6) fun l_6a l_6l l_6c => UnB (ρ 68) fun x68 => K p_4b p_4o l_6a l_6l l_6c x68 m
def k3  (p_4b : Nat) (p_4o : Nat) (l_6a : Option Addr) (l_6l : Nat) (l_6c : Nat) (x68 : Bool) (R : Ending → Mem → Prop) (m : Mem) : Prop :=
 Br x68 (
  k4  p_4b p_4o l_6a l_6l l_6c true R m) (
  LdV m p_4b (p_4o + 2) fun v =>
  UnS v fun x70a x70l x70c =>
  HC P eyotlaw10_rises.id #[.slice x70a x70l x70c, .int .i64 ((l_6l : Nat) : Int)] m (Cont (fun v m1 =>
    UnB v fun x73 =>
    k4  p_4b p_4o l_6a l_6l l_6c (!x73) R m1) (panicR R)))
def k3G (Kk4 : Nat → Nat → Option Addr → Nat → Nat → Bool → Mem → Prop)  (p_4b : Nat) (p_4o : Nat) (l_6a : Option Addr) (l_6l : Nat) (l_6c : Nat) (x68 : Bool) (R : Ending → Mem → Prop) (m : Mem) : Prop :=
 Br x68 (
  Kk4 p_4b p_4o l_6a l_6l l_6c true  m) (
  LdV m p_4b (p_4o + 2) fun v =>
  UnS v fun x70a x70l x70c =>
  HC P eyotlaw10_rises.id #[.slice x70a x70l x70c, .int .i64 ((l_6l : Nat) : Int)] m (Cont (fun v m1 =>
    UnB v fun x73 =>
    Kk4 p_4b p_4o l_6a l_6l l_6c (!x73)  m1) (panicR R)))
def k2E (K : Nat → Nat → Option Addr → Nat → Nat → Bool → Mem → Prop) : Env → Mem → Prop := fun ρ m => UnPA (ρ 4) fun p_4b p_4o => UnS (ρ 6) fun l_6a l_6l l_6c => UnB (ρ 60) fun x60 => K p_4b p_4o l_6a l_6l l_6c x60 m
def k2  (p_4b : Nat) (p_4o : Nat) (l_6a : Option Addr) (l_6l : Nat) (l_6c : Nat) (x60 : Bool) (R : Ending → Mem → Prop) (m : Mem) : Prop :=
 Br x60 (
  k3  p_4b p_4o l_6a l_6l l_6c true R m) (
  LdV m p_4b (p_4o + 1) fun v =>
  UnS v fun x62a x62l x62c =>
  HC P eyotlaw10_rises.id #[.slice x62a x62l x62c, .int .i64 ((l_6l : Nat) : Int)] m (Cont (fun v m1 =>
    UnB v fun x65 =>
    k3  p_4b p_4o l_6a l_6l l_6c (!x65) R m1) (panicR R)))
def k2G (Kk3 : Nat → Nat → Option Addr → Nat → Nat → Bool → Mem → Prop)  (p_4b : Nat) (p_4o : Nat) (l_6a : Option Addr) (l_6l : Nat) (l_6c : Nat) (x60 : Bool) (R : Ending → Mem → Prop) (m : Mem) : Prop :=
 Br x60 (
  Kk3 p_4b p_4o l_6a l_6l l_6c true  m) (
  LdV m p_4b (p_4o + 1) fun v =>
  UnS v fun x62a x62l x62c =>
  HC P eyotlaw10_rises.id #[.slice x62a x62l x62c, .int .i64 ((l_6l : Nat) : Int)] m (Cont (fun v m1 =>
    UnB v fun x65 =>
    Kk3 p_4b p_4o l_6a l_6l l_6c (!x65)  m1) (panicR R)))
def k1E (K : Nat → Nat → Option Addr → Nat → Nat → Bool → Mem → Prop) : Env → Mem → Prop := fun ρ m => UnPA (ρ 4) fun p_4b p_4o => UnS (ρ 6) fun l_6a l_6l l_6c => UnB (ρ 52) fun x52 => K p_4b p_4o l_6a l_6l l_6c x52 m
def k1  (p_4b : Nat) (p_4o : Nat) (l_6a : Option Addr) (l_6l : Nat) (l_6c : Nat) (x52 : Bool) (R : Ending → Mem → Prop) (m : Mem) : Prop :=
 Br x52 (
  k2  p_4b p_4o l_6a l_6l l_6c true R m) (
  LdV m p_4b (p_4o + 3) fun v =>
  UnS v fun x54a x54l x54c =>
  k2  p_4b p_4o l_6a l_6l l_6c (((x54l : Nat) : Int) != ((l_6l : Nat) : Int)) R m)
def k1G (Kk2 : Nat → Nat → Option Addr → Nat → Nat → Bool → Mem → Prop)  (p_4b : Nat) (p_4o : Nat) (l_6a : Option Addr) (l_6l : Nat) (l_6c : Nat) (x52 : Bool) (R : Ending → Mem → Prop) (m : Mem) : Prop :=
 Br x52 (
  Kk2 p_4b p_4o l_6a l_6l l_6c true  m) (
  LdV m p_4b (p_4o + 3) fun v =>
  UnS v fun x54a x54l x54c =>
  Kk2 p_4b p_4o l_6a l_6l l_6c (((x54l : Nat) : Int) != ((l_6l : Nat) : Int))  m)
def e0 (picks_0a : Option Addr) (picks_0l : Nat) (picks_0c : Nat) (R : Ending → Mem → Prop) (m : Mem) : Prop :=
 HC P eyotlaw10_begun.id #[] m (Cont (fun v m1 =>
   UnB v fun x8 =>
   Br (!x8) (
    R (.returned (.bool false)) m1) (
    Br (decide (((picks_0l : Nat) : Int) > 40)) (
     R (.returned (.bool true)) m1) (
     HC P eyotplay_Made.id #[.slice picks_0a picks_0l picks_0c] m1 (Cont (fun v m2 =>
       UnP v fun x14 =>
       HC P eyotplay_Picks_Rx.id #[.pointer x14, .int .i64 4] m2 (Cont (fun v m3 =>
        UnAgg v fun l =>
        UnCons l fun v l =>
        UnI v .i64 fun x15_0 =>
        UnCons l fun v l =>
        UnI v .u64 fun x15_1 =>
        UnCons l fun v l =>
        UnI v .u64 fun x15_2 =>
        UnCons l fun v l =>
        UnI v .u64 fun x15_3 =>
        UnCons l fun v l =>
        UnI v .u64 fun x15_4 =>
        UnCons l fun v l =>
        UnS v fun x15_5a x15_5l x15_5c =>
        UnNil l (
        NewC m3 #[.int .i64 0, .int .u64 0, .int .u64 0, .int .u64 0, .int .u64 0, .slice none 0 0] T_api_Rx fun b_x_3 m4 =>
        St1 m4 b_x_3 0 (.int .i64 x15_0) fun m5 =>
        St1 m5 b_x_3 1 (.int .u64 x15_1) fun m6 =>
        St1 m6 b_x_3 2 (.int .u64 x15_2) fun m7 =>
        St1 m7 b_x_3 3 (.int .u64 x15_3) fun m8 =>
        St1 m8 b_x_3 4 (.int .u64 x15_4) fun m9 =>
        St1 m9 b_x_3 5 (.slice x15_5a x15_5l x15_5c) fun m10 =>
        LdV m10 b_x_3 0 fun v =>
        UnI v .i64 fun x17_0 =>
        LdV m10 b_x_3 1 fun v =>
        UnI v .u64 fun x17_1 =>
        LdV m10 b_x_3 2 fun v =>
        UnI v .u64 fun x17_2 =>
        LdV m10 b_x_3 3 fun v =>
        UnI v .u64 fun x17_3 =>
        LdV m10 b_x_3 4 fun v =>
        UnI v .u64 fun x17_4 =>
        LdV m10 b_x_3 5 fun v =>
        UnS v fun x17_5a x17_5l x17_5c =>
        HC P place_Of.id #[.agg #[.int .i64 x17_0, .int .u64 x17_1, .int .u64 x17_2, .int .u64 x17_3, .int .u64 x17_4, .slice x17_5a x17_5l x17_5c]] m10 (Cont (fun v m11 =>
        UnTup v fun us0 =>
        UnCons us0 fun w us1 =>
        UnAgg w fun l =>
        UnCons l fun v l =>
        UnS v fun x18_0_0a x18_0_0l x18_0_0c =>
        UnCons l fun v l =>
        UnS v fun x18_0_1a x18_0_1l x18_0_1c =>
        UnCons l fun v l =>
        UnS v fun x18_0_2a x18_0_2l x18_0_2c =>
        UnCons l fun v l =>
        UnS v fun x18_0_3a x18_0_3l x18_0_3c =>
        UnCons l fun v l =>
        UnB v fun x18_0_4 =>
        UnNil l (
        UnCons us1 fun w us2 =>
        UnI w .i64 fun x18_1 =>
        UnNil us2 (
        NewC m11 #[.slice none 0 0, .slice none 0 0, .slice none 0 0, .slice none 0 0, .bool false] T_place_Places fun b_p_4 m12 =>
        St1 m12 b_p_4 0 (.slice x18_0_0a x18_0_0l x18_0_0c) fun m13 =>
        St1 m13 b_p_4 1 (.slice x18_0_1a x18_0_1l x18_0_1c) fun m14 =>
        St1 m14 b_p_4 2 (.slice x18_0_2a x18_0_2l x18_0_2c) fun m15 =>
        St1 m15 b_p_4 3 (.slice x18_0_3a x18_0_3l x18_0_3c) fun m16 =>
        St1 m16 b_p_4 4 (.bool x18_0_4) fun m17 =>
        Br (x18_1 != 0) (
        LdV m17 b_p_4 0 fun v =>
        UnS v fun x24a x24l x24c =>
        LdV m17 b_p_4 1 fun v =>
        UnS v fun x27a x27l x27c =>
        LdV m17 b_p_4 2 fun v =>
        UnS v fun x31a x31l x31c =>
        LdV m17 b_p_4 3 fun v =>
        UnS v fun x35a x35l x35c =>
        Br ((IntKind.i64.wrap ((IntKind.i64.wrap ((IntKind.i64.wrap (((x24l : Nat) : Int) + ((x27l : Nat) : Int))) + ((x31l : Nat) : Int))) + ((x35l : Nat) : Int))) == 0) (
        LdV m17 b_p_4 4 fun v =>
        UnB v fun x41 =>
        R (.returned (.bool (!x41))) m17) (
        R (.returned (.bool false)) m17)) (
        LdV m17 b_x_3 0 fun v =>
        UnI v .i64 fun x44_0 =>
        LdV m17 b_x_3 1 fun v =>
        UnI v .u64 fun x44_1 =>
        LdV m17 b_x_3 2 fun v =>
        UnI v .u64 fun x44_2 =>
        LdV m17 b_x_3 3 fun v =>
        UnI v .u64 fun x44_3 =>
        LdV m17 b_x_3 4 fun v =>
        UnI v .u64 fun x44_4 =>
        LdV m17 b_x_3 5 fun v =>
        UnS v fun x44_5a x44_5l x44_5c =>
        HC P eyotlaw10_count.id #[.agg #[.int .i64 x44_0, .int .u64 x44_1, .int .u64 x44_2, .int .u64 x44_3, .int .u64 x44_4, .slice x44_5a x44_5l x44_5c], .slice none 0 0] m17 (Cont (fun v m18 =>
        UnS v fun x45a x45l x45c =>
        LdV m18 b_p_4 0 fun v =>
        UnS v fun x49a x49l x49c =>
        k1  b_p_4 0 x45a x45l x45c (((x45l : Nat) : Int) != ((x49l : Nat) : Int)) R m18) (panicR R)))))) (panicR R)))) (panicR R))) (panicR R))))) (panicR R))
def e0G (Kk1 : Nat → Nat → Option Addr → Nat → Nat → Bool → Mem → Prop) (picks_0a : Option Addr) (picks_0l : Nat) (picks_0c : Nat) (R : Ending → Mem → Prop) (m : Mem) : Prop :=
 HC P eyotlaw10_begun.id #[] m (Cont (fun v m1 =>
   UnB v fun x8 =>
   Br (!x8) (
    R (.returned (.bool false)) m1) (
    Br (decide (((picks_0l : Nat) : Int) > 40)) (
     R (.returned (.bool true)) m1) (
     HC P eyotplay_Made.id #[.slice picks_0a picks_0l picks_0c] m1 (Cont (fun v m2 =>
       UnP v fun x14 =>
       HC P eyotplay_Picks_Rx.id #[.pointer x14, .int .i64 4] m2 (Cont (fun v m3 =>
        UnAgg v fun l =>
        UnCons l fun v l =>
        UnI v .i64 fun x15_0 =>
        UnCons l fun v l =>
        UnI v .u64 fun x15_1 =>
        UnCons l fun v l =>
        UnI v .u64 fun x15_2 =>
        UnCons l fun v l =>
        UnI v .u64 fun x15_3 =>
        UnCons l fun v l =>
        UnI v .u64 fun x15_4 =>
        UnCons l fun v l =>
        UnS v fun x15_5a x15_5l x15_5c =>
        UnNil l (
        NewC m3 #[.int .i64 0, .int .u64 0, .int .u64 0, .int .u64 0, .int .u64 0, .slice none 0 0] T_api_Rx fun b_x_3 m4 =>
        St1 m4 b_x_3 0 (.int .i64 x15_0) fun m5 =>
        St1 m5 b_x_3 1 (.int .u64 x15_1) fun m6 =>
        St1 m6 b_x_3 2 (.int .u64 x15_2) fun m7 =>
        St1 m7 b_x_3 3 (.int .u64 x15_3) fun m8 =>
        St1 m8 b_x_3 4 (.int .u64 x15_4) fun m9 =>
        St1 m9 b_x_3 5 (.slice x15_5a x15_5l x15_5c) fun m10 =>
        LdV m10 b_x_3 0 fun v =>
        UnI v .i64 fun x17_0 =>
        LdV m10 b_x_3 1 fun v =>
        UnI v .u64 fun x17_1 =>
        LdV m10 b_x_3 2 fun v =>
        UnI v .u64 fun x17_2 =>
        LdV m10 b_x_3 3 fun v =>
        UnI v .u64 fun x17_3 =>
        LdV m10 b_x_3 4 fun v =>
        UnI v .u64 fun x17_4 =>
        LdV m10 b_x_3 5 fun v =>
        UnS v fun x17_5a x17_5l x17_5c =>
        HC P place_Of.id #[.agg #[.int .i64 x17_0, .int .u64 x17_1, .int .u64 x17_2, .int .u64 x17_3, .int .u64 x17_4, .slice x17_5a x17_5l x17_5c]] m10 (Cont (fun v m11 =>
        UnTup v fun us0 =>
        UnCons us0 fun w us1 =>
        UnAgg w fun l =>
        UnCons l fun v l =>
        UnS v fun x18_0_0a x18_0_0l x18_0_0c =>
        UnCons l fun v l =>
        UnS v fun x18_0_1a x18_0_1l x18_0_1c =>
        UnCons l fun v l =>
        UnS v fun x18_0_2a x18_0_2l x18_0_2c =>
        UnCons l fun v l =>
        UnS v fun x18_0_3a x18_0_3l x18_0_3c =>
        UnCons l fun v l =>
        UnB v fun x18_0_4 =>
        UnNil l (
        UnCons us1 fun w us2 =>
        UnI w .i64 fun x18_1 =>
        UnNil us2 (
        NewC m11 #[.slice none 0 0, .slice none 0 0, .slice none 0 0, .slice none 0 0, .bool false] T_place_Places fun b_p_4 m12 =>
        St1 m12 b_p_4 0 (.slice x18_0_0a x18_0_0l x18_0_0c) fun m13 =>
        St1 m13 b_p_4 1 (.slice x18_0_1a x18_0_1l x18_0_1c) fun m14 =>
        St1 m14 b_p_4 2 (.slice x18_0_2a x18_0_2l x18_0_2c) fun m15 =>
        St1 m15 b_p_4 3 (.slice x18_0_3a x18_0_3l x18_0_3c) fun m16 =>
        St1 m16 b_p_4 4 (.bool x18_0_4) fun m17 =>
        Br (x18_1 != 0) (
        LdV m17 b_p_4 0 fun v =>
        UnS v fun x24a x24l x24c =>
        LdV m17 b_p_4 1 fun v =>
        UnS v fun x27a x27l x27c =>
        LdV m17 b_p_4 2 fun v =>
        UnS v fun x31a x31l x31c =>
        LdV m17 b_p_4 3 fun v =>
        UnS v fun x35a x35l x35c =>
        Br ((IntKind.i64.wrap ((IntKind.i64.wrap ((IntKind.i64.wrap (((x24l : Nat) : Int) + ((x27l : Nat) : Int))) + ((x31l : Nat) : Int))) + ((x35l : Nat) : Int))) == 0) (
        LdV m17 b_p_4 4 fun v =>
        UnB v fun x41 =>
        R (.returned (.bool (!x41))) m17) (
        R (.returned (.bool false)) m17)) (
        LdV m17 b_x_3 0 fun v =>
        UnI v .i64 fun x44_0 =>
        LdV m17 b_x_3 1 fun v =>
        UnI v .u64 fun x44_1 =>
        LdV m17 b_x_3 2 fun v =>
        UnI v .u64 fun x44_2 =>
        LdV m17 b_x_3 3 fun v =>
        UnI v .u64 fun x44_3 =>
        LdV m17 b_x_3 4 fun v =>
        UnI v .u64 fun x44_4 =>
        LdV m17 b_x_3 5 fun v =>
        UnS v fun x44_5a x44_5l x44_5c =>
        HC P eyotlaw10_count.id #[.agg #[.int .i64 x44_0, .int .u64 x44_1, .int .u64 x44_2, .int .u64 x44_3, .int .u64 x44_4, .slice x44_5a x44_5l x44_5c], .slice none 0 0] m17 (Cont (fun v m18 =>
        UnS v fun x45a x45l x45c =>
        LdV m18 b_p_4 0 fun v =>
        UnS v fun x49a x49l x49c =>
        Kk1 b_p_4 0 x45a x45l x45c (((x45l : Nat) : Int) != ((x49l : Nat) : Int))  m18) (panicR R)))))) (panicR R)))) (panicR R))) (panicR R))))) (panicR R))
noncomputable def e0A (R : Ending → Mem → Prop) : ACode := (.seq (.code (sL (body))) (.seq (.code (sL (sR (body)))) (.seq (.code (sL (sR (sR (body))))) (.seq (.code (sL (sR (sR (sR (body)))))) (.seq (.code (sL (sR (sR (sR (sR (body))))))) (.seq (.code (sL (sR (sR (sR (sR (sR (body)))))))) (.seq (.code (sL (sR (sR (sR (sR (sR (sR (body))))))))) (.seq (.seq (.inop 10 (rgOps (sL (sL (sR (sR (sR (sR (sR (sR (sR (body))))))))))) 7 (k1E fun p_4b p_4o l_6a l_6l l_6c x52 m => k1  p_4b p_4o l_6a l_6l l_6c x52 R m)) (.code (sR (sL (sR (sR (sR (sR (sR (sR (sR (body)))))))))))) (.seq (.seq (.code (sL (sL (sR (sR (sR (sR (sR (sR (sR (sR (body)))))))))))) (.block 0 (.cut (l6E fun p_4b p_4o l_6a l_6l l_6c i_7 m => l6  p_4b p_4o l_6a l_6l l_6c i_7 R m) (.loop (lP (bB (sR (sL (sR (sR (sR (sR (sR (sR (sR (sR (body))))))))))))))))) (.code (sR (sR (sR (sR (sR (sR (sR (sR (sR (body))))))))))))))))))))
abbrev l6Q  (R : Ending → Mem → Prop) : Exit → Env → Mem → Prop := (blockQ 0 (thenQ (acpt P od (panicR R) (.code (sR (sR (sR (sR (sR (sR (sR (sR (sR (body))))))))))) (bodyQ P fn R)) (bodyQ P fn R)))
theorem l6_eq  (K6 : Nat → Nat → Option Addr → Nat → Nat → Int → Mem → Prop) (R : Ending → Mem → Prop) (p_4b : Nat) (p_4o : Nat) (l_6a : Option Addr) (l_6l : Nat) (l_6c : Nat) (i_7 : Int) (ρ : Env) (m : Mem) : l6B  K6 p_4b p_4o l_6a l_6l l_6c i_7 R m = acpt P od (panicR R) (l6A  K6 R) (thenQ (l6E K6) (l6Q  R)) (upd (upd (upd ρ 7 (.int .i64 i_7)) 6 (.slice l_6a l_6l l_6c)) 4 (.pointer (some ⟨p_4b, p_4o, none⟩))) m := by kernel_rfl
theorem l6_er  (K6 : Nat → Nat → Option Addr → Nat → Nat → Int → Mem → Prop) (R : Ending → Mem → Prop) : (l6A  K6 R).erase = lP (bB (sR (sL (sR (sR (sR (sR (sR (sR (sR (sR (body)))))))))))) := by kernel_rfl
theorem l6_ok  (R : Ending → Mem → Prop) (ρ : Env) (m : Mem) (h : (l6E fun p_4b p_4o l_6a l_6l l_6c i_7 m => l6  p_4b p_4o l_6a l_6l l_6c i_7 R m) ρ m) : cpt P od (panicR R) (.loop (lP (bB (sR (sL (sR (sR (sR (sR (sR (sR (sR (sR (body)))))))))))))) (l6Q  R) ρ m := by
  unfold l6E at h
  obtain ⟨p_4b, p_4o, e4, h⟩ := h.ex
  obtain ⟨l_6a, l_6l, l_6c, e6, h⟩ := h.ex
  obtain ⟨i_7, e7, h⟩ := h.ex
  obtain ⟨I, N, h0, hs⟩ := h
  refine ⟨fun N => l6E (I N), N, (by show l6E (I N) ρ m; unfold l6E; rw [e4, e6, e7]; exact h0), ?_⟩
  clear h0 e4 e6 e7
  intro N ρ m h
  unfold l6E at h
  obtain ⟨p_4b, p_4o, e4, h⟩ := h.ex
  obtain ⟨l_6a, l_6l, l_6c, e6, h⟩ := h.ex
  obtain ⟨i_7, e7, h⟩ := h.ex
  refine cpt_mono (P := P) (lP (bB (sR (sL (sR (sR (sR (sR (sR (sR (sR (sR (body))))))))))))) (Q := thenQ (l6E fun p_4b p_4o l_6a l_6l l_6c i_7 m => ∃ N1, N1 < N ∧ I N1 p_4b p_4o l_6a l_6l l_6c i_7 m) (l6Q  R)) (fun e ρ m h => ?_) ρ m ?_
  · cases e with
    | normal =>
      have h : l6E (fun p_4b p_4o l_6a l_6l l_6c i_7 m => ∃ N1, N1 < N ∧ I N1 p_4b p_4o l_6a l_6l l_6c i_7 m) ρ m := h
      unfold l6E at h
      obtain ⟨p_4b, p_4o, e4, h⟩ := h.ex
      obtain ⟨l_6a, l_6l, l_6c, e6, h⟩ := h.ex
      obtain ⟨i_7, e7, h⟩ := h.ex
      obtain ⟨N1, hlt, h⟩ := h
      exact ⟨N1, hlt, (by show l6E (I N1) ρ m; unfold l6E; rw [e4, e6, e7]; exact h)⟩
    | _ => exact h
  have hh := hs N p_4b p_4o l_6a l_6l l_6c i_7 m h
  generalize (fun p_4b p_4o l_6a l_6l l_6c i_7 m => ∃ N1, N1 < N ∧ I N1 p_4b p_4o l_6a l_6l l_6c i_7 m : Nat → Nat → Option Addr → Nat → Nat → Int → Mem → Prop) = K6 at hh ⊢
  rw [← upd_self e4, ← upd_self e6, ← upd_self e7]
  rw [← l6_er  K6 R]
  refine acpt_sound (P := P) (l6A  K6 R) _ _ _ True.intro ?_
  exact Eq.mp (l6_eq  K6 R p_4b p_4o l_6a l_6l l_6c i_7 ρ m) hh
theorem k5_eq  (R : Ending → Mem → Prop) (p_4b : Nat) (p_4o : Nat) (l_6a : Option Addr) (l_6l : Nat) (l_6c : Nat) (x82 : Bool) (ρ : Env) (m : Mem) : k5  p_4b p_4o l_6a l_6l l_6c x82 R m = hops P (rgOps (sL (sL (sR (sR (sR (sR (sR (sR (sR (body))))))))))) ((thenQ (acpt P od (panicR R) (.code (sR (sL (sR (sR (sR (sR (sR (sR (sR (body))))))))))) (thenQ (acpt P od (panicR R) (.seq (.seq (.code (sL (sL (sR (sR (sR (sR (sR (sR (sR (sR (body)))))))))))) (.block 0 (.cut (l6E fun p_4b p_4o l_6a l_6l l_6c i_7 m => l6  p_4b p_4o l_6a l_6l l_6c i_7 R m) (.loop (lP (bB (sR (sL (sR (sR (sR (sR (sR (sR (sR (sR (body))))))))))))))))) (.code (sR (sR (sR (sR (sR (sR (sR (sR (sR (body)))))))))))) (bodyQ P fn R)) (bodyQ P fn R))) (thenQ (acpt P od (panicR R) (.seq (.seq (.code (sL (sL (sR (sR (sR (sR (sR (sR (sR (sR (body)))))))))))) (.block 0 (.cut (l6E fun p_4b p_4o l_6a l_6l l_6c i_7 m => l6  p_4b p_4o l_6a l_6l l_6c i_7 R m) (.loop (lP (bB (sR (sL (sR (sR (sR (sR (sR (sR (sR (sR (body))))))))))))))))) (.code (sR (sR (sR (sR (sR (sR (sR (sR (sR (body)))))))))))) (bodyQ P fn R)) (bodyQ P fn R))) .normal) (panicR R) ((rgOps (sL (sL (sR (sR (sR (sR (sR (sR (sR (body))))))))))).toList.drop 37) (upd (upd (upd ρ 82 (.bool x82)) 6 (.slice l_6a l_6l l_6c)) 4 (.pointer (some ⟨p_4b, p_4o, none⟩))) m := by kernel_rfl
theorem k5_ok  (R : Ending → Mem → Prop) (ρ : Env) (m : Mem) (h : (k5E fun p_4b p_4o l_6a l_6l l_6c x82 m => k5  p_4b p_4o l_6a l_6l l_6c x82 R m) ρ m) : hops P (rgOps (sL (sL (sR (sR (sR (sR (sR (sR (sR (body))))))))))) ((thenQ (acpt P od (panicR R) (.code (sR (sL (sR (sR (sR (sR (sR (sR (sR (body))))))))))) (thenQ (acpt P od (panicR R) (.seq (.seq (.code (sL (sL (sR (sR (sR (sR (sR (sR (sR (sR (body)))))))))))) (.block 0 (.cut (l6E fun p_4b p_4o l_6a l_6l l_6c i_7 m => l6  p_4b p_4o l_6a l_6l l_6c i_7 R m) (.loop (lP (bB (sR (sL (sR (sR (sR (sR (sR (sR (sR (sR (body))))))))))))))))) (.code (sR (sR (sR (sR (sR (sR (sR (sR (sR (body)))))))))))) (bodyQ P fn R)) (bodyQ P fn R))) (thenQ (acpt P od (panicR R) (.seq (.seq (.code (sL (sL (sR (sR (sR (sR (sR (sR (sR (sR (body)))))))))))) (.block 0 (.cut (l6E fun p_4b p_4o l_6a l_6l l_6c i_7 m => l6  p_4b p_4o l_6a l_6l l_6c i_7 R m) (.loop (lP (bB (sR (sL (sR (sR (sR (sR (sR (sR (sR (sR (body))))))))))))))))) (.code (sR (sR (sR (sR (sR (sR (sR (sR (sR (body)))))))))))) (bodyQ P fn R)) (bodyQ P fn R))) .normal) (panicR R) ((rgOps (sL (sL (sR (sR (sR (sR (sR (sR (sR (body))))))))))).toList.drop 37) ρ m := by
  unfold k5E at h
  obtain ⟨p_4b, p_4o, e4, h⟩ := h.ex
  obtain ⟨l_6a, l_6l, l_6c, e6, h⟩ := h.ex
  obtain ⟨x82, e82, h⟩ := h.ex
  rw [← upd_self e4, ← upd_self e6, ← upd_self e82]
  exact Eq.mp (k5_eq  R p_4b p_4o l_6a l_6l l_6c x82 ρ m) h
theorem k4_eqG (Kk5 : Nat → Nat → Option Addr → Nat → Nat → Bool → Mem → Prop)  (R : Ending → Mem → Prop) (p_4b : Nat) (p_4o : Nat) (l_6a : Option Addr) (l_6l : Nat) (l_6c : Nat) (x76 : Bool) (ρ : Env) (m : Mem) : k4G Kk5  p_4b p_4o l_6a l_6l l_6c x76 R m = hops P (rgOps (sL (sL (sR (sR (sR (sR (sR (sR (sR (body))))))))))) (k5E Kk5) (panicR R) (((rgOps (sL (sL (sR (sR (sR (sR (sR (sR (sR (body))))))))))).toList.drop 31).take 6) (upd (upd (upd ρ 76 (.bool x76)) 6 (.slice l_6a l_6l l_6c)) 4 (.pointer (some ⟨p_4b, p_4o, none⟩))) m := by kernel_rfl
theorem k4_eq  (R : Ending → Mem → Prop) (p_4b : Nat) (p_4o : Nat) (l_6a : Option Addr) (l_6l : Nat) (l_6c : Nat) (x76 : Bool) (ρ : Env) (m : Mem) : k4  p_4b p_4o l_6a l_6l l_6c x76 R m = hops P (rgOps (sL (sL (sR (sR (sR (sR (sR (sR (sR (body))))))))))) (k5E fun p_4b p_4o l_6a l_6l l_6c x82 m => k5  p_4b p_4o l_6a l_6l l_6c x82 R m) (panicR R) (((rgOps (sL (sL (sR (sR (sR (sR (sR (sR (sR (body))))))))))).toList.drop 31).take 6) (upd (upd (upd ρ 76 (.bool x76)) 6 (.slice l_6a l_6l l_6c)) 4 (.pointer (some ⟨p_4b, p_4o, none⟩))) m := by
  have h1 : k4  p_4b p_4o l_6a l_6l l_6c x76 R m = k4G (fun p_4b p_4o l_6a l_6l l_6c x82 m => k5  p_4b p_4o l_6a l_6l l_6c x82 R m)  p_4b p_4o l_6a l_6l l_6c x76 R m := by kernel_rfl
  exact h1.trans (k4_eqG (fun p_4b p_4o l_6a l_6l l_6c x82 m => k5  p_4b p_4o l_6a l_6l l_6c x82 R m)  R p_4b p_4o l_6a l_6l l_6c x76 ρ m)
theorem k4_ok  (R : Ending → Mem → Prop) (ρ : Env) (m : Mem) (h : (k4E fun p_4b p_4o l_6a l_6l l_6c x76 m => k4  p_4b p_4o l_6a l_6l l_6c x76 R m) ρ m) : hops P (rgOps (sL (sL (sR (sR (sR (sR (sR (sR (sR (body))))))))))) ((thenQ (acpt P od (panicR R) (.code (sR (sL (sR (sR (sR (sR (sR (sR (sR (body))))))))))) (thenQ (acpt P od (panicR R) (.seq (.seq (.code (sL (sL (sR (sR (sR (sR (sR (sR (sR (sR (body)))))))))))) (.block 0 (.cut (l6E fun p_4b p_4o l_6a l_6l l_6c i_7 m => l6  p_4b p_4o l_6a l_6l l_6c i_7 R m) (.loop (lP (bB (sR (sL (sR (sR (sR (sR (sR (sR (sR (sR (body))))))))))))))))) (.code (sR (sR (sR (sR (sR (sR (sR (sR (sR (body)))))))))))) (bodyQ P fn R)) (bodyQ P fn R))) (thenQ (acpt P od (panicR R) (.seq (.seq (.code (sL (sL (sR (sR (sR (sR (sR (sR (sR (sR (body)))))))))))) (.block 0 (.cut (l6E fun p_4b p_4o l_6a l_6l l_6c i_7 m => l6  p_4b p_4o l_6a l_6l l_6c i_7 R m) (.loop (lP (bB (sR (sL (sR (sR (sR (sR (sR (sR (sR (sR (body))))))))))))))))) (.code (sR (sR (sR (sR (sR (sR (sR (sR (sR (body)))))))))))) (bodyQ P fn R)) (bodyQ P fn R))) .normal) (panicR R) ((rgOps (sL (sL (sR (sR (sR (sR (sR (sR (sR (body))))))))))).toList.drop 31) ρ m := by
  unfold k4E at h
  obtain ⟨p_4b, p_4o, e4, h⟩ := h.ex
  obtain ⟨l_6a, l_6l, l_6c, e6, h⟩ := h.ex
  obtain ⟨x76, e76, h⟩ := h.ex
  rw [← upd_self e4, ← upd_self e6, ← upd_self e76]
  refine hops_cut (P := P) (p := 6) (l2 := (rgOps (sL (sL (sR (sR (sR (sR (sR (sR (sR (body))))))))))).toList.drop 37) (by rw [List.drop_drop]) (fun ρ m h => k5_ok  R ρ m h) ?_
  exact Eq.mp (k4_eq  R p_4b p_4o l_6a l_6l l_6c x76 ρ m) h
theorem k3_eqG (Kk4 : Nat → Nat → Option Addr → Nat → Nat → Bool → Mem → Prop)  (R : Ending → Mem → Prop) (p_4b : Nat) (p_4o : Nat) (l_6a : Option Addr) (l_6l : Nat) (l_6c : Nat) (x68 : Bool) (ρ : Env) (m : Mem) : k3G Kk4  p_4b p_4o l_6a l_6l l_6c x68 R m = hops P (rgOps (sL (sL (sR (sR (sR (sR (sR (sR (sR (body))))))))))) (k4E Kk4) (panicR R) (((rgOps (sL (sL (sR (sR (sR (sR (sR (sR (sR (body))))))))))).toList.drop 23).take 8) (upd (upd (upd ρ 68 (.bool x68)) 6 (.slice l_6a l_6l l_6c)) 4 (.pointer (some ⟨p_4b, p_4o, none⟩))) m := by kernel_rfl
theorem k3_eq  (R : Ending → Mem → Prop) (p_4b : Nat) (p_4o : Nat) (l_6a : Option Addr) (l_6l : Nat) (l_6c : Nat) (x68 : Bool) (ρ : Env) (m : Mem) : k3  p_4b p_4o l_6a l_6l l_6c x68 R m = hops P (rgOps (sL (sL (sR (sR (sR (sR (sR (sR (sR (body))))))))))) (k4E fun p_4b p_4o l_6a l_6l l_6c x76 m => k4  p_4b p_4o l_6a l_6l l_6c x76 R m) (panicR R) (((rgOps (sL (sL (sR (sR (sR (sR (sR (sR (sR (body))))))))))).toList.drop 23).take 8) (upd (upd (upd ρ 68 (.bool x68)) 6 (.slice l_6a l_6l l_6c)) 4 (.pointer (some ⟨p_4b, p_4o, none⟩))) m := by
  have h1 : k3  p_4b p_4o l_6a l_6l l_6c x68 R m = k3G (fun p_4b p_4o l_6a l_6l l_6c x76 m => k4  p_4b p_4o l_6a l_6l l_6c x76 R m)  p_4b p_4o l_6a l_6l l_6c x68 R m := by kernel_rfl
  exact h1.trans (k3_eqG (fun p_4b p_4o l_6a l_6l l_6c x76 m => k4  p_4b p_4o l_6a l_6l l_6c x76 R m)  R p_4b p_4o l_6a l_6l l_6c x68 ρ m)
theorem k3_ok  (R : Ending → Mem → Prop) (ρ : Env) (m : Mem) (h : (k3E fun p_4b p_4o l_6a l_6l l_6c x68 m => k3  p_4b p_4o l_6a l_6l l_6c x68 R m) ρ m) : hops P (rgOps (sL (sL (sR (sR (sR (sR (sR (sR (sR (body))))))))))) ((thenQ (acpt P od (panicR R) (.code (sR (sL (sR (sR (sR (sR (sR (sR (sR (body))))))))))) (thenQ (acpt P od (panicR R) (.seq (.seq (.code (sL (sL (sR (sR (sR (sR (sR (sR (sR (sR (body)))))))))))) (.block 0 (.cut (l6E fun p_4b p_4o l_6a l_6l l_6c i_7 m => l6  p_4b p_4o l_6a l_6l l_6c i_7 R m) (.loop (lP (bB (sR (sL (sR (sR (sR (sR (sR (sR (sR (sR (body))))))))))))))))) (.code (sR (sR (sR (sR (sR (sR (sR (sR (sR (body)))))))))))) (bodyQ P fn R)) (bodyQ P fn R))) (thenQ (acpt P od (panicR R) (.seq (.seq (.code (sL (sL (sR (sR (sR (sR (sR (sR (sR (sR (body)))))))))))) (.block 0 (.cut (l6E fun p_4b p_4o l_6a l_6l l_6c i_7 m => l6  p_4b p_4o l_6a l_6l l_6c i_7 R m) (.loop (lP (bB (sR (sL (sR (sR (sR (sR (sR (sR (sR (sR (body))))))))))))))))) (.code (sR (sR (sR (sR (sR (sR (sR (sR (sR (body)))))))))))) (bodyQ P fn R)) (bodyQ P fn R))) .normal) (panicR R) ((rgOps (sL (sL (sR (sR (sR (sR (sR (sR (sR (body))))))))))).toList.drop 23) ρ m := by
  unfold k3E at h
  obtain ⟨p_4b, p_4o, e4, h⟩ := h.ex
  obtain ⟨l_6a, l_6l, l_6c, e6, h⟩ := h.ex
  obtain ⟨x68, e68, h⟩ := h.ex
  rw [← upd_self e4, ← upd_self e6, ← upd_self e68]
  refine hops_cut (P := P) (p := 8) (l2 := (rgOps (sL (sL (sR (sR (sR (sR (sR (sR (sR (body))))))))))).toList.drop 31) (by rw [List.drop_drop]) (fun ρ m h => k4_ok  R ρ m h) ?_
  exact Eq.mp (k3_eq  R p_4b p_4o l_6a l_6l l_6c x68 ρ m) h
theorem k2_eqG (Kk3 : Nat → Nat → Option Addr → Nat → Nat → Bool → Mem → Prop)  (R : Ending → Mem → Prop) (p_4b : Nat) (p_4o : Nat) (l_6a : Option Addr) (l_6l : Nat) (l_6c : Nat) (x60 : Bool) (ρ : Env) (m : Mem) : k2G Kk3  p_4b p_4o l_6a l_6l l_6c x60 R m = hops P (rgOps (sL (sL (sR (sR (sR (sR (sR (sR (sR (body))))))))))) (k3E Kk3) (panicR R) (((rgOps (sL (sL (sR (sR (sR (sR (sR (sR (sR (body))))))))))).toList.drop 15).take 8) (upd (upd (upd ρ 60 (.bool x60)) 6 (.slice l_6a l_6l l_6c)) 4 (.pointer (some ⟨p_4b, p_4o, none⟩))) m := by kernel_rfl
theorem k2_eq  (R : Ending → Mem → Prop) (p_4b : Nat) (p_4o : Nat) (l_6a : Option Addr) (l_6l : Nat) (l_6c : Nat) (x60 : Bool) (ρ : Env) (m : Mem) : k2  p_4b p_4o l_6a l_6l l_6c x60 R m = hops P (rgOps (sL (sL (sR (sR (sR (sR (sR (sR (sR (body))))))))))) (k3E fun p_4b p_4o l_6a l_6l l_6c x68 m => k3  p_4b p_4o l_6a l_6l l_6c x68 R m) (panicR R) (((rgOps (sL (sL (sR (sR (sR (sR (sR (sR (sR (body))))))))))).toList.drop 15).take 8) (upd (upd (upd ρ 60 (.bool x60)) 6 (.slice l_6a l_6l l_6c)) 4 (.pointer (some ⟨p_4b, p_4o, none⟩))) m := by
  have h1 : k2  p_4b p_4o l_6a l_6l l_6c x60 R m = k2G (fun p_4b p_4o l_6a l_6l l_6c x68 m => k3  p_4b p_4o l_6a l_6l l_6c x68 R m)  p_4b p_4o l_6a l_6l l_6c x60 R m := by kernel_rfl
  exact h1.trans (k2_eqG (fun p_4b p_4o l_6a l_6l l_6c x68 m => k3  p_4b p_4o l_6a l_6l l_6c x68 R m)  R p_4b p_4o l_6a l_6l l_6c x60 ρ m)
theorem k2_ok  (R : Ending → Mem → Prop) (ρ : Env) (m : Mem) (h : (k2E fun p_4b p_4o l_6a l_6l l_6c x60 m => k2  p_4b p_4o l_6a l_6l l_6c x60 R m) ρ m) : hops P (rgOps (sL (sL (sR (sR (sR (sR (sR (sR (sR (body))))))))))) ((thenQ (acpt P od (panicR R) (.code (sR (sL (sR (sR (sR (sR (sR (sR (sR (body))))))))))) (thenQ (acpt P od (panicR R) (.seq (.seq (.code (sL (sL (sR (sR (sR (sR (sR (sR (sR (sR (body)))))))))))) (.block 0 (.cut (l6E fun p_4b p_4o l_6a l_6l l_6c i_7 m => l6  p_4b p_4o l_6a l_6l l_6c i_7 R m) (.loop (lP (bB (sR (sL (sR (sR (sR (sR (sR (sR (sR (sR (body))))))))))))))))) (.code (sR (sR (sR (sR (sR (sR (sR (sR (sR (body)))))))))))) (bodyQ P fn R)) (bodyQ P fn R))) (thenQ (acpt P od (panicR R) (.seq (.seq (.code (sL (sL (sR (sR (sR (sR (sR (sR (sR (sR (body)))))))))))) (.block 0 (.cut (l6E fun p_4b p_4o l_6a l_6l l_6c i_7 m => l6  p_4b p_4o l_6a l_6l l_6c i_7 R m) (.loop (lP (bB (sR (sL (sR (sR (sR (sR (sR (sR (sR (sR (body))))))))))))))))) (.code (sR (sR (sR (sR (sR (sR (sR (sR (sR (body)))))))))))) (bodyQ P fn R)) (bodyQ P fn R))) .normal) (panicR R) ((rgOps (sL (sL (sR (sR (sR (sR (sR (sR (sR (body))))))))))).toList.drop 15) ρ m := by
  unfold k2E at h
  obtain ⟨p_4b, p_4o, e4, h⟩ := h.ex
  obtain ⟨l_6a, l_6l, l_6c, e6, h⟩ := h.ex
  obtain ⟨x60, e60, h⟩ := h.ex
  rw [← upd_self e4, ← upd_self e6, ← upd_self e60]
  refine hops_cut (P := P) (p := 8) (l2 := (rgOps (sL (sL (sR (sR (sR (sR (sR (sR (sR (body))))))))))).toList.drop 23) (by rw [List.drop_drop]) (fun ρ m h => k3_ok  R ρ m h) ?_
  exact Eq.mp (k2_eq  R p_4b p_4o l_6a l_6l l_6c x60 ρ m) h
theorem k1_eqG (Kk2 : Nat → Nat → Option Addr → Nat → Nat → Bool → Mem → Prop)  (R : Ending → Mem → Prop) (p_4b : Nat) (p_4o : Nat) (l_6a : Option Addr) (l_6l : Nat) (l_6c : Nat) (x52 : Bool) (ρ : Env) (m : Mem) : k1G Kk2  p_4b p_4o l_6a l_6l l_6c x52 R m = hops P (rgOps (sL (sL (sR (sR (sR (sR (sR (sR (sR (body))))))))))) (k2E Kk2) (panicR R) (((rgOps (sL (sL (sR (sR (sR (sR (sR (sR (sR (body))))))))))).toList.drop 7).take 8) (upd (upd (upd ρ 52 (.bool x52)) 6 (.slice l_6a l_6l l_6c)) 4 (.pointer (some ⟨p_4b, p_4o, none⟩))) m := by kernel_rfl
theorem k1_eq  (R : Ending → Mem → Prop) (p_4b : Nat) (p_4o : Nat) (l_6a : Option Addr) (l_6l : Nat) (l_6c : Nat) (x52 : Bool) (ρ : Env) (m : Mem) : k1  p_4b p_4o l_6a l_6l l_6c x52 R m = hops P (rgOps (sL (sL (sR (sR (sR (sR (sR (sR (sR (body))))))))))) (k2E fun p_4b p_4o l_6a l_6l l_6c x60 m => k2  p_4b p_4o l_6a l_6l l_6c x60 R m) (panicR R) (((rgOps (sL (sL (sR (sR (sR (sR (sR (sR (sR (body))))))))))).toList.drop 7).take 8) (upd (upd (upd ρ 52 (.bool x52)) 6 (.slice l_6a l_6l l_6c)) 4 (.pointer (some ⟨p_4b, p_4o, none⟩))) m := by
  have h1 : k1  p_4b p_4o l_6a l_6l l_6c x52 R m = k1G (fun p_4b p_4o l_6a l_6l l_6c x60 m => k2  p_4b p_4o l_6a l_6l l_6c x60 R m)  p_4b p_4o l_6a l_6l l_6c x52 R m := by kernel_rfl
  exact h1.trans (k1_eqG (fun p_4b p_4o l_6a l_6l l_6c x60 m => k2  p_4b p_4o l_6a l_6l l_6c x60 R m)  R p_4b p_4o l_6a l_6l l_6c x52 ρ m)
theorem k1_ok  (R : Ending → Mem → Prop) (ρ : Env) (m : Mem) (h : (k1E fun p_4b p_4o l_6a l_6l l_6c x52 m => k1  p_4b p_4o l_6a l_6l l_6c x52 R m) ρ m) : hops P (rgOps (sL (sL (sR (sR (sR (sR (sR (sR (sR (body))))))))))) ((thenQ (acpt P od (panicR R) (.code (sR (sL (sR (sR (sR (sR (sR (sR (sR (body))))))))))) (thenQ (acpt P od (panicR R) (.seq (.seq (.code (sL (sL (sR (sR (sR (sR (sR (sR (sR (sR (body)))))))))))) (.block 0 (.cut (l6E fun p_4b p_4o l_6a l_6l l_6c i_7 m => l6  p_4b p_4o l_6a l_6l l_6c i_7 R m) (.loop (lP (bB (sR (sL (sR (sR (sR (sR (sR (sR (sR (sR (body))))))))))))))))) (.code (sR (sR (sR (sR (sR (sR (sR (sR (sR (body)))))))))))) (bodyQ P fn R)) (bodyQ P fn R))) (thenQ (acpt P od (panicR R) (.seq (.seq (.code (sL (sL (sR (sR (sR (sR (sR (sR (sR (sR (body)))))))))))) (.block 0 (.cut (l6E fun p_4b p_4o l_6a l_6l l_6c i_7 m => l6  p_4b p_4o l_6a l_6l l_6c i_7 R m) (.loop (lP (bB (sR (sL (sR (sR (sR (sR (sR (sR (sR (sR (body))))))))))))))))) (.code (sR (sR (sR (sR (sR (sR (sR (sR (sR (body)))))))))))) (bodyQ P fn R)) (bodyQ P fn R))) .normal) (panicR R) ((rgOps (sL (sL (sR (sR (sR (sR (sR (sR (sR (body))))))))))).toList.drop 7) ρ m := by
  unfold k1E at h
  obtain ⟨p_4b, p_4o, e4, h⟩ := h.ex
  obtain ⟨l_6a, l_6l, l_6c, e6, h⟩ := h.ex
  obtain ⟨x52, e52, h⟩ := h.ex
  rw [← upd_self e4, ← upd_self e6, ← upd_self e52]
  refine hops_cut (P := P) (p := 8) (l2 := (rgOps (sL (sL (sR (sR (sR (sR (sR (sR (sR (body))))))))))).toList.drop 15) (by rw [List.drop_drop]) (fun ρ m h => k2_ok  R ρ m h) ?_
  exact Eq.mp (k1_eq  R p_4b p_4o l_6a l_6l l_6c x52 ρ m) h
theorem e0_eqG (Kk1 : Nat → Nat → Option Addr → Nat → Nat → Bool → Mem → Prop) (picks_0a : Option Addr) (picks_0l : Nat) (picks_0c : Nat) (R : Ending → Mem → Prop) (m : Mem) : e0G Kk1 picks_0a picks_0l picks_0c R m = acpt P od (panicR R) (.seq (.code (sL (body))) (.seq (.code (sL (sR (body)))) (.seq (.code (sL (sR (sR (body))))) (.seq (.code (sL (sR (sR (sR (body)))))) (.seq (.code (sL (sR (sR (sR (sR (body))))))) (.seq (.code (sL (sR (sR (sR (sR (sR (body)))))))) (.seq (.code (sL (sR (sR (sR (sR (sR (sR (body))))))))) (.seq (.seq (.inop 10 (rgOps (sL (sL (sR (sR (sR (sR (sR (sR (sR (body))))))))))) 7 (k1E Kk1)) (.code (sR (sL (sR (sR (sR (sR (sR (sR (sR (body)))))))))))) (.seq (.seq (.code (sL (sL (sR (sR (sR (sR (sR (sR (sR (sR (body)))))))))))) (.block 0 (.cut (l6E fun p_4b p_4o l_6a l_6l l_6c i_7 m => l6  p_4b p_4o l_6a l_6l l_6c i_7 R m) (.loop (lP (bB (sR (sL (sR (sR (sR (sR (sR (sR (sR (sR (body))))))))))))))))) (.code (sR (sR (sR (sR (sR (sR (sR (sR (sR (body)))))))))))))))))))) (bodyQ P fn R) (argE (#[.slice picks_0a picks_0l picks_0c] : Array Value).toList) m := by kernel_rfl
theorem e0_eq (picks_0a : Option Addr) (picks_0l : Nat) (picks_0c : Nat) (R : Ending → Mem → Prop) (m : Mem) : e0 picks_0a picks_0l picks_0c R m = acpt P od (panicR R) (e0A R) (bodyQ P fn R) (argE (#[.slice picks_0a picks_0l picks_0c] : Array Value).toList) m := by
  have h1 : e0 picks_0a picks_0l picks_0c R m = e0G (fun p_4b p_4o l_6a l_6l l_6c x52 m => k1  p_4b p_4o l_6a l_6l l_6c x52 R m) picks_0a picks_0l picks_0c R m := by kernel_rfl
  exact h1.trans (e0_eqG (fun p_4b p_4o l_6a l_6l l_6c x52 m => k1  p_4b p_4o l_6a l_6l l_6c x52 R m) picks_0a picks_0l picks_0c R m)
theorem ok (picks_0a : Option Addr) (picks_0l : Nat) (picks_0c : Nat) (R : Ending → Mem → Prop) (m : Mem) (h : e0 picks_0a picks_0l picks_0c R m) : HC P id #[.slice picks_0a picks_0l picks_0c] m R := by
  refine HC_of (fn := fn) (c := body) (od := od) (tb := tb) Go.Proofs.Try.func5 (by kernel_rfl) (by kernel_rfl) follows (by kernel_rfl) (of_decide_eq_true (by kernel_rfl)) ?_
  have he : (e0A R).erase = body := by kernel_rfl
  rw [← he]
  refine acpt_sound (P := P) (e0A R) _ _ _ ⟨⟨⟨⟨⟨⟨⟨⟨⟨True.intro, ⟨(fun ρ m h => l6_ok  R ρ m h), True.intro⟩⟩, ⟨True.intro, (fun ρ m h => k1_ok  R ρ m h)⟩⟩, True.intro⟩, True.intro⟩, True.intro⟩, True.intro⟩, True.intro⟩, True.intro⟩, True.intro⟩ ?_
  exact Eq.mp (e0_eq picks_0a picks_0l picks_0c R m) h
end eyotlaw10_PlaceCounts
end
end Go.E
