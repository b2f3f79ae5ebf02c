/- Layer 8: ClassAll, ClassLaws. -/
import Derived.Test.YtpbnhcggfgegkaaDoorSE6
set_option linter.unusedVariables false
set_option linter.unusedSimpArgs false
set_option maxRecDepth 20000
namespace Go.E
open Go.H
attribute [local irreducible] BiN MkS ConvN LookN MapUpN CallV HC limb dbTab

section
variable {f g h : Nat → Bool} {m0 m : Mem} {ba bb bc : Nat}
abbrev setAt (m : Mem) (b : Nat) (f : Nat → Bool) : Prop := m b = some (.cells (cells4 f) T_api_Set (0, 0))

theorem laws_k4 (hle : Le m0 m) (ea : setAt m ba f) (x6 : Bool) : eyotlaw8_ClassLaws.k4 ba 0 x6 true (Fine m0) m m := by
  unfold eyotlaw8_ClassLaws.k4
  refine Br.t rfl ?_
  refine get4 ea ?_
  refine get4 ea ?_
  refine Not_spec ?_
  intro m1 h1
  refine ContSet.mk ?_
  refine Lk.all h1 ?_
  refine And_spec ?_
  intro m2 h2
  refine ContSet.mk ?_
  rw [eq4_zero]
  refine ⟨?_, (hle.trans h1).trans h2⟩
  rw [show emptyS (fun b => f b && !f b) = true from empty_of fun b _ => by simp]
theorem laws_k3 (hle : Le m0 m) (ea : setAt m ba f) (eb : setAt m bb g) (x6 : Bool) : eyotlaw8_ClassLaws.k3 ba 0 bb 0 x6 true (Fine m0) m m := by
  unfold eyotlaw8_ClassLaws.k3
  refine Br.t rfl ?_
  refine get4 ea ?_
  refine get4 eb ?_
  refine get4 eb ?_
  refine get4 ea ?_
  refine Or_spec ?_
  intro m1 h1
  refine ContSet.mk ?_
  refine Lk.all h1 ?_
  refine Or_spec ?_
  intro m2 h2
  refine ContSet.mk ?_
  refine Lk.all h2 ?_
  rw [eq4' (f := fun b => f b || g b) (g := fun b => g b || f b) fun b _ => Bool.or_comm _ _]
  exact laws_k4 ((hle.trans h1).trans h2) (h2 _ _ (h1 _ _ ea)) x6
theorem laws_k2 (hle : Le m0 m) (ea : setAt m ba f) (eb : setAt m bb g) (ec : setAt m bc h) (x6 : Bool) : eyotlaw8_ClassLaws.k2 ba 0 bb 0 bc 0 x6 true (Fine m0) m m := by
  unfold eyotlaw8_ClassLaws.k2
  refine Br.t rfl ?_
  refine get4 ea ?_
  refine get4 eb ?_
  refine get4 ec ?_
  refine get4 ea ?_
  refine get4 eb ?_
  refine get4 ea ?_
  refine get4 ec ?_
  refine Or_spec ?_
  intro m1 h1
  refine ContSet.mk ?_
  refine Lk.all h1 ?_
  refine And_spec ?_
  intro m2 h2
  refine ContSet.mk ?_
  refine Lk.all h2 ?_
  refine And_spec ?_
  intro m3 h3
  refine ContSet.mk ?_
  refine Lk.all h3 ?_
  refine And_spec ?_
  intro m4 h4
  refine ContSet.mk ?_
  refine Lk.all h4 ?_
  refine Or_spec ?_
  intro m5 h5
  refine ContSet.mk ?_
  refine Lk.all h5 ?_
  rw [eq4' (f := fun b => f b && (g b || h b)) (g := fun b => (f b && g b) || (f b && h b)) fun b _ => Bool.and_or_distrib_left _ _ _]
  have hl := (((h1.trans h2).trans h3).trans h4).trans h5
  exact laws_k3 (hle.trans hl) (hl _ _ ea) (hl _ _ eb) x6
theorem laws_k1 (hle : Le m0 m) (ea : setAt m ba f) (eb : setAt m bb g) (ec : setAt m bc h) (x6 : Bool) : eyotlaw8_ClassLaws.k1 ba 0 bb 0 bc 0 x6 true (Fine m0) m m := by
  unfold eyotlaw8_ClassLaws.k1
  refine Br.t rfl ?_
  refine get4 ea ?_
  refine get4 eb ?_
  refine get4 ea ?_
  refine get4 eb ?_
  refine Or_spec ?_
  intro m1 h1
  refine ContSet.mk ?_
  refine Lk.all h1 ?_
  refine Not_spec ?_
  intro m2 h2
  refine ContSet.mk ?_
  refine Lk.all h2 ?_
  refine Not_spec ?_
  intro m3 h3
  refine ContSet.mk ?_
  refine Lk.all h3 ?_
  refine Not_spec ?_
  intro m4 h4
  refine ContSet.mk ?_
  refine Lk.all h4 ?_
  refine And_spec ?_
  intro m5 h5
  refine ContSet.mk ?_
  refine Lk.all h5 ?_
  rw [eq4' (f := fun b => !(f b || g b)) (g := fun b => !f b && !g b) fun b _ => Bool.not_or _ _]
  have hl := (((h1.trans h2).trans h3).trans h4).trans h5
  exact laws_k2 (hle.trans hl) (hl _ _ ea) (hl _ _ eb) (hl _ _ ec) x6
end
theorem ClassLaws_m {f g h : Nat → Bool} {m : Mem} (hG : Glob m) : HC P eyotlaw8_ClassLaws.id #[setv f, setv g, setv h] m (Fine m) := by
  refine eyotlaw8_ClassLaws.ok _ _ _ _ _ _ _ _ _ _ _ _ _ _ ?_
  intro ba hba bb hbb bc hbc
  have l1 := Le.set hba (.cells (cells4 f) T_api_Set (0, 0))
  have l2 := Le.set hbb (.cells (cells4 g) T_api_Set (0, 0))
  have l3 := Le.set hbc (.cells (cells4 h) T_api_Set (0, 0))
  have ea := l3 _ _ (l2 _ _ (set_same m ba (.cells (cells4 f) T_api_Set (0, 0))))
  have eb := l3 _ _ (set_same _ bb (.cells (cells4 g) T_api_Set (0, 0)))
  have ec := set_same (((m.set ba (.cells (cells4 f) T_api_Set (0, 0))).set bb (.cells (cells4 g) T_api_Set (0, 0)))) bc (.cells (cells4 h) T_api_Set (0, 0))
  have hle := (l1.trans l2).trans l3
  refine begun_spec (hG.le hle) ?_
  intro m4 h4
  dsimp only [Cont]
  refine UnB.mk ?_
  refine Br.f rfl ?_
  refine ⟨m4, Le.refl _, ?_⟩
  refine get4 (h4 _ _ ea) ?_
  refine get4 (h4 _ _ ea) ?_
  refine Not_spec ?_
  intro m5 h5
  refine ContSet.mk ?_
  refine Lk.all h5 ?_
  refine Not_spec ?_
  intro m6 h6
  refine ContSet.mk ?_
  refine Lk.all h6 ?_
  rw [eq4' (f := fun b => !!f b) (g := f) fun b _ => Bool.not_not _]
  have hl := (h4.trans h5).trans h6
  exact laws_k1 (hle.trans hl) (hl _ _ ea) (hl _ _ eb) (hl _ _ ec) _
theorem ClassLaws_arg {W : World} {v w u : Value} (hG : Glob (heapM W)) (h : Arg P W T_api_Set v) (h2 : Arg P W T_api_Set w) (h3 : Arg P W T_api_Set u) : HC P eyotlaw8_ClassLaws.id #[v, w, u] (heapM W) (Fine (heapM W)) := by
  obtain ⟨f, rfl⟩ := Arg_set h
  obtain ⟨g, rfl⟩ := Arg_set h2
  obtain ⟨k, rfl⟩ := Arg_set h3
  exact ClassLaws_m hG

section
variable {f g : Nat → Bool} {m0 m : Mem} {ba bb : Nat} {a : Option Addr} {l c : Nat} {bs : List UInt8} {x : Int} {is : Bool}
theorem all_k7 (hle : Le m0 m) (ea : setAt m ba f) : eyotlaw8_ClassAll.k7 ba 0 x is x is true (Fine m0) m m := by
  unfold eyotlaw8_ClassAll.k7
  refine Br.t rfl ?_
  refine get4 ea ?_
  refine get4 ea ?_
  refine Show_spec ?_
  intro m1 h1
  dsimp only [Cont]
  refine UnStr.mk (Lk.all h1 ?_)
  refine ShowClass_spec ?_
  intro m2 h2
  dsimp only [Cont]
  refine UnStr.mk ?_
  refine Br.t (beq_self_eq_true _) ?_
  refine BrEt rfl ?_
  exact ⟨by rw [beq_self_eq_true], (hle.trans h1).trans h2⟩
theorem all_k6 (hle : Le m0 m) (ea : setAt m ba f) (hc : CellsAt m a (u8s bs)) (hl : bs.length = l) (hb : l ≤ 40) : eyotlaw8_ClassAll.k6 a l c ba 0 x is x is true (Fine m0) m m := by
  unfold eyotlaw8_ClassAll.k6
  refine Br.t rfl ?_
  refine Of_spec hc hl (by omega) ?_
  intro m1 h1
  refine ContSet.mk ?_
  refine Lk.all h1 ?_
  refine ROf_spec (hc.le h1) hl (by omega) ?_
  intro m2 h2
  refine ContSet.mk ?_
  refine Lk.all h2 ?_
  rw [eq4' (f := inB bs) (g := inB bs) fun _ _ => rfl]
  exact all_k7 ((hle.trans h1).trans h2) (h2 _ _ (h1 _ _ ea))
theorem all_k5 (hle : Le m0 m) (ea : setAt m ba f) (hc : CellsAt m a (u8s bs)) (hl : bs.length = l) (hb : l ≤ 40) : eyotlaw8_ClassAll.k5 a l c ba 0 x is x is true (Fine m0) m m := by
  unfold eyotlaw8_ClassAll.k5
  refine Br.t rfl ?_
  refine get4 ea ?_
  refine get4 ea ?_
  refine Not_spec ?_
  intro m1 h1
  refine ContSet.mk ?_
  refine Lk.all h1 ?_
  refine RNot_spec ?_
  intro m2 h2
  refine ContSet.mk ?_
  refine Lk.all h2 ?_
  rw [eq4' (f := fun b => !f b) (g := fun b => !f b) fun _ _ => rfl]
  exact all_k6 ((hle.trans h1).trans h2) (h2 _ _ (h1 _ _ ea)) (hc.le (h1.trans h2)) hl hb
theorem all_k4 (hle : Le m0 m) (ea : setAt m ba f) (eb : setAt m bb g) (hc : CellsAt m a (u8s bs)) (hl : bs.length = l) (hb : l ≤ 40) : eyotlaw8_ClassAll.k4 a l c ba 0 bb 0 x is x is true (Fine m0) m m := by
  unfold eyotlaw8_ClassAll.k4
  refine Br.t rfl ?_
  refine get4 ea ?_
  refine get4 eb ?_
  refine get4 ea ?_
  refine get4 eb ?_
  refine And_spec ?_
  intro m1 h1
  refine ContSet.mk ?_
  refine Lk.all h1 ?_
  refine RAnd_spec ?_
  intro m2 h2
  refine ContSet.mk ?_
  refine Lk.all h2 ?_
  rw [eq4' (f := fun b => f b && g b) (g := fun b => f b && g b) fun _ _ => rfl]
  exact all_k5 ((hle.trans h1).trans h2) (h2 _ _ (h1 _ _ ea)) (hc.le (h1.trans h2)) hl hb
theorem all_k3 (hle : Le m0 m) (ea : setAt m ba f) (eb : setAt m bb g) (hc : CellsAt m a (u8s bs)) (hl : bs.length = l) (hb : l ≤ 40) : eyotlaw8_ClassAll.k3 a l c ba 0 bb 0 x is x is true (Fine m0) m m := by
  unfold eyotlaw8_ClassAll.k3
  refine Br.t rfl ?_
  refine get4 ea ?_
  refine get4 eb ?_
  refine get4 ea ?_
  refine get4 eb ?_
  refine Or_spec ?_
  intro m1 h1
  refine ContSet.mk ?_
  refine Lk.all h1 ?_
  refine ROr_spec ?_
  intro m2 h2
  refine ContSet.mk ?_
  refine Lk.all h2 ?_
  rw [eq4' (f := fun b => f b || g b) (g := fun b => f b || g b) fun _ _ => rfl]
  have hh := h1.trans h2
  exact all_k4 (hle.trans hh) (hh _ _ ea) (hh _ _ eb) (hc.le hh) hl hb
theorem all_k2 {b : Nat} (hb256 : b < 256) (hle : Le m0 m) (ea : setAt m ba f) (eb : setAt m bb g) (hc : CellsAt m a (u8s bs)) (hl : bs.length = l) (hb : l ≤ 40) : eyotlaw8_ClassAll.k2 (b : Int) a l c ba 0 bb 0 x is x is (Fine m0) m := by
  unfold eyotlaw8_ClassAll.k2
  refine ⟨m, Le.refl _, ?_⟩
  refine get4 ea ?_
  refine get4 ea ?_
  refine Has_spec hb256 ?_
  intro m1 h1
  dsimp only [Cont]
  refine UnB.mk (Lk.all h1 ?_)
  refine RHas_spec hb256 ?_
  intro m2 h2
  dsimp only [Cont]
  refine UnB.mk (Lk.all h2 ?_)
  rw [beq_self_eq_true]
  have hh := h1.trans h2
  exact all_k3 (hle.trans hh) (hh _ _ ea) (hh _ _ eb) (hc.le hh) hl hb
/-- The least byte from j on. -/
def LeastFrom (f : Nat → Bool) (j : Nat) (x : Int) (is : Bool) : Prop :=
  (is = false ∧ x = 0 ∧ ∀ i, j ≤ i → i < 256 → f i = false) ∨ (is = true ∧ ∃ t : Nat, x = (t : Int) ∧ j ≤ t ∧ t < 256 ∧ f t = true ∧ ∀ i, j ≤ i → i < t → f i = false)
theorem LeastFrom.same {x y : Int} {is js : Bool} (h : LeastFrom f 0 x is) (k : LeastFrom f 0 y js) : x = y ∧ is = js := by
  rcases h with ⟨rfl, rfl, h⟩ | ⟨rfl, t, rfl, _, h1, h2, h3⟩ <;> rcases k with ⟨rfl, rfl, k⟩ | ⟨rfl, u, rfl, _, k1, k2, k3⟩
  · exact ⟨rfl, rfl⟩
  · rw [h u (by omega) k1] at k2; cases k2
  · rw [k t (by omega) h1] at h2; cases h2
  · refine ⟨?_, rfl⟩
    rcases Nat.lt_trichotomy t u with e | e | e
    · rw [k3 t (by omega) e] at h2; cases h2
    · rw [e]
    · rw [h3 u (by omega) e] at k2; cases k2
theorem all_l1 {b : Nat} (hb256 : b < 256) (hle : Le m0 m) (ea : setAt m ba f) (eb : setAt m bb g) (hc : CellsAt m a (u8s bs)) (hl : bs.length = l) (hb : l ≤ 40) (hx : LeastFrom f 0 x is) :
    eyotlaw8_ClassAll.l1 (b : Int) a l c ba 0 bb 0 x is 0 false 255 (Fine m0) m := by
  refine ⟨fun N x2 pa pl pc q4 o4 q5 o5 y ys w ws i mm => x2 = (b : Int) ∧ pa = a ∧ pl = l ∧ pc = c ∧ q4 = ba ∧ o4 = 0 ∧ q5 = bb ∧ o5 = 0 ∧ y = x ∧ ys = is ∧ Le m mm ∧ ∃ j : Nat, i = (j : Int) - 1 ∧ N = j ∧ j ≤ 256 ∧ LeastFrom f j w ws, 256,
    ⟨rfl, rfl, rfl, rfl, rfl, rfl, rfl, rfl, rfl, rfl, Le.refl _, 256, by omega, rfl, by omega, .inl ⟨rfl, rfl, fun i h1 h2 => by omega⟩⟩, ?_⟩
  rintro j x2 pa pl pc q4 o4 q5 o5 y ys w ws i mm ⟨rfl, rfl, rfl, rfl, rfl, rfl, rfl, rfl, rfl, rfl, hm, _, rfl, rfl, hj, hw⟩
  refine BrD (fun hge => ?_) (fun hlt => ?_)
  · have hj1 : IntKind.u8.wrap ((j : Int) - 1) = ((j - 1 : Nat) : Int) := by rw [IntKind.wrap_u8]; omega
    rw [hj1]
    have hwr : IntKind.i64.wrap ((j : Int) - 1 - 1) = ((j - 1 : Nat) : Int) - 1 := by rw [wi (by omega) (by omega)]; omega
    rw [hwr]
    refine get4 (hm _ _ ea) ?_
    refine RHas_spec (by omega) ?_
    intro m1 h1
    dsimp only [Cont]
    refine UnB.mk ?_
    refine Br.mk (fun ht => ?_) (fun ht => ?_)
    · refine ⟨j - 1, by omega, rfl, rfl, rfl, rfl, rfl, rfl, rfl, rfl, rfl, rfl, hm.trans h1, j - 1, rfl, rfl, by omega, .inr ⟨rfl, j - 1, rfl, by omega, by omega, ht, fun i h2 h3 => by omega⟩⟩
    · refine ⟨j - 1, by omega, rfl, rfl, rfl, rfl, rfl, rfl, rfl, rfl, rfl, rfl, hm.trans h1, j - 1, rfl, rfl, by omega, ?_⟩
      rcases hw with ⟨e1, e2, h2⟩ | ⟨e1, t, e2, h2, h3, h4, h5⟩
      · refine .inl ⟨e1, e2, fun i h3 h4 => ?_⟩
        by_cases e : i = j - 1
        · rw [e]; exact ht
        · exact h2 i (by omega) h4
      · refine .inr ⟨e1, t, e2, by omega, h3, h4, fun i h6 h7 => ?_⟩
        by_cases e : i = j - 1
        · rw [e]; exact ht
        · exact h5 i (by omega) h7
  · have hj0 : j = 0 := by omega
    subst hj0
    obtain ⟨e1, e2⟩ := hx.same hw
    subst e1; subst e2
    exact all_k2 hb256 (hle.trans hm) (hm _ _ ea) (hm _ _ eb) (hc.le hm) hl hb
theorem Least_any (hG : Glob m) {R : Ending → Mem → Prop} (k : ∀ m' x is, Le m m' → LeastFrom f 0 x is → R (.returned (.tuple #[.int .u8 x, .bool is])) m') : HC P class_Least.id #[setv f] m R := by
  by_cases he : emptyS f = true
  · exact Least_none (empty_all he) fun m' h => k m' 0 false h (.inl ⟨rfl, rfl, fun i _ h => empty_all he i h⟩)
  · obtain ⟨t, h1, h2, h3⟩ := empty_ex he
    exact Least_some h1 h2 h3 hG fun m' h => k m' t true h (.inr ⟨rfl, t, rfl, by omega, h1, h2, fun i _ h => h3 i h⟩)
theorem ContIB.mk {x : Int} {is : Bool} {K : Int → Bool → Mem → Prop} {Pn : List PanicEntry → Mem → Prop} {m : Mem} (k : K x is m) :
    Cont (fun v m => UnTup v fun us0 => UnCons us0 fun w us1 => UnI w .u8 fun x => UnCons us1 fun w us2 => UnB w fun is => UnNil us2 (K x is m)) Pn (.returned (.tuple #[.int .u8 x, .bool is])) m := k
theorem ClassAll_m {b : Nat} (hb256 : b < 256) (hG : Glob m) (hc : CellsAt m a (u8s bs)) (hl : bs.length = l) : HC P eyotlaw8_ClassAll.id #[setv f, setv g, .int .u8 (b : Int), .slice a l c] m (Fine m) := by
  refine eyotlaw8_ClassAll.ok _ _ _ _ _ _ _ _ _ _ _ _ _ _ ?_
  intro ba hba bb hbb
  have l1 := Le.set hba (.cells (cells4 f) T_api_Set (0, 0))
  have l2 := Le.set hbb (.cells (cells4 g) T_api_Set (0, 0))
  have ea := l2 _ _ (set_same m ba (.cells (cells4 f) T_api_Set (0, 0)))
  have eb := set_same (m.set ba (.cells (cells4 f) T_api_Set (0, 0))) bb (.cells (cells4 g) T_api_Set (0, 0))
  have hle := l1.trans l2
  refine begun_spec (hG.le hle) ?_
  intro m4 h4
  dsimp only [Cont]
  refine UnB.mk ?_
  refine Br.f rfl ?_
  refine BrD (fun _ => ⟨rfl, hle.trans h4⟩) (fun h40 => ?_)
  refine get4 (h4 _ _ ea) ?_
  refine Least_any (hG.le (hle.trans h4)) ?_
  intro m5 x is h5 hx
  refine ContIB.mk ?_
  have hh := h4.trans h5
  exact all_l1 hb256 (hle.trans hh) (hh _ _ ea) (hh _ _ eb) (hc.le (hle.trans hh)) hl (by omega) hx
end
theorem ClassAll_arg {W : World} {v w u z : Value} (hG : Glob (heapM W)) (h : Arg P W T_api_Set v) (h2 : Arg P W T_api_Set w) (h3 : Arg P W T_uint8 u) (h4 : Arg P W T_sl_uint8 z) : HC P eyotlaw8_ClassAll.id #[v, w, u, z] (heapM W) (Fine (heapM W)) := by
  obtain ⟨f, rfl⟩ := Arg_set h
  obtain ⟨g, rfl⟩ := Arg_set h2
  obtain ⟨n, rfl, hw⟩ := h3.int (k := .u8) (by kernel_rfl)
  have hn := wf_u8 hw
  obtain ⟨b, rfl⟩ : ∃ b : Nat, n = (b : Int) := ⟨n.toNat, by omega⟩
  obtain ⟨a, l, c, bs, rfl, hlc, hl, _, hx⟩ := h4.u8s (e := T_uint8) (by kernel_rfl) (by kernel_rfl)
  exact ClassAll_m (by omega) hG hx (by rw [List.length_take]; omega)
end Go.E
