/- What keeps who was used last (lru): values of one kind. -/
import Derived.Test.YtjdkdeekniephaaCAg
set_option linter.unusedVariables false
set_option maxRecDepth 20000
set_option linter.unusedSimpArgs false
namespace Go.E.ZB
open Go.H Go.E
attribute [local irreducible] BiN MkS ConvN LookN MapUpN CallV HC

abbrev A := Option Addr × Nat × Nat
def vf : Int × A → List Value := fun e => [.int .i64 e.1, .slice e.2.1 e.2.2.1 e.2.2.2]
theorem vlen (e : Int × A) : (vf e).length = 2 := rfl
theorem vone (e : Int × A) : ∀ v ∈ vf e, notOne v = false := by
  intro v hv
  simp only [vf, List.mem_cons, List.not_mem_nil, or_false] at hv
  rcases hv with rfl | rfl <;> rfl
def ents (es : List (Int × A)) : List Value := es.flatMap vf
theorem ents_len (es : List (Int × A)) : (ents es).length = es.length * 2 := rows_len vlen es
theorem ents_cons (e : Int × A) (es : List (Int × A)) : ents (e :: es) = vf e ++ ents es := by simp [ents]
theorem ents_one (es : List (Int × A)) : ∀ v ∈ ents es, notOne v = false := by
  intro v hv
  simp only [ents, List.mem_flatMap] at hv
  obtain ⟨e, _, hv⟩ := hv
  exact vone e v hv
theorem eE : ElemOK P T_sl_lru_entry_byte T_lru_entry_byte (.agg #[.int .i64 0, .slice none 0 0]) 2 32 := .of (by kernel_rfl) (by kernel_rfl) rfl

theorem at1_spec {m : Mem} {k : Int} {e : Int × A} {cb : Nat} (hb : m cb = some (.cells #[.int .i64 k] T_int (0, 0))) {R : Ending → Mem → Prop} (h : ∀ m', Le m m' → R (.returned (.bool (e.1 == k))) m') :
    HC P lru_Cache_s_byte_at_1.id #[.agg (vf e).toArray, .pointer (some ⟨cb, 0, none⟩)] m R := by
  obtain ⟨x, va, vl, vc⟩ := e
  refine lru_Cache_s_byte_at_1.ok _ _ _ _ _ _ _ _ ?_
  intro b hb2
  refine LdV.s0 (set_same _ _ _) ?_
  refine LdV.s0 (Le.set hb2 _ _ _ hb) ?_
  exact h _ (Le.set hb2 _)
theorem idx_spec {m : Mem} {es : List (Int × A)} {a : Option Addr} {l c : Nat} (hc : CellsAt m a (ents es)) (hl : es.length = l) (hll : l ≤ 1000000) {k : Int} {cb : Nat} (hb : m cb = some (.cells #[.int .i64 k] T_int (0, 0))) {R : Ending → Mem → Prop}
    (h : ∀ m', Le m m' → R (.returned (.int .i64 (ixI (ixF k es 0)))) m') : HC P slices_IndexFunc_s_lru_entry_s_byte_lru_entry_s_byte.id #[.slice a l c, .func (.func lru_Cache_s_byte_at_1.id) #[] #[.pointer (some ⟨cb, 0, none⟩)]] m R := by
  subst hl
  refine slices_IndexFunc_s_lru_entry_s_byte_lru_entry_s_byte.ok _ _ _ _ _ _ ?_
  refine ⟨fun N a1 l1 c1 f x7 i mm => a1 = a ∧ l1 = es.length ∧ f = .func (.func lru_Cache_s_byte_at_1.id) #[] #[.pointer (some ⟨cb, 0, none⟩)] ∧ x7 = (es.length : Nat) ∧ Le m mm ∧ ∃ j : Nat, i = j ∧ j ≤ es.length ∧ N = es.length - j ∧ ixF k (es.drop j) j = ixF k es 0, es.length, ⟨rfl, rfl, rfl, rfl, Le.refl _, 0, rfl, by omega, by omega, by simp⟩, ?_⟩
  rintro N a1 l1 c1 f x7 i mm ⟨rfl, rfl, rfl, rfl, hle, j, rfl, hj, rfl, hx⟩
  refine BrD (fun hlt => ?_) (fun hge => ?_)
  rotate_left
  · rw [List.drop_of_length_le (by omega)] at hx
    have := h mm hle
    rw [← hx] at this
    exact this
  refine IxS.rows vlen (by decide) (hc.le hle) rfl (by omega) (by omega) ?_
  intro b o e he hce
  rw [Int.toNat_natCast] at he
  rw [ixF_drop he] at hx
  refine LdV.mk (hce 0 _ rfl) ?_
  refine LdV.mk (hce 1 _ rfl) ?_
  refine CallV.of ?_
  refine at1_spec (e := e) (hle _ _ hb) ?_
  intro m' hle'
  refine BrE (fun hk => ?_) (fun hk => ?_)
  · rw [if_pos hk] at hx
    have := h m' (hle.trans hle')
    rw [← hx] at this
    exact this
  · rw [if_neg hk] at hx
    refine ⟨es.length - (j + 1), by omega, rfl, rfl, rfl, rfl, hle.trans hle', j + 1, ?_, by omega, rfl, hx⟩
    rw [wi (by omega) (by omega)]; omega

/-- One is put ahead of all. -/
theorem insert_spec {m : Mem} {es : List (Int × A)} {a : Option Addr} {l c : Nat} (ho : Own m T_lru_entry_byte 2 a l c (ents es)) (hl : es.length = l) (hll : l ≤ 10000) {x : Int × A} {b : Nat} (hb : m b = some (.cells (vf x).toArray T_lru_entry_byte (0, 0))) (hbn : blk a ≠ some b) {R : Ending → Mem → Prop}
    (k : ∀ a' c' m', Chg (fun k => blk a = some k) m m' → Own m' T_lru_entry_byte 2 a' (l + 1) c' (ents (x :: es)) → (blk a' = blk a ∨ Fresh m a') → R (.returned (.slice a' (l + 1) c')) m') :
    HC P slices_Insert_s_lru_entry_s_byte_lru_entry_s_byte.id #[.slice a l c, .int .i64 0, .slice (some ⟨b, 0, none⟩) 1 1] m R := by
  subst hl
  refine slices_Insert_s_lru_entry_s_byte_lru_entry_s_byte.ok _ _ _ _ _ _ _ _ _ ?_
  have hcap := ho.cap
  have hxl := vlen x
  have hel := ents_len es
  refine ⟨by omega, by omega, by omega, ?_⟩
  refine BrEf (by decide) ?_
  have hvc : CellsAt m (some ⟨b, 0, none⟩) (vf x) := cells_at hb (by simp)
  refine BrE (fun h0 => ?_) (fun h0 => ?_)
  · -- none is there
    have e0 : es = [] := List.eq_nil_of_length_eq_zero (by omega)
    subst e0
    refine append_own eE ho hvc (by rw [hxl]) (vone x) (by decide) (by decide) (by decide) ?_
    intro a' c' m' ho' hg
    refine k a' c' m' hg.1 ?_ hg.2
    simpa [ents] using ho'
  have hpos : 0 < es.length := by omega
  obtain ⟨_, hcase⟩ := id ho
  rcases hcase with ⟨_, q, _⟩ | ⟨ba, cur, rfl, hba, hlc, hs, ht, hcm⟩
  · omega
  have hlc' : ∀ n : Nat, n ≤ c → n * 2 ≤ cur.size := fun n hn => by rw [hs]; exact Nat.mul_le_mul_right _ hn
  have hw : IntKind.i64.wrap (((es.length : Nat) : Int) + ((1 : Nat) : Int)) = ((es.length + 1 : Nat) : Int) := by rw [wi (by omega) (by omega)]; omega
  rw [hw]
  have hrow : CellsAt m (some ⟨ba, 0, none⟩) (ents es) := ho.cells
  have hcn : ba ≠ b := fun e => hbn (by rw [e]; rfl)
  have hxs : (vf x).length + (ents es).length = (es.length + 1) * 2 := by rw [hxl, hel]; omega
  have hxs' : ((es.length + 1 : Nat) : Int).toNat = es.length + 1 := by omega
  have hmin1 : Nat.min 1 (es.length + 1) = 1 := Nat.min_eq_left (by omega)
  have hone : (vf x ++ ents es) = ents (x :: es) := (ents_cons x es).symm
  refine BrD (fun hgr => ?_) (fun hgr => ?_)
  · -- a new row
    refine ⟨by omega, by omega, by omega, ?_⟩
    rw [show IntKind.i64.wrap (((es.length + 1 : Nat) : Int) - 0) = ((es.length + 1 : Nat) : Int) by rw [wi (by omega) (by omega)]; omega]
    refine append_zeros eE (by kernel_rfl) (xs := []) (CellsAt.empty _ _) rfl (by omega) (by omega) (by decide) (by decide) (by decide) (by omega) ?_
    intro bn cn cur2 hbn2 hcn2 hcm2 hsz2 _
    have e1 : (0 : Int).toNat - (0 : Int).toNat + ((es.length + 1 : Nat) : Int).toNat = es.length + 1 := by omega
    rw [e1] at hcn2 ⊢
    have hle2 := Le.set hbn2 (.cells cur2 T_lru_entry_byte (0, 0))
    have hfit : (es.length + 1) * 2 ≤ cur2.size := by rw [hsz2]; exact Nat.mul_le_mul_right _ hcn2
    refine ⟨by omega, by omega, by omega, ?_⟩
    rw [shf0]
    have e2 : ((es.length + 1 : Nat) : Int).toNat - (0 : Int).toNat = es.length + 1 := by omega
    rw [e2]
    refine copy_into eE (vs := vf x) (set_same _ _ _) (hvc.le hle2) (by rw [hmin1, hxl]) (vone x) (by rw [hxl]; omega) ?_
    rw [set_set]
    refine ⟨_, Le.refl _, ?_⟩
    rw [show IntKind.i64.wrap ((0 : Int) + ((1 : Nat) : Int)) = 1 by decide]
    refine ⟨by omega, by omega, by omega, ?_⟩
    rw [show shf (some (⟨bn, 0, none⟩ : Addr)) (1 : Int).toNat 2 cn = some ⟨bn, 0 + 1 * 2, none⟩ from shf_at (by omega)]
    refine ⟨by omega, by omega, by omega, ?_⟩
    rw [shf0]
    have e3 : ((es.length : Nat) : Int).toNat - (0 : Int).toNat = es.length := by omega
    have e4 : ((es.length + 1 : Nat) : Int).toNat - (1 : Int).toNat = es.length := by omega
    rw [e3, e4]
    have hrow2 : CellsAt (m.set bn (.cells (putCells cur2 0 (vf x)) T_lru_entry_byte (0, 0))) (some ⟨ba, 0, none⟩) (ents es) := hrow.le (Le.set hbn2 _)
    refine copy_into eE (vs := ents es) (set_same _ _ _) hrow2 (by rw [hel, show Nat.min es.length es.length = es.length from Nat.min_self _]) (ents_one es) (by rw [putCells_size, hel]; omega) ?_
    rw [set_set]
    have hput := put_two' (cur := cur2) (xs := vf x) (ys := ents es) (by rw [hxs]; exact hfit)
    rw [hxs, hone, hxl] at hput
    refine k (some ⟨bn, 0, none⟩) cn _ ((Le.set hbn2 _).chg _) ⟨by rw [ents_len]; rfl, .inr ⟨bn, _, rfl, set_same _ _ _, hcn2, by rw [putCells_size, putCells_size, hsz2], hput, hcm2⟩⟩ (.inr ?_)
    intro b' e; cases e; exact hbn2
  · -- in place
    have hroom : es.length + 1 ≤ c := by omega
    have hfit : (es.length + 1) * 2 ≤ cur.size := hlc' _ hroom
    refine ⟨by omega, by omega, by omega, ?_⟩
    rw [shf0]
    have e2 : ((es.length + 1 : Nat) : Int).toNat - (0 : Int).toNat = es.length + 1 := by omega
    rw [e2]
    rw [show IntKind.i64.wrap ((0 : Int) + ((1 : Nat) : Int)) = 1 by decide]
    have e5 : c - (0 : Int).toNat = c := by omega
    rw [e5]
    refine ⟨by omega, by omega, by omega, ?_⟩
    rw [show shf (some (⟨ba, 0, none⟩ : Addr)) (1 : Int).toNat 2 c = some ⟨ba, 0 + 1 * 2, none⟩ from shf_at (by omega)]
    refine overlaps_no (rs := #[T_bool]) eE Go.Proofs.Try.func61 (by kernel_rfl) (by kernel_rfl) (by kernel_rfl) (by kernel_rfl) hb hba (Ne.symm hcn) ?_
    refine Br.t rfl ?_
    refine ⟨m, Le.refl _, ?_⟩
    refine ⟨by omega, by omega, by omega, ?_⟩
    rw [show shf (some (⟨ba, 0, none⟩ : Addr)) (1 : Int).toNat 2 c = some ⟨ba, 0 + 1 * 2, none⟩ from shf_at (by omega)]
    refine ⟨by omega, by omega, by omega, ?_⟩
    rw [shf0]
    have e4 : ((es.length + 1 : Nat) : Int).toNat - (1 : Int).toNat = es.length := by omega
    rw [e2, e4]
    have hmin2 : Nat.min (es.length + 1) es.length = es.length := Nat.min_eq_right (by omega)
    refine copy_into eE (vs := ents es) hba hrow (by rw [hel, hmin2]) (ents_one es) (by rw [hel]; omega) ?_
    refine ⟨by omega, by omega, by omega, ?_⟩
    rw [shf0, e2]
    have hvc2 : CellsAt (m.set ba (.cells (putCells cur (0 + 1 * 2) (ents es)) T_lru_entry_byte (0, 0))) (some ⟨b, 0, none⟩) (vf x) := by
      refine hvc.chg (Chg.set _ _ _) ?_
      intro b' e1 e2; cases e1; exact hcn e2.symm
    refine copy_into eE (vs := vf x) (set_same _ _ _) hvc2 (by rw [hmin1, hxl]) (vone x) (by rw [hxl, putCells_size]; omega) ?_
    rw [set_set]
    have hput := put_two (cur := cur) (xs := vf x) (ys := ents es) (by rw [hxs]; exact hfit)
    rw [hxs, hone, hxl] at hput
    refine k (some ⟨ba, 0, none⟩) c _ ((Chg.set _ _ _).mono (fun k e => by subst e; rfl)) ⟨by rw [ents_len]; rfl, .inr ⟨ba, _, rfl, set_same _ _ _, hroom, by rw [putCells_size, putCells_size, hs], hput, hcm⟩⟩ (.inl rfl)

/-- One is taken out. -/
theorem delete_spec {m : Mem} {es : List (Int × A)} {a : Option Addr} {l c : Nat} (ho : Own m T_lru_entry_byte 2 a l c (ents es)) (hl : es.length = l) (hll : l ≤ 10000) {i : Nat} (hi : i < l) {R : Ending → Mem → Prop}
    (k : ∀ m', Chg (fun k => blk a = some k) m m' → Own m' T_lru_entry_byte 2 a (l - 1) c (ents (es.eraseIdx i)) → R (.returned (.slice a (l - 1) c)) m') :
    HC P slices_Delete_s_lru_entry_s_byte_lru_entry_s_byte.id #[.slice a l c, .int .i64 (i : Int), .int .i64 ((i : Int) + 1)] m R := by
  subst hl
  refine slices_Delete_s_lru_entry_s_byte_lru_entry_s_byte.ok _ _ _ _ _ _ _ ?_
  have hcap := ho.cap
  have hel := ents_len es
  refine sl3_ok eE (by omega) (by omega) (by omega) (by omega) ?_
  intro v
  refine BrEf (by omega) ?_
  obtain ⟨_, hcase⟩ := id ho
  rcases hcase with ⟨_, q, _⟩ | ⟨ba, cur, rfl, hba, hlc, hs, ht, hcm⟩
  · omega
  refine ⟨m, Le.refl _, ?_⟩
  refine ⟨by omega, by omega, by omega, ?_⟩
  rw [shf0]
  refine ⟨by omega, by omega, by omega, ?_⟩
  have hsub := CellsAt.sub (sz := 2) (lo := i + 1) (hi := es.length) (c := c) ho.cells (by rw [hel]; omega) hcap
  rw [List.take_of_length_le (by rw [hel]; omega)] at hsub
  have hdrop : (ents es).drop ((i + 1) * 2) = ents (es.drop (i + 1)) := rows_drop vlen es (i + 1)
  rw [hdrop] at hsub
  have hfit : es.length * 2 ≤ cur.size := by rw [hs]; exact Nat.mul_le_mul_right _ hlc
  have e1 : ((i : Nat) : Int).toNat - (0 : Int).toNat = i := by omega
  have e2 : ((es.length : Nat) : Int).toNat - ((i : Int) + 1).toNat = es.length - (i + 1) := by omega
  have e3 : c - (0 : Int).toNat = c := by omega
  have e4 : ((i : Int) + 1).toNat = i + 1 := by omega
  rw [e1, e2, e3, e4]
  have hdl : (ents (es.drop (i + 1))).length = (es.length - (i + 1)) * 2 := by rw [ents_len, List.length_drop]
  refine append_room eE hba hsub hdl (ents_one _) (by omega) (by rw [hdl]; omega) ?_
  rw [show i + (es.length - (i + 1)) = es.length - 1 by omega]
  refine ⟨by omega, by omega, by omega, ?_⟩
  have e5 : ((es.length - 1 : Nat) : Int).toNat = es.length - 1 := by omega
  have e6 : ((es.length : Nat) : Int).toNat - (es.length - 1) = 1 := by omega
  rw [e5, e6]
  rw [show shf (some (⟨ba, 0, none⟩ : Addr)) (es.length - 1) 2 c = some ⟨ba, 0 + (es.length - 1) * 2, none⟩ from shf_at (by omega)]
  refine clear_row eE (by intro v hv; simp [Value.cells] at hv; rcases hv with rfl | rfl <;> rfl) (set_same _ _ _) (by rw [putCells_size]; omega) ?_
  intro zs hzs
  rw [set_set]
  have hput := put_cut (cur := cur) (xs := ents (es.take i)) (ys := ents (es.drop (i + 1))) (zs := zs) (p := i * 2) ?_ (by omega) (by rw [hdl, hzs]; omega)
  · have e7 : i * 2 + (ents (es.drop (i + 1))).length = (es.length - 1) * 2 := by rw [hdl]; omega
    rw [e7] at hput
    have e8 : ents (es.take i) ++ ents (es.drop (i + 1)) = ents (es.eraseIdx i) := by
      rw [List.eraseIdx_eq_take_drop_succ]; simp [ents]
    rw [e8] at hput
    refine k _ ((Chg.set _ _ _).mono (fun k e => by subst e; rfl)) ⟨?_, .inr ⟨ba, _, rfl, set_same _ _ _, by omega, by rw [putCells_size, putCells_size, hs], ?_, hcm⟩⟩
    · rw [ents_len, List.length_eraseIdx_of_lt hi]
    · simpa using hput
  · have := rows_take vlen es i
    rw [show ents (es.take i) = (ents es).take (i * 2) from this.symm, ← ht, List.take_take]
    congr 1; omega
end Go.E.ZB
