import Derived.Test.YtjicfgageihahaaCL1
set_option linter.unusedVariables false
set_option linter.unusedSimpArgs false
namespace Go.E
open Go.H
attribute [local irreducible] BiN MkS ConvN LookN MapUpN CallV HC

/-! ### CacheLast -/
section
variable {ms mm : Mem} {F : Nat → Prop} {bc : Nat} {n : Int} {es : List (Int × Int)}
theorem Last_k6 (h : ZI.TC ms mm F bc n es) (hll : es.length ≤ 1000) {wa : Option Addr} {wl wc : Nat} {w : List Int} (hw : CellsAt mm wa (ints w)) (hwl : w.length = wl) (he : keysOf es = w) : eyotlaw4_CacheLast.k6 (some ⟨bc, 0, none⟩) wa wl wc (Fine ms) mm := by
  unfold eyotlaw4_CacheLast.k6
  refine h.keys (by omega) ?_
  intro a' c' m1 hle1 h1 ho hf
  rw [← he] at hw hwl
  refine SameInts_true ho.cells (hw.le hle1) (by simp) hwl (by omega) ?_
  exact ⟨rfl, h1.le⟩
/-- What is wanted, from the last one on. -/
theorem Last_l3 (h : ZI.TC ms mm F bc n es) (hn1 : 1 ≤ n) (hn10 : n ≤ 10) {xa : Option Addr} {xc : Nat} {bs : List UInt8} (hx : CellsAt mm xa (u8s bs)) (hbl : bs.length ≤ 80) (he : keysOf es = (nub (bs.reverse.map fun b => ((b.toNat % 16 : Nat) : Int))).take n.toNat) :
    eyotlaw4_CacheLast.l3 xa bs.length xc n (some ⟨bc, 0, none⟩) none 0 0 (((bs.length : Nat) : Int) - 1) (Fine ms) mm := by
  have hel : es.length ≤ 80 := by
    rw [← keysOf_len, he, List.length_take]
    have : ∀ r : List Int, (nub r).length ≤ r.length := by
      intro r
      induction r with
      | nil => simp [nub]
      | cons x r ih => rw [nub, List.length_cons, List.length_cons]; have := List.length_filter_le (fun y => decide (y ≠ x)) (nub r); omega
    have := this (bs.reverse.map fun b => ((b.toNat % 16 : Nat) : Int))
    simp at this
    omega
  generalize hr : (bs.reverse.map fun b => ((b.toNat % 16 : Nat) : Int)) = r at he
  have hrl : r.length = bs.length := by rw [← hr]; simp
  refine ⟨fun N y1a y1l y1c y5 y6 wa wl wc i m' => y1a = xa ∧ y1l = bs.length ∧ y1c = xc ∧ y5 = n ∧ y6 = some ⟨bc, 0, none⟩ ∧ Le mm m' ∧ ∃ j : Nat, i = ((bs.length : Nat) : Int) - 1 - j ∧ j ≤ bs.length ∧ N = bs.length - j ∧ (nub (r.take j)).length ≤ n.toNat ∧ wl = (nub (r.take j)).length ∧ Own m' T_int 1 wa wl wc (ints (nub (r.take j))) ∧ Fresh mm wa, bs.length,
    ⟨rfl, rfl, rfl, rfl, rfl, Le.refl _, 0, by omega, by omega, by omega, by simp [nub], by simp [nub], by simpa [nub, ints] using Own.nil mm T_int 1, Fresh.none _⟩, ?_⟩
  rintro N y1a y1l y1c y5 y6 wa wl wc i m' ⟨rfl, rfl, rfl, rfl, rfl, hle, j, rfl, hj, rfl, hnl, rfl, ho, hf⟩
  have pre : ∀ j, j ≤ r.length → ∃ t, nub r = nub (r.take j) ++ t := by
    intro j hj
    have : ∀ (s p : List Int), ∃ t, nub (p ++ s) = nub p ++ t := by
      intro s
      induction s with
      | nil => intro p; exact ⟨[], by simp⟩
      | cons x s ih =>
        intro p
        obtain ⟨t, ht⟩ := ih (p ++ [x])
        rw [List.append_assoc] at ht
        rw [nub_snoc] at ht
        split at ht
        · exact ⟨t, ht⟩
        · exact ⟨x :: t, by rw [show x :: s = [x] ++ s from rfl, ht, List.append_assoc]; rfl⟩
    obtain ⟨t, ht⟩ := this (r.drop j) (r.take j)
    rw [List.take_append_drop] at ht
    exact ⟨t, ht⟩
  obtain ⟨t, ht⟩ := pre j (by omega)
  refine BrD (fun hpos => ?_) (fun hneg => ?_)
  rotate_left
  · have ej : j = bs.length := by omega
    refine Last_k6 (h.up hle) (by omega) ho.cells rfl ?_
    rw [he, ej, ← hrl, List.take_length]
    rw [ej, ← hrl, List.take_length] at hnl
    exact List.take_of_length_le (by omega)
  refine BrD (fun hlt => ?_) (fun hge => ?_)
  rotate_left
  · refine Last_k6 (h.up hle) (by omega) ho.cells rfl ?_
    rw [he, ht, List.take_append_of_le_length (by omega), List.take_of_length_le (by omega)]
  have hjl : bs.length - 1 - j < bs.length := by omega
  have hi : (((bs.length : Nat) : Int) - 1 - j).toNat = bs.length - 1 - j := by omega
  refine IxS.u8s (hx.le hle) rfl (by omega) (by omega) ?_
  intro x hxv
  rw [hi, List.getElem?_eq_getElem hjl] at hxv
  have hk : r[j]? = some ((x.toNat % 16 : Nat) : Int) := by
    rw [← hr, List.getElem?_map, List.getElem?_reverse (by omega), List.getElem?_eq_getElem hjl, Option.some.inj hxv]; rfl
  have hx256 : x.toNat < 256 := x.toNat_lt
  refine UnI.mk ?_
  rw [Int.tmod_eq_emod_of_nonneg (by omega), wi (by omega) (by omega)]
  have hkk : ((x.toNat : Int) % 16) = ((x.toNat % 16 : Nat) : Int) := by omega
  rw [hkk]
  generalize ((x.toNat % 16 : Nat) : Int) = k at hk
  have hstep : nub (r.take (j + 1)) = if k ∈ nub (r.take j) then nub (r.take j) else nub (r.take j) ++ [k] := by
    rw [List.take_add_one, hk]
    exact nub_snoc _ _
  -- is it among them?
  generalize hw : nub (r.take j) = w at *
  refine ⟨fun N z1a z1l z1c z5 z6 va vl vc z12 z13 z14 i m2 => z1a = y1a ∧ z1l = bs.length ∧ z1c = y1c ∧ z5 = y5 ∧ z6 = some ⟨bc, 0, none⟩ ∧ va = wa ∧ vl = w.length ∧ vc = wc ∧ z12 = ((bs.length : Nat) : Int) - 1 - j ∧ z13 = k ∧ m2 = m' ∧ ∃ q : Nat, i = q ∧ q ≤ w.length ∧ N = w.length - q ∧ z14 = decide (k ∈ w.take q), w.length, ⟨rfl, rfl, rfl, rfl, rfl, rfl, rfl, rfl, rfl, rfl, rfl, 0, rfl, by omega, by omega, by simp⟩, ?_⟩
  rintro N z1a z1l z1c z5 z6 va vl vc z12 z13 z14 i m2 ⟨rfl, rfl, rfl, rfl, rfl, rfl, rfl, rfl, rfl, rfl, rfl, q, rfl, hq, rfl, rfl⟩
  have hnext : IntKind.i64.wrap (((bs.length : Nat) : Int) - 1 - (j : Int) - 1) = ((bs.length : Nat) : Int) - 1 - ((j + 1 : Nat) : Int) := by rw [wi (by omega) (by omega)]; omega
  refine BrD (fun hql => ?_) (fun hqg => ?_)
  · have hqn : q < w.length := by omega
    have htk : w.take (q + 1) = w.take q ++ [w[q]] := by rw [List.take_add_one, List.getElem?_eq_getElem hqn]; rfl
    have hq1 : IntKind.i64.wrap ((q : Int) + 1) = ((q + 1 : Nat) : Int) := by rw [wi (by omega) (by omega)]; omega
    refine BrD (fun hin => ?_) (fun hin => ?_)
    · refine ⟨w.length - (q + 1), by omega, rfl, rfl, rfl, rfl, rfl, rfl, rfl, rfl, rfl, rfl, rfl, q + 1, hq1, by omega, rfl, ?_⟩
      have : z13 ∈ w.take (q + 1) := by rw [htk]; exact List.mem_append_left _ hin
      simp [this]
    · refine IxS.ints ho.cells rfl (by omega) (by omega) ?_
      intro y hy
      rw [Int.toNat_natCast, List.getElem?_eq_getElem hqn] at hy
      have hy := Option.some.inj hy
      refine ⟨w.length - (q + 1), by omega, rfl, rfl, rfl, rfl, rfl, rfl, rfl, rfl, rfl, rfl, rfl, q + 1, hq1, by omega, rfl, ?_⟩
      rw [htk, hy, Bool.eq_iff_iff]
      simp only [decide_eq_true_eq, List.mem_append, List.mem_singleton, hin, false_or, beq_iff_eq]
      exact eq_comm
  · have hqe : w.take q = w := List.take_of_length_le (by omega)
    rw [hqe]
    unfold eyotlaw4_CacheLast.k5
    by_cases hin : z13 ∈ w
    · rw [if_pos hin] at hstep
      refine Br.f (by simp [hin]) ?_
      exact ⟨bs.length - (j + 1), by omega, rfl, rfl, rfl, rfl, rfl, hle, j + 1, hnext, by omega, rfl, by rw [hstep]; exact hnl, by rw [hstep], by rw [hstep]; exact ho, hf⟩
    · rw [if_neg hin] at hstep
      refine Br.t (by simp [hin]) ?_
      refine push_one eInt ho (v := .int .i64 z13) rfl (by omega) (by decide) ?_
      intro a' c' m3 hch ho3 hb3
      refine ⟨bs.length - (j + 1), by omega, rfl, rfl, rfl, rfl, rfl, hch.to_le hle hf, j + 1, hnext, by omega, rfl, ?_, by rw [hstep]; simp, ?_, ?_⟩
      · rw [hstep, List.length_append]; simp; omega
      · rw [hstep]; simpa [ints] using ho3
      · rcases hb3 with e | e
        · intro b hb; exact hf b (e ▸ hb)
        · exact Fresh.le hle e
end
theorem CacheLast_arg {W : World} {v0 v1 : Value} (h0 : Arg P W T_uint8 v0) (h1 : Arg P W T_sl_uint8 v1) : HC P eyotlaw4_CacheLast.id #[v0, v1] (heapM W) (Fine (heapM W)) := by
  obtain ⟨most, rfl, hmost⟩ := h0.int (k := .u8) (by kernel_rfl)
  obtain ⟨a, l, c, bs2, rfl, hlc, hbl2, _, hcx⟩ := h1.u8s (e := T_uint8) (by kernel_rfl) (by kernel_rfl)
  have hmost := wf_u8 hmost
  have hbl : (bs2.take l).length = l := by rw [List.length_take]; omega
  generalize bs2.take l = bs at *
  generalize heapM W = m at *
  subst hbl
  refine eyotlaw4_CacheLast.ok _ _ _ _ _ _ ?_
  refine begun4 ?_
  intro m1 hle1
  refine Br.f rfl ?_
  refine BrD (fun _ => ⟨rfl, hle1⟩) (fun hlen => ?_)
  rw [Int.tmod_eq_emod_of_nonneg (by omega), wi (n := most % 10) (by omega) (by omega), wi (n := 1 + most % 10) (by omega) (by omega)]
  have hn1 : 1 ≤ 1 + most % 10 := by omega
  have hn10 : 1 + most % 10 ≤ 10 := by omega
  generalize 1 + most % 10 = n at hn1 hn10
  refine ZI.TC.new ?_
  intro bc F m2 h2
  have h2 : ZI.TC m m2 F bc n [] := h2.base hle1
  refine ⟨fun N x1a x1l x1c x5 x6 x7 mm => x1a = a ∧ x1l = bs.length ∧ x5 = n ∧ x6 = some ⟨bc, 0, none⟩ ∧ ∃ (j : Nat) (F : Nat → Prop) (es : List (Int × Int)), x7 = j ∧ j ≤ bs.length ∧ N = bs.length - j ∧ ZI.TC m mm F bc n es ∧ ((es.length : Nat) : Int) ≤ n ∧ keysOf es = (nub ((bs.take j).reverse.map fun b => ((b.toNat % 16 : Nat) : Int))).take n.toNat, bs.length, ⟨rfl, rfl, rfl, rfl, 0, F, [], rfl, by omega, by omega, h2, by simp; omega, by simp [nub, keysOf]⟩, ?_⟩
  clear h2
  rintro N x1a x1l x1c x5 x6 x7 mm ⟨rfl, rfl, rfl, rfl, j, F, es, rfl, hj, rfl, hc, hel, hkeys⟩
  refine BrD (fun hlt => ?_) (fun hge => ?_)
  rotate_left
  · have ej : bs.take j = bs := List.take_of_length_le (by omega)
    rw [ej] at hkeys
    unfold eyotlaw4_CacheLast.k2
    rw [wi (by omega) (by omega)]
    exact Last_l3 hc hn1 hn10 (hcx.le hc.le) (by omega) hkeys
  have hjl : j < bs.length := by omega
  have hmax : max x5 1 = x5 := by omega
  refine IxS.u8s (hcx.le hc.le) rfl (by omega) (by omega) ?_
  intro x hxv
  rw [Int.toNat_natCast] at hxv
  have hx256 : x.toNat < 256 := x.toNat_lt
  refine UnI.mk ?_
  rw [Int.tmod_eq_emod_of_nonneg (by omega), wi (n := (x.toNat : Int) % 16) (by omega) (by omega)]
  have hkk : ((x.toNat : Int) % 16) = ((x.toNat % 16 : Nat) : Int) := by omega
  rw [hkk]
  have htake : (bs.take (j + 1)).reverse.map (fun b => ((b.toNat % 16 : Nat) : Int)) = ((x.toNat % 16 : Nat) : Int) :: (bs.take j).reverse.map (fun b => ((b.toNat % 16 : Nat) : Int)) := by
    rw [List.take_add_one, hxv, List.reverse_append]; rfl
  have hnd : (keysOf es).Nodup := by rw [hkeys]; exact (nub_nodup _).sublist (List.take_sublist _ _)
  have hstep := use_step (n := x5.toNat) (by omega) ((bs.take j).reverse.map fun b => ((b.toNat % 16 : Nat) : Int)) ((x.toNat % 16 : Nat) : Int)
  simp only at hstep
  rw [← htake, ← hkeys] at hstep
  generalize ((x.toNat % 16 : Nat) : Int) = k at *
  have hw1 : IntKind.i64.wrap ((j : Int) + 1) = ((j + 1 : Nat) : Int) := by rw [wi (by omega) (by omega)]; omega
  cases hk : ixF k es 0 with
  | none =>
    refine hc.getn (by omega) hk ?_
    intro m3 hle3 h3
    refine Br.t rfl ?_
    refine h3.put (by omega) k (j : Int) ?_
    intro F4 m4 _ _ h4
    have hpl := putL_len x5 k (j : Int) es
    refine ⟨bs.length - (j + 1), by omega, rfl, rfl, rfl, rfl, j + 1, F4, _, hw1, by omega, rfl, h4, by omega, ?_⟩
    rw [keys_put hnd (by omega), hmax]; exact hstep
  | some i =>
    obtain ⟨_, _, e, he, hek⟩ := ixF_some hk
    rw [Nat.sub_zero] at he
    refine hc.gets (by omega) hk he ?_
    intro F4 m4 _ _ h4
    refine Br.f rfl ?_
    have hgl := getL_len k es
    refine ⟨bs.length - (j + 1), by omega, rfl, rfl, rfl, rfl, j + 1, F4, _, hw1, by omega, rfl, h4, by omega, ?_⟩
    rw [keys_get hnd hk, ← hstep, List.take_of_length_le]
    rw [← keys_get hnd hk, keysOf_len, hgl]; omega

/-! ### CacheDrops -/
/-- 'append(append([]int{}, xs[:i]...), xs[i+1:]...)'. -/
theorem cutout2 {m : Mem} {a : Option Addr} {l c : Nat} {xs : List Int} (ho : Own m T_int 1 a l c (ints xs)) (hxl : xs.length = l) {i : Nat} (hi : i < l) (hll : l ≤ 10000) {K : Option Addr → Nat → Nat → Mem → Prop} {Pn : List PanicEntry → Mem → Prop}
    (k : ∀ a' c' m', Le m m' → Own m' T_int 1 a' (l - 1) c' (ints (xs.eraseIdx i)) → Fresh m a' → K a' (l - 1) c' m') :
    NewC m #[] T_int fun b12 m3 => BiN P .append #[T_sl_int, T_sl_int] T_sl_int #[false, false] #[.slice (some ⟨b12, 0, none⟩) 0 0, .slice (shf a (0 : Int).toNat 1 c) ((i : Int).toNat - (0 : Int).toNat) (c - (0 : Int).toNat)] m3 (fun w m5 =>
      UnS w fun x19a x19l x19c => BiN P .append #[T_sl_int, T_sl_int] T_sl_int #[false, false] #[.slice x19a x19l x19c, .slice (shf a ((i : Int) + 1).toNat 1 c) (((l : Nat) : Int).toNat - ((i : Int) + 1).toNat) (c - ((i : Int) + 1).toNat)] m5 (fun w m7 =>
        UnS w fun x27a x27l x27c => K x27a x27l x27c m7) Pn) Pn := by
  subst hxl
  intro b hb
  have h := cutout (Le.refl m) ho hi hll (K := K) (Pn := Pn) k b hb
  obtain ⟨r, _, _, h⟩ := h
  unfold BiN at h ⊢
  refine pt_mono P (fun nx m h => ?_) (fun _ _ h => h) _ _ h
  cases nx <;> try exact h
  case value v =>
    cases v <;> try exact h
    case slice a l c => obtain ⟨r, _, _, h⟩ := h; exact h
  case enter f args =>
    refine h.mono fun e m h => ?_
    cases e <;> try exact h
    case returned v =>
      cases v <;> try exact h
      case slice a l c => obtain ⟨r, _, _, h⟩ := h; exact h
section
variable {ms mm : Mem} {F : Nat → Prop} {bc : Nat} {es : List (Int × Int)}
theorem Drops_k2 (h : ZI.TC ms mm F bc 30 es) (hll : es.length ≤ 20) (hnd : (keysOf es).Nodup) (hpos : 0 < es.length) {xa : Option Addr} {xc : Nat} {bs : List UInt8} (hx : CellsAt ms xa (u8s bs)) (hbl : 0 < bs.length) {n : Int} (hn0 : 0 ≤ n) (hn1 : n < 256) : eyotlaw4_CacheDrops.k2 xa bs.length xc n (some ⟨bc, 0, none⟩) (Fine ms) mm := by
  unfold eyotlaw4_CacheDrops.k2
  refine h.keys (by omega) ?_
  intro a' c' m1 hle1 h1 ho hf
  refine BrEf (by omega) ?_
  refine NzI.mk (by omega) ?_
  rw [wi (n := n) (by omega) (by omega), Int.tmod_eq_emod_of_nonneg hn0]
  have hi0 : 0 ≤ n % ((es.length : Nat) : Int) := Int.emod_nonneg _ (by omega)
  have hi1 : n % ((es.length : Nat) : Int) < (es.length : Nat) := Int.emod_lt_of_pos _ (by omega)
  obtain ⟨i, hi⟩ : ∃ i : Nat, n % ((es.length : Nat) : Int) = i := ⟨(n % ((es.length : Nat) : Int)).toNat, by omega⟩
  rw [hi] at hi0 hi1 ⊢
  have hil : i < es.length := by omega
  have hkl : (keysOf es).length = es.length := keysOf_len es
  have hml : (es.map (·.1)).length = es.length := by simp
  refine IxS.ints ho.cells hml (by omega) (by omega) ?_
  intro k hk
  rw [Int.toNat_natCast] at hk
  have hk : (keysOf es)[i]? = some k := hk
  refine h1.drop (by omega) k ?_
  intro F2 m2 hch2 hF2 h2
  obtain ⟨p, hp⟩ := ix_of_mem (List.mem_of_getElem? hk)
  rw [hp]
  have haF : ∀ b, blk a' = some b → ¬ F b := sep_fresh hf h.ca.lv
  have ho2 := ho.chg hch2 haF
  refine ⟨m2, Le.refl _, ?_⟩
  have hcap := ho.cap
  refine ⟨by omega, by omega, by omega, ?_⟩
  rw [wi (n := (i : Int) + 1) (by omega) (by omega)]
  refine ⟨by omega, by omega, by omega, ?_⟩
  refine cutout2 ho2 hml hil (by omega) ?_
  intro wa wc m6 hle6 how hfw
  have hm6 : CellsAt m6 a' (ints (es.map (·.1))) := ho2.cells.le hle6
  refine IxS.ints hm6 hml (by omega) (by omega) ?_
  intro k2 hk2
  rw [Int.toNat_natCast] at hk2
  have : k2 = k := by
    have hk2 : (keysOf es)[i]? = some k2 := hk2
    rw [hk] at hk2; exact (Option.some.inj hk2).symm
  subst this
  have h6 := h2.up hle6
  have hkd : keysOf (dropL k2 es) = (keysOf es).eraseIdx i := by rw [keys_drop hnd, erase_filter hnd hk]
  have hdl := dropL_len k2 es
  have hnot : ixF k2 (dropL k2 es) 0 = none := ix_of_not (by rw [keys_drop hnd]; simp)
  refine h6.getn (by omega) hnot ?_
  intro m7 hle7 h7
  refine Br.f rfl ?_
  refine Br.f rfl ?_
  refine h7.keys (by omega) ?_
  intro ba bc2 m8 hle8 h8 hob hfb
  have hcw : CellsAt m8 wa (ints ((dropL k2 es).map (·.1))) := by
    have e : (dropL k2 es).map (·.1) = (es.map (·.1)).eraseIdx i := hkd
    rw [e]
    exact how.cells.le (hle7.trans hle8)
  have hdlen : (dropL k2 es).length = es.length - 1 := by
    rw [← keysOf_len, hkd, List.length_eraseIdx_of_lt (by omega), hkl]
  refine SameInts_true hob.cells hcw (by simp) (by simp [hdlen]) (by omega) ?_
  refine Br.f rfl ?_
  refine h8.clear ?_
  intro F10 m10 hch10 hF10 h10
  refine IxS.u8s (hx.le h10.le) rfl (by omega) (by omega) ?_
  intro y hy
  refine h10.getn (by simp) rfl ?_
  intro m11 hle11 h11
  refine Br.t rfl ?_
  refine h11.keys (by simp) ?_
  intro da dc m12 hle12 h12 _ _
  exact ⟨rfl, h12.le⟩
end
theorem CacheDrops_arg {W : World} {v0 v1 : Value} (h0 : Arg P W T_sl_uint8 v0) (h1 : Arg P W T_uint8 v1) : HC P eyotlaw4_CacheDrops.id #[v0, v1] (heapM W) (Fine (heapM W)) := by
  obtain ⟨a, l, c, bs2, rfl, hlc, hbl2, _, hcx⟩ := h0.u8s (e := T_uint8) (by kernel_rfl) (by kernel_rfl)
  obtain ⟨n, rfl, hn⟩ := h1.int (k := .u8) (by kernel_rfl)
  have hn := wf_u8 hn
  have hbl : (bs2.take l).length = l := by rw [List.length_take]; omega
  generalize bs2.take l = bs at *
  generalize heapM W = m at *
  subst hbl
  refine eyotlaw4_CacheDrops.ok _ _ _ _ _ _ ?_
  refine begun4 ?_
  intro m1 hle1
  refine Br.f rfl ?_
  refine BrE (fun _ => ⟨rfl, hle1⟩) (fun hne => ?_)
  refine BrD (fun _ => ⟨rfl, hle1⟩) (fun hlen => ?_)
  refine ZI.TC.new ?_
  intro bc F m2 h2
  have h2 : ZI.TC m m2 F bc 30 [] := h2.base hle1
  refine ⟨fun N x0a x0l x0c x1 x5 x6 mm => x0a = a ∧ x0l = bs.length ∧ x1 = n ∧ x5 = some ⟨bc, 0, none⟩ ∧ ∃ (j : Nat) (F : Nat → Prop) (es : List (Int × Int)), x6 = j ∧ j ≤ bs.length ∧ N = bs.length - j ∧ ZI.TC m mm F bc 30 es ∧ es.length ≤ j ∧ (keysOf es).Nodup ∧ (0 < j → 0 < es.length), bs.length, ⟨rfl, rfl, rfl, rfl, 0, F, [], rfl, by omega, by omega, h2, by simp, by simp [keysOf], by omega⟩, ?_⟩
  clear h2
  rintro N x0a x0l x0c x1 x5 x6 mm ⟨rfl, rfl, rfl, rfl, j, F, es, rfl, hj, rfl, hc, hel, hnd, hpos⟩
  refine BrD (fun hlt => ?_) (fun hge => ?_)
  rotate_left
  · exact Drops_k2 hc (by omega) hnd (hpos (by omega)) hcx (by omega) (by omega) (by omega)
  refine IxS.u8s (hcx.le hc.le) rfl (by omega) (by omega) ?_
  intro x hxv
  have hx256 : x.toNat < 256 := x.toNat_lt
  refine UnI.mk ?_
  rw [wi (by omega) (by omega)]
  refine hc.put (by omega) _ (j : Int) ?_
  intro F4 m4 _ _ h4
  have hpl := putL_len 30 (x.toNat : Int) (j : Int) es
  refine ⟨bs.length - (j + 1), by omega, rfl, rfl, rfl, rfl, j + 1, F4, _, by rw [wi (by omega) (by omega)]; omega, by omega, rfl, h4, by omega, put_nodup hnd (by omega), fun _ => ?_⟩
  unfold putL
  split
  · simp
  · rename_i hc
    simp only [List.length_dropLast, List.length_cons] at hc ⊢
    omega
end Go.E
