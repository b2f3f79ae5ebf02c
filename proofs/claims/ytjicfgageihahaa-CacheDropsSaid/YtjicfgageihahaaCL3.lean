import Derived.Test.YtjicfgageihahaaCL2
import Derived.Test.YtjicfgageihahaaCCA
set_option linter.unusedVariables false
set_option linter.unusedSimpArgs false
namespace Go.E
open Go.H
attribute [local irreducible] BiN MkS ConvN LookN MapUpN CallV HC

/-! ### CacheFull -/
theorem dropL_none {α : Type} {k : Int} {es : List (Int × α)} (h : ixF k es 0 = none) : dropL k es = es := by unfold dropL; rw [h]
section
variable {ms mm : Mem} {F : Nat → Prop} {bc : Nat} {n : Int} {es : List (Int × ByteArray)}
theorem Full_k3 (h : ZS.TC ms mm F bc n es) (hn1 : 1 ≤ n) (hn8 : n ≤ 8) (hll : ((es.length : Nat) : Int) ≤ n) (hnd : (keysOf es).Nodup) (hb : ∀ k ∈ keysOf es, k < 256) {xa : Option Addr} {xl xc : Nat} {d : Int} (hd0 : 0 ≤ d) (hd1 : d < 256) (hz : es.length = 0 → xl = 0) : eyotlaw4_CacheFull.k3 xa xl xc d (some ⟨bc, 0, none⟩) (Fine ms) mm := by
  unfold eyotlaw4_CacheFull.k3
  refine h.keys (by omega) ?_
  intro a' c' m1 hle1 h1 ho hf
  refine BrE (fun h0 => ?_) (fun h0 => ?_)
  · refine ⟨?_, h1.le⟩
    have : xl = 0 := hz (by omega)
    subst this; rfl
  refine NzI.mk h0 ?_
  rw [wi (n := d) (by omega) (by omega), Int.tmod_eq_emod_of_nonneg hd0]
  have hi0 : 0 ≤ d % ((es.length : Nat) : Int) := Int.emod_nonneg _ h0
  have hi1 : d % ((es.length : Nat) : Int) < (es.length : Nat) := Int.emod_lt_of_pos _ (by omega)
  have hml : (es.map (·.1)).length = es.length := by simp
  refine IxS.ints ho.cells hml hi0 hi1 ?_
  intro k hk
  have hkm : k ∈ keysOf es := List.mem_of_getElem? hk
  obtain ⟨p, hp⟩ := ix_of_mem hkm
  refine h1.drop (by omega) k ?_
  intro F2 m2 _ _ h2
  rw [hp]
  refine Br.f rfl ?_
  have hdl := dropL_len k es
  have hdlen : (dropL k es).length = es.length - 1 := by
    have : dropL k es = es.eraseIdx p := by unfold dropL; rw [hp]
    obtain ⟨_, hp2, _⟩ := ixF_some hp
    rw [this, List.length_eraseIdx_of_lt (by omega)]
  have hnot : ixF k (dropL k es) 0 = none := ix_of_not (by rw [keys_drop hnd]; simp)
  refine h2.drop (by omega) k ?_
  intro F3 m3 _ _ h3
  rw [hnot]
  have hdd : dropL k (dropL k es) = dropL k es := by
    exact dropL_none hnot
  rw [hdd] at h3
  refine Br.f rfl ?_
  have h1000 : (1000 : Int) ∉ keysOf (dropL k es) := by
    rw [keys_drop hnd]
    intro hm
    have := hb 1000 ((List.mem_filter.1 hm).1)
    omega
  have hd1000 : dropL 1000 (dropL k es) = dropL k es := dropL_none (ix_of_not h1000)
  have hfit : ((((1000, ByteArray.mk #[121]) :: dropL 1000 (dropL k es)).length : Nat) : Int) ≤ max n 1 := by
    rw [hd1000, List.length_cons, hdlen]; omega
  refine h3.put (by omega) 1000 (ByteArray.mk #[121]) ?_
  intro F4 m4 _ _ h4
  have hput : putL n 1000 (ByteArray.mk #[121]) (dropL k es) = (1000, ByteArray.mk #[121]) :: dropL k es := by unfold putL; rw [if_pos hfit, hd1000]
  have hgone : goneL n 1000 (ByteArray.mk #[121]) (dropL k es) = (0, false) := by unfold goneL; rw [if_pos hfit]
  rw [hput] at h4
  rw [hgone]
  refine h4.gets (by simp; omega) (k := 1000) (i := 0) (x := (1000, ByteArray.mk #[121])) (by simp [ixF]) rfl ?_
  intro F5 m5 _ _ h5
  refine Br.t rfl (Br.t rfl (Br.t (by simp) ?_))
  have hgl := getL_len 1000 ((1000, ByteArray.mk #[121]) :: dropL k es)
  rw [List.length_cons, hdlen] at hgl
  refine h5.keys (by omega) ?_
  intro ba bc2 m6 _ h6 _ _
  refine ⟨?_, h6.le⟩
  congr 2
  rw [hgl]
  simp; omega
theorem Full_k2 (h : ZS.TC ms mm F bc n es) (hn1 : 1 ≤ n) (hn8 : n ≤ 8) (hll : ((es.length : Nat) : Int) ≤ n) {k : Int} (hk : (keysOf es)[0]? = some k) {xa : Option Addr} {xc : Nat} {bs : List UInt8} (hx : CellsAt ms xa (u8s bs)) {j : Nat} (hj : j < bs.length) (hjl : bs.length ≤ 40) (hbk : (bs[j].toNat : Int) = k) {d : Int}
    {K1 : Option Addr → Nat → Nat → Int → Int → Option Addr → Int → Mem → Prop} (r : ∀ m', Le mm m' → K1 xa bs.length xc d n (some ⟨bc, 0, none⟩) ((j + 1 : Nat) : Int) m') : eyotlaw4_CacheFull.k2 K1 xa bs.length xc d n (some ⟨bc, 0, none⟩) j (Fine ms) mm := by
  unfold eyotlaw4_CacheFull.k2
  have hpos : 0 < es.length := by
    rw [← keysOf_len]
    rcases Nat.eq_zero_or_pos (keysOf es).length with e | e
    · rw [List.getElem?_eq_none (by omega)] at hk; cases hk
    · exact e
  refine h.keys (by omega) ?_
  intro a' c' m1 hle1 h1 ho hf
  refine ⟨m1, Le.refl _, ?_⟩
  refine BrDf (by omega) (BrEf (by omega) ?_)
  have hml : (es.map (·.1)).length = es.length := by simp
  refine IxS.ints ho.cells hml (by omega) (by omega) ?_
  intro y hy
  have hy : y = k := by
    have hy : (keysOf es)[0]? = some y := hy
    rw [hk] at hy; exact (Option.some.inj hy).symm
  refine IxS.u8s (hx.le h1.le) rfl (by omega) (by omega) ?_
  intro x hxv
  rw [Int.toNat_natCast, List.getElem?_eq_getElem hj] at hxv
  have hxv := Option.some.inj hxv
  have hx256 : x.toNat < 256 := x.toNat_lt
  refine UnI.mk ?_
  rw [wi (n := (x.toNat : Int)) (by omega) (by omega), wi (n := (j : Int) + 1) (by omega) (by omega)]
  refine BrNf (by rw [hy, ← hbk, hxv]) ?_
  exact r m1 hle1
end
theorem CacheFull_arg {W : World} {v0 v1 v2 : Value} (h0 : Arg P W T_uint8 v0) (h1 : Arg P W T_sl_uint8 v1) (h2 : Arg P W T_uint8 v2) : HC P eyotlaw4_CacheFull.id #[v0, v1, v2] (heapM W) (Fine (heapM W)) := by
  obtain ⟨most, rfl, hmost⟩ := h0.int (k := .u8) (by kernel_rfl)
  obtain ⟨a, l, c, bs2, rfl, hlc, hbl2, _, hcx⟩ := h1.u8s (e := T_uint8) (by kernel_rfl) (by kernel_rfl)
  obtain ⟨d, rfl, hd⟩ := h2.int (k := .u8) (by kernel_rfl)
  have hmost := wf_u8 hmost
  have hd := wf_u8 hd
  have hbl : (bs2.take l).length = l := by rw [List.length_take]; omega
  generalize bs2.take l = bs at *
  generalize heapM W = m at *
  subst hbl
  refine eyotlaw4_CacheFull.ok _ _ _ _ _ _ _ ?_
  refine begun4 ?_
  intro m1 hle1
  refine Br.f rfl ?_
  refine BrD (fun _ => ⟨rfl, hle1⟩) (fun hlen => ?_)
  rw [Int.tmod_eq_emod_of_nonneg (by omega), wi (n := most % 8) (by omega) (by omega), wi (n := 1 + most % 8) (by omega) (by omega)]
  have hn1 : 1 ≤ 1 + most % 8 := by omega
  have hn8 : 1 + most % 8 ≤ 8 := by omega
  generalize 1 + most % 8 = n at hn1 hn8
  refine ZS.TC.new ?_
  intro bc F m2 h2
  have h2 : ZS.TC m m2 F bc n [] := h2.base hle1
  refine ⟨fun N x1a x1l x1c x2 x7 x8 x9 mm => x1a = a ∧ x1l = bs.length ∧ x2 = d ∧ x7 = n ∧ x8 = some ⟨bc, 0, none⟩ ∧ ∃ (j : Nat) (F : Nat → Prop) (es : List (Int × ByteArray)), x9 = j ∧ j ≤ bs.length ∧ N = bs.length - j ∧ ZS.TC m mm F bc n es ∧ ((es.length : Nat) : Int) ≤ n ∧ (keysOf es).Nodup ∧ (∀ k ∈ keysOf es, k < 256) ∧ (es.length = 0 → j = 0), bs.length, ⟨rfl, rfl, rfl, rfl, rfl, 0, F, [], rfl, by omega, by omega, h2, by simp; omega, by simp [keysOf], by simp [keysOf], fun _ => rfl⟩, ?_⟩
  clear h2
  rintro N x1a x1l x1c x2 x7 x8 x9 mm ⟨rfl, rfl, rfl, rfl, rfl, j, F, es, rfl, hj, rfl, hc, hel, hnd, hkb, hz⟩
  refine BrD (fun hlt => ?_) (fun hge => ?_)
  rotate_left
  · exact Full_k3 hc hn1 hn8 hel hnd hkb (by omega) (by omega) (fun e => by have := hz e; omega)
  have hjl : j < bs.length := by omega
  have hmax : max x7 1 = x7 := by omega
  refine hc.keys (by omega) ?_
  intro ka kc m3 hle3 h3 hok hfk
  have hkF : ∀ b, blk ka = some b → ¬ F b := sep_fresh hfk hc.ca.lv
  have hml : (es.map (·.1)).length = es.length := by simp
  refine IxS.u8s (hcx.le h3.le) rfl (by omega) (by omega) ?_
  intro x hxv
  rw [Int.toNat_natCast, List.getElem?_eq_getElem hjl] at hxv
  have hxv := Option.some.inj hxv
  have hx256 : x.toNat < 256 := x.toNat_lt
  refine UnI.mk ?_
  rw [wi (n := (x.toNat : Int)) (by omega) (by omega)]
  have rd2 : ∀ {mm : Mem}, Le m mm → ∀ {K : Value → Prop}, K (.int .u8 x.toNat) → IxS x1a bs.length (j : Int) 1 (fun b o => LdV mm b o K) := by
    intro mm hle K hK
    refine IxS.u8s (hcx.le hle) rfl (by omega) (by omega) ?_
    intro y hy
    rw [Int.toNat_natCast, List.getElem?_eq_getElem hjl] at hy
    rw [← Option.some.inj hy, hxv]; exact hK
  have hbk : (bs[j].toNat : Int) = (x.toNat : Int) := by rw [hxv]
  have hk256 : (x.toNat : Int) < 256 := by omega
  generalize hkk : (x.toNat : Int) = k at *
  -- the next round
  have next : ∀ (F' : Nat → Prop) (es' : List (Int × ByteArray)) (m' : Mem), ZS.TC m m' F' bc x7 es' → ((es'.length : Nat) : Int) ≤ x7 → (keysOf es').Nodup → (∀ k ∈ keysOf es', k < 256) → (keysOf es')[0]? = some k →
      eyotlaw4_CacheFull.k2 (fun z1a z1l z1c z2 z7 z8 z9 mm => ∃ N1, N1 < bs.length - j ∧ (z1a = x1a ∧ z1l = bs.length ∧ z2 = x2 ∧ z7 = x7 ∧ z8 = some ⟨bc, 0, none⟩ ∧ ∃ (j : Nat) (F : Nat → Prop) (es : List (Int × ByteArray)), z9 = j ∧ j ≤ bs.length ∧ N1 = bs.length - j ∧ ZS.TC m mm F bc x7 es ∧ ((es.length : Nat) : Int) ≤ x7 ∧ (keysOf es).Nodup ∧ (∀ k ∈ keysOf es, k < 256) ∧ (es.length = 0 → j = 0))) x1a bs.length x1c x2 x7 (some ⟨bc, 0, none⟩) j (Fine m) m' := by
    intro F' es' m' ht hl hn hb h0
    refine Full_k2 ht hn1 hn8 hl h0 hcx hjl (by omega) hbk ?_
    intro m'' hle''
    refine ⟨bs.length - (j + 1), by omega, rfl, rfl, rfl, rfl, rfl, j + 1, F', es', rfl, by omega, rfl, ht.up hle'', hl, hn, hb, fun e => ?_⟩
    have : (keysOf es').length = 0 := by rw [keysOf_len]; exact e
    rw [List.getElem?_eq_none (by omega)] at h0; cases h0
  have hpk : ∀ {es1 : List (Int × ByteArray)} {v : ByteArray}, (keysOf es1).Nodup → ((es1.length : Nat) : Int) ≤ x7 → (∀ q ∈ keysOf es1, q < 256) → (keysOf (putL x7 k v es1)).Nodup ∧ (∀ q ∈ keysOf (putL x7 k v es1), q < 256) ∧ (keysOf (putL x7 k v es1))[0]? = some k := by
    intro es1 v hn hl hb
    refine ⟨put_nodup hn (by omega), ?_, ?_⟩
    · intro q hq
      rw [keys_put hn (by omega)] at hq
      have hq := List.mem_of_mem_take hq
      rcases List.mem_cons.1 hq with rfl | hq
      · exact hk256
      · exact hb q ((List.mem_filter.1 hq).1)
    · rw [keys_put hn (by omega), hmax, List.getElem?_take, if_pos (by omega)]; rfl
  cases hk : ixF k es 0 with
  | none =>
    refine h3.getn (by omega) hk ?_
    intro m4 hle4 h4
    refine rd2 h4.le (UnI.mk ?_)
    rw [wi (n := k) (by omega) (by omega)]
    have hok4 := hok.le hle4
    have hdl : dropL k es = es := by unfold dropL; rw [hk]
    refine h4.put (by omega) k (ByteArray.mk #[120]) ?_
    intro F5 m5 hch5 _ h5
    have hok5 := hok4.chg hch5 hkF
    obtain ⟨p1, p2, p3⟩ := hpk (v := ByteArray.mk #[120]) hnd hel hkb
    have hpl := putL_len x7 k (ByteArray.mk #[120]) es
    have hnx := next F5 _ m5 h5 (by omega) p1 p2 p3
    refine Br.t rfl ?_
    by_cases hfit : ((((k, ByteArray.mk #[120]) :: dropL k es).length : Nat) : Int) ≤ max x7 1
    · have hg : goneL x7 k (ByteArray.mk #[120]) es = (0, false) := by unfold goneL; rw [if_pos hfit]
      rw [hg]
      rw [hdl, List.length_cons, hmax] at hfit
      refine Br.f ?_ ?_
      · have : ((((es.length : Nat) : Int)) == x7) = false := by simp; omega
        rw [this]; rfl
      · exact Br.f rfl hnx
    · have hg : goneL x7 k (ByteArray.mk #[120]) es = (((((k, ByteArray.mk #[120]) :: dropL k es).getLast (by simp)).1, true) : Int × Bool) := by unfold goneL; rw [if_neg hfit]
      rw [hg]
      rw [hdl, List.length_cons, hmax] at hfit
      have hpos : 0 < es.length := by omega
      refine Br.f ?_ ?_
      · have : ((((es.length : Nat) : Int)) == x7) = true := by simp; omega
        rw [this]; rfl
      · refine Br.t rfl ?_
        refine BrEf (by omega) ?_
        rw [wi (n := ((es.length : Nat) : Int) - 1) (by omega) (by omega)]
        refine IxS.ints hok5.cells hml (by omega) (by omega) ?_
        intro y hy
        refine BrNf ?_ hnx
        rw [show (((es.length : Nat) : Int) - 1).toNat = es.length - 1 by omega, List.getElem?_map, List.getElem?_eq_getElem (by omega)] at hy
        have hy := Option.some.inj hy
        have hl : ∀ (L : List (Int × ByteArray)) (h : L = es) (hne : (k, ByteArray.mk #[120]) :: L ≠ []), ((k, ByteArray.mk #[120]) :: L).getLast hne = es[es.length - 1]'(by omega) := by
          rintro _ rfl hne
          rw [List.getLast_cons (by intro e; rw [e] at hpos; simp at hpos), List.getLast_eq_getElem]
        rw [← hy]
        exact congrArg (·.1) (hl _ hdl _)
  | some i =>
    obtain ⟨_, hi2, e, he, hek⟩ := ixF_some hk
    rw [Nat.sub_zero] at he
    refine h3.gets (by omega) hk he ?_
    intro F4 m4 _ _ h4
    refine rd2 h4.le (UnI.mk ?_)
    rw [wi (n := k) (by omega) (by omega)]
    have hgl := getL_len k es
    refine h4.put (by omega) k (ByteArray.mk #[120]) ?_
    intro F5 m5 hch5 _ h5
    have hkg : ∀ q ∈ keysOf (getL k es), q < 256 := by
      intro q hq
      rw [keys_get hnd hk] at hq
      rcases List.mem_cons.1 hq with rfl | hq
      · exact hk256
      · exact hkb q ((List.mem_filter.1 hq).1)
    obtain ⟨p1, p2, p3⟩ := hpk (v := ByteArray.mk #[120]) (get_nodup (k := k) hnd) (by omega) hkg
    have hpl := putL_len x7 k (ByteArray.mk #[120]) (getL k es)
    have hnx := next F5 _ m5 h5 (by omega) p1 p2 p3
    have hdl : (dropL k (getL k es)).length + 1 ≤ es.length := by
      have : ixF k (getL k es) 0 = some 0 := by
        unfold getL; rw [hk]; simp only [he]; simp [ixF, hek]
      have hd : dropL k (getL k es) = (getL k es).eraseIdx 0 := by
        have : ∀ L : List (Int × ByteArray), ixF k L 0 = some 0 → dropL k L = L.eraseIdx 0 := fun L hL => by unfold dropL; rw [hL]
        exact this _ (by assumption)
      rw [hd, List.length_eraseIdx_of_lt (by omega)]
      omega
    have hg : goneL x7 k (ByteArray.mk #[120]) (getL k es) = (0, false) := by unfold goneL; rw [if_pos (by rw [List.length_cons]; omega)]
    rw [hg]
    refine Br.f rfl ?_
    exact Br.f rfl (Br.f rfl hnx)

/-! ### CacheValues -/
theorem NewC_eq {m : Mem} {c c' : Array Value} {e : TypeId} {K : Nat → Mem → Prop} (h : c = c') (k : NewC m c' e K) : NewC m c e K := h ▸ k
theorem get_mem {α : Type} {k : Int} {es : List (Int × α)} {e : Int × α} (h : e ∈ getL k es) : e ∈ es := by
  unfold getL at h
  split at h
  · rename_i i hi
    obtain ⟨_, _, x, h1, _⟩ := ixF_some hi
    rw [Nat.sub_zero] at h1
    simp only [h1] at h
    rcases List.mem_cons.1 h with rfl | h
    · exact List.mem_of_getElem? h1
    · exact List.mem_of_mem_eraseIdx h
  · exact h
theorem get_keys_mem {α : Type} {k q : Int} {es : List (Int × α)} (hn : (keysOf es).Nodup) : q ∈ keysOf (getL k es) ↔ q ∈ keysOf es := by
  cases hk : ixF k es 0 with
  | none => unfold getL; rw [hk]
  | some i =>
    rw [keys_get hn hk, List.mem_cons, List.mem_filter, decide_eq_true_eq]
    constructor
    · rintro (h | h)
      · rw [h]; exact ix_mem hk
      · exact h.1
    · intro h
      by_cases e : q = k
      · exact .inl e
      · exact .inr ⟨h, e⟩
theorem drop_mem {α : Type} {k : Int} {es : List (Int × α)} {e : Int × α} (hn : (keysOf es).Nodup) (h : e ∈ dropL k es) : e ∈ es ∧ e.1 ≠ k := by
  have h2 : e.1 ∈ keysOf (dropL k es) := List.mem_map_of_mem h
  rw [keys_drop hn, List.mem_filter, decide_eq_true_eq] at h2
  refine ⟨?_, h2.2⟩
  unfold dropL at h
  split at h
  · exact List.mem_of_mem_eraseIdx h
  · exact h
theorem CacheValues_arg {W : World} {v0 : Value} (h0 : Arg P W T_sl_uint8 v0) : HC P eyotlaw4_CacheValues.id #[v0] (heapM W) (Fine (heapM W)) := by
  obtain ⟨a, l, c, bs2, rfl, hlc, hbl2, _, hcx⟩ := h0.u8s (e := T_uint8) (by kernel_rfl) (by kernel_rfl)
  have hbl : (bs2.take l).length = l := by rw [List.length_take]; omega
  generalize bs2.take l = bs at *
  generalize heapM W = m at *
  subst hbl
  refine eyotlaw4_CacheValues.ok _ _ _ _ _ ?_
  refine begun4 ?_
  intro m1 hle1
  refine Br.f rfl ?_
  refine BrD (fun _ => ⟨rfl, hle1⟩) (fun hlen => ?_)
  refine ZA.TC.new ?_
  intro bc F m2 h2
  have h2 : ZA.TC m m2 F bc 64 [] := h2.base hle1
  refine NewC_eq (c' := Array.replicate 256 (.int .i64 0)) (by kernel_rfl) ?_
  intro b4 hb4
  have h3 := h2.up (Le.set hb4 (.cells (Array.replicate 256 (.int .i64 0)) T_arr256_int (0, 0)))
  have hm4 : m b4 = none := h2.le.new hb4
  have h4F : ¬ F b4 := fun e => h2.ca.lv b4 e hb4
  have rd : ∀ {mm : Mem}, Le m mm → ∀ {j : Nat} (hj : j < bs.length) {K : Value → Prop}, K (.int .u8 bs[j].toNat) → IxS a bs.length (j : Int) 1 (fun b o => LdV mm b o K) := by
    intro mm hle j hj K hK
    refine IxS.u8s (hcx.le hle) rfl (by omega) (by omega) ?_
    intro y hy
    rw [Int.toNat_natCast, List.getElem?_eq_getElem hj] at hy
    rw [← Option.some.inj hy]; exact hK
  refine ⟨fun N x0a x0l x0c x3 x4b x4o x5 mm => x0a = a ∧ x0l = bs.length ∧ x0c = c ∧ x3 = some ⟨bc, 0, none⟩ ∧ x4b = b4 ∧ x4o = 0 ∧ ∃ (j : Nat) (F : Nat → Prop) (es : List (Int × (Int × Int))) (cur : Array Value) (last : Nat → Int), x5 = j ∧ j ≤ bs.length ∧ N = bs.length - j ∧ ZA.TC m mm F bc 64 es ∧ ¬ F b4 ∧ es.length ≤ j ∧ (keysOf es).Nodup ∧
      mm b4 = some (.cells cur T_arr256_int (0, 0)) ∧ cur.size = 256 ∧ (∀ i, i < 256 → cur[i]? = some (.int .i64 (last i))) ∧ (∀ e ∈ es, 0 ≤ e.1 ∧ e.1 < 256 ∧ e.2 = (last e.1.toNat, e.1)) ∧ ∀ i (h : i < j) (h' : i < bs.length), (bs[i].toNat : Int) ∈ keysOf es,
    bs.length, ⟨rfl, rfl, rfl, rfl, rfl, rfl, 0, F, [], _, fun _ => 0, rfl, by omega, by omega, h3, h4F, by simp, by simp [keysOf], set_same _ _ _, by simp, by intro i hi; simp [hi], by simp, fun i h => by omega⟩, ?_⟩
  clear h3 h2
  rintro N x0a x0l x0c x3 x4b x4o x5 mm ⟨rfl, rfl, rfl, rfl, rfl, rfl, j, F, es, cur, last, rfl, hj, rfl, hc, h4F, hel, hnd, hb4, hsz, hcur, hes, hall⟩
  refine BrD (fun hlt => ?_) (fun hge => ?_)
  · have hjl : j < bs.length := by omega
    refine ⟨mm, Le.refl _, ?_⟩
    refine rd hc.le hjl (UnI.mk ?_)
    refine rd hc.le hjl (UnI.mk ?_)
    have hx256 : bs[j].toNat < 256 := bs[j].toNat_lt
    rw [wi (n := (bs[j].toNat : Int)) (by omega) (by omega)]
    refine hc.put (by omega) (bs[j].toNat : Int) ((j : Int), (bs[j].toNat : Int)) ?_
    intro F5 m5 hch5 hF5 h5
    have hdl := dropL_len (bs[j].toNat : Int) es
    have hfit : (((((bs[j].toNat : Int), ((j : Int), (bs[j].toNat : Int))) :: dropL (bs[j].toNat : Int) es).length : Nat) : Int) ≤ max 64 1 := by rw [List.length_cons]; omega
    have hg : goneL 64 (bs[j].toNat : Int) ((j : Int), (bs[j].toNat : Int)) es = (0, false) := by unfold goneL; rw [if_pos hfit]
    have hp : putL 64 (bs[j].toNat : Int) ((j : Int), (bs[j].toNat : Int)) es = ((bs[j].toNat : Int), ((j : Int), (bs[j].toNat : Int))) :: dropL (bs[j].toNat : Int) es := by unfold putL; rw [if_pos hfit]
    have hnd5 := put_nodup (most := 64) (k := (bs[j].toNat : Int)) (v := ((j : Int), (bs[j].toNat : Int))) hnd (by omega)
    rw [hg]
    rw [hp] at h5 hnd5
    refine BrNf rfl (Br.f rfl ?_)
    refine rd h5.le hjl (UnI.mk ?_)
    refine ⟨by omega, by omega, ?_⟩
    have hb45 := hch5.eq x4b _ hb4 h4F
    have h4F5 : ¬ F5 x4b := fun e => by
      rcases hF5 x4b e with e | e
      · exact h4F e
      · rw [hb4] at e; cases e
    rw [show 0 + (bs[j].toNat : Int).toNat * 1 = bs[j].toNat by omega]
    refine St1.of hb45 (by omega) rfl ?_
    have hc6 := Chg.set m5 x4b (.cells (cur.setIfInBounds bs[j].toNat (.int .i64 (j : Int))) T_arr256_int (0, 0))
    rw [wi (n := (j : Int) + 1) (by omega) (by omega)]
    refine ⟨bs.length - (j + 1), by omega, rfl, rfl, rfl, rfl, rfl, rfl, j + 1, F5, _, _, fun i => if i = bs[j].toNat then (j : Int) else last i, by omega, by omega, rfl, h5.side hc6 (by rintro b e rfl; exact h4F5 e) (hc6.to_le h5.le (by rintro b rfl; exact hm4)), h4F5, ?_, hnd5, set_same _ _ _, by simp [hsz], ?_, ?_, ?_⟩
    · rw [List.length_cons]; omega
    · intro i hi
      rw [Array.getElem?_setIfInBounds]
      show _ = some (Value.int .i64 (if i = bs[j].toNat then (j : Int) else last i))
      by_cases e : bs[j].toNat = i
      · rw [if_pos e, if_pos (by omega), if_pos e.symm]
      · rw [if_neg e, if_neg (fun h => e h.symm)]; exact hcur i hi
    · intro e he
      rcases List.mem_cons.1 he with rfl | he
      · refine ⟨by simp only; omega, by simp only; omega, ?_⟩
        simp
      · obtain ⟨he1, he2⟩ := drop_mem hnd he
        obtain ⟨g1, g2, g3⟩ := hes e he1
        refine ⟨g1, g2, ?_⟩
        show e.2 = ((if e.1.toNat = bs[j].toNat then (j : Int) else last e.1.toNat), e.1)
        rw [if_neg (by omega)]; exact g3
    · intro i hi hi'
      have hkd := keys_drop (k := (bs[j].toNat : Int)) hnd
      show _ ∈ (bs[j].toNat : Int) :: keysOf (dropL (bs[j].toNat : Int) es)
      rw [hkd, List.mem_cons, List.mem_filter, decide_eq_true_eq]
      by_cases e : (bs[i].toNat : Int) = (bs[j].toNat : Int)
      · exact .inl e
      · refine .inr ⟨hall i ?_ hi', e⟩
        rcases Nat.lt_or_ge i j with h | h
        · exact h
        · exfalso
          have : i = j := by omega
          subst this; exact e rfl
  · -- all are put
    have ej : j = bs.length := by omega
    subst ej
    unfold eyotlaw4_CacheValues.k2
    refine ⟨fun N y0a y0l y0c y3 y4b y4o y8 m' => y0a = x0a ∧ y0l = bs.length ∧ y0c = x0c ∧ y3 = some ⟨bc, 0, none⟩ ∧ y4b = x4b ∧ y4o = 0 ∧ ∃ (j : Nat) (F : Nat → Prop) (es : List (Int × (Int × Int))), y8 = j ∧ j ≤ bs.length ∧ N = bs.length - j ∧ ZA.TC m m' F bc 64 es ∧ ¬ F x4b ∧ es.length ≤ bs.length ∧ (keysOf es).Nodup ∧
      m' x4b = some (.cells cur T_arr256_int (0, 0)) ∧ (∀ e ∈ es, 0 ≤ e.1 ∧ e.1 < 256 ∧ e.2 = (last e.1.toNat, e.1)) ∧ ∀ i (h' : i < bs.length), (bs[i].toNat : Int) ∈ keysOf es,
      bs.length, ⟨rfl, rfl, rfl, rfl, rfl, rfl, 0, F, es, rfl, by omega, by omega, hc, h4F, hel, hnd, hb4, hes, fun i h => hall i h h⟩, ?_⟩
    clear hes hall hc h4F hel hnd hb4
    rintro N y0a y0l y0c y3 y4b y4o y8 m' ⟨rfl, rfl, rfl, rfl, rfl, rfl, j, F, es, rfl, hj, rfl, hc, h4F, hel, hnd, hb4, hes, hall⟩
    refine BrD (fun hlt => ?_) (fun hge => ⟨rfl, hc.le⟩)
    have hjl : j < bs.length := by omega
    refine rd hc.le hjl (UnI.mk ?_)
    have hx256 : bs[j].toNat < 256 := bs[j].toNat_lt
    rw [wi (n := (bs[j].toNat : Int)) (by omega) (by omega)]
    obtain ⟨i, hk⟩ := ix_of_mem (hall j hjl)
    obtain ⟨_, _, e, he, hek⟩ := ixF_some hk
    rw [Nat.sub_zero] at he
    obtain ⟨g1, g2, g3⟩ := hes e (List.mem_of_getElem? he)
    refine hc.gets (by omega) hk he ?_
    intro F5 m5 hch5 hF5 h5
    have hb45 := hch5.eq y4b _ hb4 h4F
    have h4F5 : ¬ F5 y4b := fun e => by
      rcases hF5 y4b e with e | e
      · exact h4F e
      · rw [hb4] at e; cases e
    intro b9 hb9
    refine St1.two (set_same _ _ _) rfl rfl ?_
    rw [set_set]
    have hle6 := Le.set hb9 (.cells #[.int .i64 e.2.1, .int .i64 e.2.2] T_arr2_int (0, 0))
    have hb96 := set_same m5 b9 (.cells #[.int .i64 e.2.1, .int .i64 e.2.2] T_arr2_int (0, 0))
    have h6 := h5.up hle6
    have hb46 := hle6 _ _ hb45
    generalize m5.set b9 (.cells #[.int .i64 e.2.1, .int .i64 e.2.2] T_arr2_int (0, 0)) = m6 at *
    refine ⟨m6, Le.refl _, ?_⟩
    refine Br.f rfl ?_
    refine LdV.s0 hb96 (LdV.s1 hb96 ?_)
    refine rd h6.le hjl (UnI.mk ?_)
    refine ⟨by omega, by omega, ?_⟩
    rw [show 0 + (bs[j].toNat : Int).toNat * 1 = bs[j].toNat by omega]
    refine LdV.of hb46 (by rw [← Array.getElem?_toList]; exact (by rw [Array.getElem?_toList]; exact hcur _ hx256)) ?_
    refine rd h6.le hjl (UnI.mk ?_)
    refine Br.f ?_ ?_
    · rw [wi (n := (bs[j].toNat : Int)) (by omega) (by omega), g3, hek]
      simp [eqL, eqV]
    · rw [wi (n := (j : Int) + 1) (by omega) (by omega)]
      refine ⟨bs.length - (j + 1), by omega, rfl, rfl, rfl, rfl, rfl, rfl, j + 1, F5, _, by omega, by omega, rfl, h6, h4F5, by rw [getL_len]; exact hel, get_nodup hnd, hb46, fun e he => hes e (get_mem he), fun i h => (get_keys_mem hnd).2 (hall i h)⟩
end Go.E
