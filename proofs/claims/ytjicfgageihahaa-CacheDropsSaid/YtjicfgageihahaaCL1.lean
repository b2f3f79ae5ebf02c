import Derived.Test.YtjicfgageihahaaCR2
import Derived.Test.YtjicfgageihahaaCCS
import Derived.Test.YtjicfgageihahaaCCI
import Derived.Test.YtjicfgageihahaaCA1
set_option linter.unusedVariables false
set_option linter.unusedSimpArgs false
namespace Go.E
open Go.H
attribute [local irreducible] BiN MkS ConvN LookN MapUpN CallV HC
abbrev Fine (m : Mem) : Ending → Mem → Prop := fun e m' => e = .returned (.bool true) ∧ Le m m'

theorem SameInts_true {m : Mem} {a : Option Addr} {l c : Nat} {b : Option Addr} {l2 c2 : Nat} {xs : List Int} (h1 : CellsAt m a (ints xs)) (h2 : CellsAt m b (ints xs)) (hl : xs.length = l) (hl2 : xs.length = l2) (hb : l ≤ 1000000000) {R : Ending → Mem → Prop}
    (h : R (.returned (.bool true)) m) : HC P eyotref13_SameInts.id #[.slice a l c, .slice b l2 c2] m R := by
  refine eyotref13_SameInts.ok _ _ _ _ _ _ _ _ ?_
  subst hl
  subst hl2
  refine BrNf rfl ?_
  refine ⟨fun N a' l' c' b' l2' c2' i mm => a' = a ∧ l' = xs.length ∧ b' = b ∧ l2' = xs.length ∧ mm = m ∧ ∃ k : Nat, i = k ∧ k ≤ xs.length ∧ N = xs.length - k, xs.length, ⟨rfl, rfl, rfl, rfl, rfl, 0, rfl, by omega, by omega⟩, ?_⟩
  rintro N a' l' c' b' l2' c2' i mm ⟨rfl, rfl, rfl, rfl, rfl, k, rfl, hk, rfl⟩
  refine BrD (fun hlt => ?_) (fun _ => h)
  refine ⟨_, Le.refl _, ?_⟩
  refine IxS.ints h1 rfl (by omega) (by omega) ?_
  intro x hx
  refine IxS.ints h2 rfl (by omega) (by omega) ?_
  intro y hy
  rw [hx] at hy
  cases hy
  refine BrNf rfl ?_
  refine ⟨xs.length - (k + 1), by omega, rfl, rfl, rfl, rfl, rfl, k + 1, ?_, by omega, rfl⟩
  rw [wi (by omega) (by omega)]; omega


theorem begun4 {m : Mem} {R : Ending → Mem → Prop} (k : ∀ m', Le m m' → R (.returned (.bool true)) m') : HC P eyotlaw4_begun.id #[] m R := by
  refine eyotlaw4_begun.ok _ _ ?_
  refine ZI.TC.new ?_
  intro bc F m1 h1
  refine h1.put (by decide) 1 5 ?_
  intro F2 m2 _ _ h2
  refine h2.put (by decide) 2 6 ?_
  intro F3 m3 _ _ h3
  refine h3.gets (by decide) (i := 0) (x := (2, 6)) (by decide) (by decide) ?_
  intro F4 m4 _ _ h4
  refine Br.t rfl ?_
  refine BrEt rfl ?_
  refine Br.t rfl ?_
  refine BrEt rfl ?_
  refine h4.keys (by decide) ?_
  intro a' c' m5 _ h5 _ _
  exact k m5 h5.le

/-! ### CacheAll -/
structure B4 (ms mm : Mem) (F Fr : Nat → Prop) (bc br : Nat) (most : Int) (es : List (Int × Int)) : Prop where
  c : ZI.TC ms mm F bc most es
  r : Rc mm Fr br most es
  fr : ∀ b, Fr b → ms b = none
  ap : ∀ b, F b → ¬ Fr b
  mx : ((es.length : Nat) : Int) ≤ max most 1
section
variable {ms mm m1 m2 : Mem} {F Fr F' Fr' : Nat → Prop} {bc br : Nat} {most : Int} {es es' : List (Int × Int)}
theorem B4.step (h : B4 ms mm F Fr bc br most es) (hc1 : Chg F mm m1) (hF : ∀ b, F' b → F b ∨ mm b = none) (hca : ZI.TC ms m1 F' bc most es') (hc2 : Chg Fr m1 m2) (hFr : ∀ b, Fr' b → Fr b ∨ m1 b = none) (hr : Rc m2 Fr' br most es') (hm : ((es'.length : Nat) : Int) ≤ max most 1) : B4 ms m2 F' Fr' bc br most es' := by
  have hap1 := sep_step h.ap hF h.r.lv
  refine ⟨hca.side hc2 hap1 (hc2.to_le hca.le h.fr), hr, fun b hb => ?_, ?_, hm⟩
  · rcases hFr b hb with e | e
    · exact h.fr b e
    · exact hca.le.new e
  · exact fun b hb hg => sep_step (fun b e1 e2 => hap1 b e2 e1) hFr hca.ca.lv b hg hb
theorem B4.rc1 (h : B4 ms mm F Fr bc br most es) (hc1 : Chg F mm m1) : Rc m1 Fr br most es := h.r.chg hc1 (fun b e1 e2 => h.ap b e2 e1)

theorem All4_k4 {m : Mem} (hle : Le m mm) : eyotlaw4_CacheAll.k4 (Fine m) mm := by
  unfold eyotlaw4_CacheAll.k4
  intro b hb
  have h1 : ZS.TC m (mm.set b (.cells #[.int .i64 0, .slice none 0 0] T_lru_Cache_string (0, 0))) (fun k => k = b) b 0 [] :=
    ⟨hle.trans (Le.set hb _), ⟨⟨none, 0, set_same _ _ _, Own.nil _ _ _, rfl, fun b e => by cases e⟩, by rintro k rfl; rw [set_same]; simp⟩, by rintro k rfl; exact hle.new hb⟩
  refine ZS.Get_nil ?_
  intro m2 hle2
  refine ZS.Put_nil ?_
  refine ZS.Clear_nil ?_
  refine (h1.up hle2).put (by decide) 1 _ ?_
  intro F5 m5 _ _ h5
  refine h5.put (by decide) 2 _ ?_
  intro F6 m6 _ _ h6
  refine h6.gets (by decide) (k := 2) (i := 0) (x := (2, ByteArray.mk #[121])) rfl rfl ?_
  intro F7 m7 _ _ h7
  refine Br.t rfl (Br.t rfl ?_)
  refine ZS.Drop_nil ?_
  intro m8 hle8
  refine Br.t rfl ?_
  refine ZS.Keys_nil ?_
  refine BrEt rfl ?_
  refine Br.t rfl ?_
  refine Br.t rfl ?_
  refine BrEt rfl ?_
  refine Br.t rfl ?_
  exact ⟨by simp, h7.le.trans hle8⟩

theorem All4_k2 (h : B4 ms mm F Fr bc br most es) (hll : es.length ≤ 100) {K1 : Option Addr → Nat → Nat → Option Addr → Nat → Nat → Int → Mem → Prop} {x1a : Option Addr} {x1l x1c : Nat} {x7 : Int} {R : Ending → Mem → Prop}
    (k : ∀ m', B4 ms m' F Fr bc br most es → K1 x1a x1l x1c (some ⟨bc, 0, none⟩) br 0 (IntKind.i64.wrap (x7 + 1)) m') : eyotlaw4_CacheAll.k2 K1 x1a x1l x1c (some ⟨bc, 0, none⟩) br 0 x7 R mm := by
  unfold eyotlaw4_CacheAll.k2
  refine h.c.keys (by omega) ?_
  intro a' c' m1 hle1 hc1 ho hf
  have hr1 := h.r.le hle1
  have hr1' := hr1
  obtain ⟨⟨ka, kc, va, vc, g1, g2, g3, g4, g5, g6⟩, lv⟩ := hr1'
  refine LdV.s1 g1 (UnS.mk ?_)
  refine SameInts_true ho.cells g2.cells (by simp) (by simp) (by omega) ?_
  refine Br.f rfl ?_
  refine ⟨fun N y1a y1l y1c y5 yb yo y7 ya yl yc i m' => y1a = x1a ∧ y1l = x1l ∧ y1c = x1c ∧ y5 = some ⟨bc, 0, none⟩ ∧ yb = br ∧ yo = 0 ∧ y7 = x7 ∧ ya = a' ∧ yl = es.length ∧ yc = c' ∧ Chg (fun b => blk a' = some b) m1 m' ∧ (∃ xs, Own m' T_int 1 a' es.length c' xs) ∧ ∃ j : Nat, i = j ∧ j ≤ es.length ∧ N = es.length - j, es.length, ⟨rfl, rfl, rfl, rfl, rfl, rfl, rfl, rfl, rfl, rfl, Chg.refl _ _, ⟨_, ho⟩, 0, rfl, by omega, by omega⟩, ?_⟩
  rintro N y1a y1l y1c y5 yb yo y7 ya yl yc i m' ⟨rfl, rfl, rfl, rfl, rfl, rfl, rfl, rfl, rfl, rfl, hch, ⟨xs, hox⟩, j, rfl, hj, rfl⟩
  refine BrD (fun hlt => ?_) (fun hge => ?_)
  · refine hox.st (by omega) (by omega) rfl ?_
    intro m'' hch' ho'
    refine ⟨es.length - (j + 1), by omega, rfl, rfl, rfl, rfl, rfl, rfl, rfl, rfl, rfl, rfl, hch.trans hch' (fun _ _ h => h), ⟨_, ho'⟩, j + 1, ?_, by omega, rfl⟩
    rw [wi (by omega) (by omega)]; omega
  · have hd : ∀ {G : Nat → Prop}, (∀ b, G b → mm b ≠ none) → ∀ b, G b → ¬ blk ya = some b := fun lv b hb e => lv b hb (hf b e)
    refine k m' ⟨hc1.side hch (hd h.c.ca.lv) (hch.to_le hc1.le (fun b e => h.c.le.new (hf b e))), hr1.chg hch (hd h.r.lv), h.fr, h.ap, h.mx⟩
end
theorem CacheAll_arg {W : World} {v0 v1 : Value} (h0 : Arg P W T_int v0) (h1 : Arg P W T_sl_uint16 v1) : HC P eyotlaw4_CacheAll.id #[v0, v1] (heapM W) (Fine (heapM W)) := by
  obtain ⟨most, rfl, hmost⟩ := h0.int (k := .i64) (by kernel_rfl)
  obtain ⟨a, l, c, xs, rfl, hlc, hxl, hcx, hwf⟩ := h1.nums (e := T_uint16) (k := .u16) (by kernel_rfl) (by kernel_rfl)
  generalize heapM W = m at *
  subst hxl
  refine eyotlaw4_CacheAll.ok _ _ _ _ _ _ ?_
  refine begun4 ?_
  intro m1 hle1
  refine Br.f rfl ?_
  refine BrD (fun _ => ⟨rfl, hle1⟩) (fun hlen => ?_)
  refine ZI.TC.new ?_
  intro bc F m2 h2
  have h2 : ZI.TC m m2 F bc most [] := h2.base hle1
  intro b41 hb41
  have hle3 := Le.set hb41 (.cells #[.int .i64 most, .slice none 0 0, .slice none 0 0] T_eyotref3_Cache (0, 0))
  have h3 : B4 m (m2.set b41 (.cells #[.int .i64 most, .slice none 0 0, .slice none 0 0] T_eyotref3_Cache (0, 0))) F (fun k => k = b41) bc b41 most [] := by
    refine ⟨h2.up hle3, ⟨⟨none, 0, none, 0, set_same _ _ _, Own.nil _ _ _, Own.nil _ _ _, rfl, (fun b e => by cases e), (fun b e => by cases e)⟩, (by rintro k rfl; rw [set_same]; simp)⟩, (by rintro k rfl; exact h2.le.new hb41), ?_, by simp; omega⟩
    rintro b hb rfl; exact h2.ca.lv _ hb hb41
  refine ⟨fun N x1a x1l x1c x5 x6b x6o x7 mm => x1a = a ∧ x1l = xs.length ∧ x5 = some ⟨bc, 0, none⟩ ∧ x6b = b41 ∧ x6o = 0 ∧ ∃ (j : Nat) (F Fr : Nat → Prop) (es : List (Int × Int)), x7 = j ∧ j ≤ xs.length ∧ N = xs.length - j ∧ es.length ≤ j ∧ B4 m mm F Fr bc b41 most es, xs.length, ⟨rfl, rfl, rfl, rfl, rfl, 0, F, _, [], rfl, by omega, by omega, by simp, h3⟩, ?_⟩
  clear h3 h2 hle3
  rintro N x1a x1l x1c x5 x6b x6o x7 mm ⟨rfl, rfl, rfl, rfl, rfl, j, F, Fr, es, rfl, hj, rfl, hel, hb⟩
  refine BrD (fun hlt => ?_) (fun hge => All4_k4 hb.c.le)
  have hjl : j < xs.length := by omega
  have hcm := hcx.le hb.c.le
  have hg : (xs.map fun n => Value.int IntKind.u16 n)[((j : Nat) : Int).toNat]? = some (.int .u16 xs[j]) := by rw [Int.toNat_natCast, List.getElem?_map, List.getElem?_eq_getElem hjl]; rfl
  have rd : ∀ {K : Value → Prop}, K (.int .u16 xs[j]) → IxS x1a xs.length (j : Int) 1 (fun b o => LdV mm b o K) := by
    intro K hK
    refine IxS.ld hcm (by simp) (by omega) (by omega) ?_
    intro v hv
    rw [hg] at hv; cases hv; exact hK
  refine rd (UnI.mk ?_)
  refine rd (UnI.mk ?_)
  generalize Int.tmod (IntKind.i64.wrap (IntKind.u16.wrap (Int.tdiv xs[j] 10))) 12 = k
  -- the next round
  have next : ∀ (F' Fr' : Nat → Prop) (es' : List (Int × Int)) (m' : Mem), es'.length ≤ j + 1 → B4 m m' F' Fr' bc x6b most es' → eyotlaw4_CacheAll.k2 (fun z1a z1l z1c z5 z6b z6o z7 mm => ∃ N1, N1 < xs.length - j ∧ (z1a = x1a ∧ z1l = xs.length ∧ z5 = some ⟨bc, 0, none⟩ ∧ z6b = x6b ∧ z6o = 0 ∧ ∃ (j : Nat) (F Fr : Nat → Prop) (es : List (Int × Int)), z7 = j ∧ j ≤ xs.length ∧ N1 = xs.length - j ∧ es.length ≤ j ∧ B4 m mm F Fr bc x6b most es))
      x1a xs.length x1c (some ⟨bc, 0, none⟩) x6b 0 (j : Int) (Fine m) m' := by
    intro F' Fr' es' m' hl' hb'
    refine All4_k2 hb' (by omega) ?_
    intro m'' hb''
    rw [wi (by omega) (by omega)]
    exact ⟨xs.length - (j + 1), by omega, rfl, rfl, rfl, rfl, rfl, j + 1, F', Fr', es', by omega, by omega, rfl, hl', hb''⟩
  have hpl := putL_len most k (j : Int) es
  refine BrD (fun h5 => ?_) (fun h5 => BrD (fun h8 => ?_) (fun h8 => BrE (fun h8e => ?_) (fun h9 => ?_)))
  · refine hb.c.put (by omega) k (j : Int) ?_
    intro F1 m3 hc3 hF3 h3
    refine rPut_spec (hb.rc1 hc3) (by omega) k (j : Int) ?_
    intro Fr4 m4 hc4 hFr4 h4
    refine BrNf rfl ?_
    refine Br.f (by simp) ?_
    exact next F1 Fr4 _ m4 (by omega) (hb.step hc3 hF3 h3 hc4 hFr4 h4 (by have := hb.mx; omega))
  · cases hk : ixF k es 0 with
    | none =>
      refine hb.c.getn (by omega) hk ?_
      intro m3 hle3 h3
      refine rGet_none (hb.r.le hle3) (by omega) hk ?_
      refine BrNf rfl ?_
      refine Br.f rfl ?_
      exact next F Fr es m3 (by omega) ⟨h3, hb.r.le hle3, hb.fr, hb.ap, hb.mx⟩
    | some i =>
      obtain ⟨_, _, e, he, hek⟩ := ixF_some hk
      rw [Nat.sub_zero] at he
      obtain ⟨k', v⟩ := e
      simp only at hek
      subst hek
      refine hb.c.gets (by omega) hk he ?_
      intro F1 m3 hc3 hF3 h3
      refine rGet_some (hb.rc1 hc3) (by omega) hb.mx hk he ?_
      intro Fr4 m4 hc4 hFr4 h4
      refine BrNf rfl ?_
      refine Br.f rfl ?_
      have hgl := getL_len k' es
      exact next F1 Fr4 _ m4 (by omega) (hb.step hc3 hF3 h3 hc4 hFr4 h4 (by rw [hgl]; exact hb.mx))
  · refine hb.c.drop (by omega) k ?_
    intro F1 m3 hc3 hF3 h3
    refine rDrop_spec (hb.rc1 hc3) (by omega) k ?_
    intro Fr4 m4 hc4 hFr4 h4
    refine Br.f (by simp) ?_
    have hdl := dropL_len k es
    exact next F1 Fr4 _ m4 (by omega) (hb.step hc3 hF3 h3 hc4 hFr4 h4 (by have := hb.mx; omega))
  · refine hb.c.clear ?_
    intro F1 m3 hc3 hF3 h3
    have hr3 := hb.rc1 hc3
    obtain ⟨⟨ka, kc, va, vc, g1, g2, g3, g4, g5, g6⟩, lv⟩ := id hr3
    refine St1.at12 g1 rfl rfl ?_
    refine Rc.mk2 (es := []) g1 g4 (Own.nil _ _ _) (Own.nil _ _ _) (Chg.refl Fr m3) (fun b e => by cases e) (fun b e => by cases e) ?_
    intro Fr4 m4 hc4 hFr4 h4
    exact next F1 Fr4 [] m4 (by simp) (hb.step hc3 hF3 h3 hc4 hFr4 h4 (by simp; omega))
end Go.E
