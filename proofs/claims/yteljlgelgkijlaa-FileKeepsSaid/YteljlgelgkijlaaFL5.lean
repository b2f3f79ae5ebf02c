/- Layer 5: FileAll, the reference's walk. -/
import Derived.Test.YteljlgelgkijlaaFL4
import Derived.Test.YteljlgelgkijlaaCR2
set_option linter.unusedVariables false
set_option linter.unusedSimpArgs false
set_option maxRecDepth 20000
namespace Go.E
open Go.H
attribute [local irreducible] BiN MkS ConvN LookN MapUpN CallV HC

theorem goP_congr {f g : Int → Bool} {most : Int} : ∀ (l ks log : List Int), (∀ i ∈ l, f i = g i) → goP f most l ks log = goP g most l ks log
  | [], _, _, _ => rfl
  | i :: r, ks, log, h => by
    unfold goP
    rw [h i (by simp), goP_congr r _ _ (fun x hx => h x (by simp [hx])), goP_congr r _ _ (fun x hx => h x (by simp [hx]))]
theorem pgs_nn {w a n : Nat} {x : Int} (h : x ∈ pgs w a n) : 0 ≤ x := by obtain ⟨j, _, rfl⟩ := pgs_mem h; exact Int.natCast_nonneg _

theorem same_ints {mm : Mem} {a b : Option Addr} {l c d : Nat} {xs : List Int} (ha : CellsAt mm a (ints xs)) (hb : CellsAt mm b (ints xs)) (hl : xs.length = l) (hll : l ≤ 1000000) {R : Ending → Mem → Prop} (k : R (.returned (.bool true)) mm) :
    HC P eyotref13_SameInts.id #[.slice a l c, .slice b l d] mm R := by
  refine eyotref13_SameInts.ok _ _ _ _ _ _ _ _ ?_
  refine BrNf rfl ?_
  refine ⟨fun N xa xl xc ya yl yc i m' => xa = a ∧ xl = l ∧ xc = c ∧ ya = b ∧ yl = l ∧ yc = d ∧ m' = mm ∧ ∃ j : Nat, i = j ∧ N = l - j ∧ j ≤ l, l, ⟨rfl, rfl, rfl, rfl, rfl, rfl, rfl, 0, rfl, rfl, by omega⟩, ?_⟩
  rintro N xa xl xc ya yl yc i m' ⟨rfl, rfl, rfl, rfl, rfl, rfl, rfl, j, rfl, rfl, hj⟩
  refine BrD (fun hlt => ?_) (fun _ => k)
  refine ⟨m', Le.refl _, ?_⟩
  refine IxS.ints ha hl (by omega) hlt ?_
  intro x hx
  refine UnI.mk ?_
  refine IxS.ints hb hl (by omega) hlt ?_
  intro y hy
  refine UnI.mk ?_
  rw [hx] at hy
  cases hy
  refine BrNf rfl ?_
  refine ⟨_, ?_, rfl, rfl, rfl, rfl, rfl, rfl, rfl, j + 1, ?_, rfl, by omega⟩
  · omega
  · rw [wi (by omega) (by omega)]; omega

section
variable {m mm : Mem} {F : Nat → Prop} {br : Nat} {most : Int} {es : List (Int × Int)} {R : Ending → Mem → Prop}
theorem Rget_some (h : Rc m F br most es) (hll : es.length ≤ 9000) (hn : (keysOf es).Nodup) (hm : ((es.length : Nat) : Int) ≤ max most 1) {k : Int} (hk : k ∈ keysOf es)
    (r : ∀ F' m' es' v, Chg F m m' → (∀ b, F' b → F b ∨ m b = none) → Rc m' F' br most es' → keysOf es' = useK k (keysOf es) → R (.returned (.tuple #[.int .i64 v, .bool true])) m') : HC P eyotref3_Cache_Get.id #[.pointer (some ⟨br, 0, none⟩), .int .i64 k] m R := by
  obtain ⟨j, hj⟩ := ix_of_mem hk
  obtain ⟨_, _, x, hx, hxk⟩ := ixF_some hj
  rw [Nat.sub_zero] at hx
  obtain ⟨k', v⟩ := x
  dsimp only at hxk
  subst hxk
  refine rGet_some h hll hm hj hx ?_
  intro F' m' hch hF hc
  exact r F' m' _ v hch hF hc (keys_get hn hj)
/-- Page by page, as the reference does it. -/
theorem walk_spec (h : Rc m F br most es) (hn : (keysOf es).Nodup) (hm : ((es.length : Nat) : Int) ≤ max most 1) (hsm : es.length ≤ 4000) {a b w : Nat} {bad : Int} (hab : a ≤ b) (hb : b ≤ 400) (hw1 : 1 ≤ w) (hw2 : w ≤ 512) {ks' lg' : List Int} {ok : Bool}
    (hgo : goP (fun i => decide (i = bad)) most (pgs w a (npg w a b)) (keysOf es) [] = (ks', lg', ok))
    (k : ∀ F' m' es' ra rc, Chg F m m' → (∀ x, F' x → F x ∨ m x = none) → Rc m' F' br most es' → keysOf es' = ks' → Own m' T_int 1 ra lg'.length rc (ints lg') → (∀ x, blk ra = some x → m x = none ∧ ¬ F' x) → R (.returned (.tuple #[.slice ra lg'.length rc, .int .i64 (if ok = true then 0 else 11)])) m') :
    HC P eyotlaw5_walk.id #[.pointer (some ⟨br, 0, none⟩), .int .i64 (a : Int), .int .i64 (b : Int), .int .i64 (w : Int), .int .i64 bad] m R := by
  refine eyotlaw5_walk.ok _ _ _ _ _ _ _ ?_
  refine NzI.mk (by omega) ?_
  have hdiv : IntKind.i64.wrap (Int.tdiv (a : Int) (w : Int)) = ((a / w + 0 : Nat) : Int) := by
    rw [Int.tdiv_eq_ediv_of_nonneg (by omega), Nat.add_zero]
    have : (a : Int) / (w : Int) = ((a / w : Nat) : Int) := (Int.natCast_ediv a w).symm
    have h2 := Nat.div_le_self a w
    rw [this]
    generalize a / w = z at h2
    rw [wi (by omega) (by omega)]
  rw [hdiv]
  have hnp : npg w a b ≤ 4001 := npg_le (by omega)
  refine ⟨fun N c x1 x2 x3 x4 ra rl rc i mm => c = some ⟨br, 0, none⟩ ∧ x1 = (a : Int) ∧ x2 = (b : Int) ∧ x3 = (w : Int) ∧ x4 = bad ∧
    ∃ (j : Nat) (F' : Nat → Prop) (es' : List (Int × Int)) (lg : List Int), i = ((a / w + j : Nat) : Int) ∧ N = npg w a b - j ∧ j ≤ npg w a b ∧ Chg F m mm ∧ (∀ x, F' x → F x ∨ m x = none) ∧ Rc mm F' br most es' ∧ (keysOf es').Nodup ∧ ((es'.length : Nat) : Int) ≤ max most 1 ∧ es'.length ≤ 4000 + j ∧
      rl = lg.length ∧ lg.length ≤ j ∧ Own mm T_int 1 ra rl rc (ints lg) ∧ (∀ x, blk ra = some x → m x = none ∧ ¬ F' x) ∧ goP (fun i => decide (i = bad)) most ((pgs w a (npg w a b)).drop j) (keysOf es') lg = (ks', lg', ok), npg w a b,
    ⟨rfl, rfl, rfl, rfl, rfl, 0, F, es, [], rfl, rfl, by omega, Chg.refl _ _, fun _ e => .inl e, h, hn, hm, by omega, rfl, by simp, Own.nil _ _ _, (fun x e => by cases e), hgo⟩, ?_⟩
  rintro N c x1 x2 x3 x4 ra rl rc i mm ⟨rfl, rfl, rfl, rfl, rfl, j, F', es', lg, rfl, rfl, hj, hch, gF, hr, hn', hm', hsm', rfl, hlg, hown, hfr, hg⟩
  have hq := npg_mul hw1 hj
  obtain ⟨q, hqe⟩ : ∃ q, q = (a / w + j) * w := ⟨_, rfl⟩
  rw [← hqe] at hq
  have hmul : ((a / w + j : Nat) : Int) * (w : Int) = (q : Int) := by rw [hqe, Int.natCast_mul]
  have hwr : IntKind.i64.wrap (((a / w + j : Nat) : Int) * (w : Int)) = (q : Int) := by rw [hmul, wi (by omega) (by omega)]
  unfold eyotlaw5_walk.l1B
  rw [hwr]
  have hlt := npg_lt (w := w) (a := a) (b := b) (j := j) hw1
  rw [← hqe] at hlt
  have fin : ¬ (a < b ∧ q < b) → R (.returned (.tuple #[.slice ra lg.length rc, .int .i64 0])) mm := by
    intro hno
    have hjn : ¬ j < npg w a b := fun hx => hno (hlt.mp hx)
    have hjj : (pgs w a (npg w a b)).drop j = [] := by
      apply List.drop_eq_nil_of_le
      rw [pgs_len]; omega
    rw [hjj] at hg
    simp only [goP, Prod.mk.injEq] at hg
    obtain ⟨h1, rfl, rfl⟩ := hg
    exact k F' mm es' ra rc hch gF hr h1 hown hfr
  refine BrD (fun hab2 => ?_) (fun hab2 => fin (fun hx => hab2 (by omega)))
  refine BrD (fun hqb => ?_) (fun hqb => fin (fun hx => hqb (by omega)))
  have hjn : j < npg w a b := hlt.mpr ⟨by omega, by omega⟩
  rw [pgs_cons j hjn] at hg
  have hz : a / w + j ≤ 10000 := by have := Nat.div_le_self a w; omega
  have hi1 : IntKind.i64.wrap (((a / w + j : Nat) : Int) + 1) = ((a / w + (j + 1) : Nat) : Int) := by
    rw [show a / w + (j + 1) = (a / w + j) + 1 from rfl]
    generalize a / w + j = z at hz
    rw [wi (by omega) (by omega)]; omega
  rw [hi1]
  by_cases hk : ((a / w + j : Nat) : Int) ∈ keysOf es'
  · simp only [goP, if_pos hk] at hg
    refine Rget_some hr (by omega) hn' hm' hk ?_
    intro F2 m2 es2 v hch2 gF2 hr2 hk2
    have hlen2 : es2.length = es'.length := by rw [← keysOf_len, hk2, useK_len hn' hk, keysOf_len]
    refine Br.t rfl ?_
    refine ⟨npg w a b - (j + 1), by omega, rfl, rfl, rfl, rfl, rfl, j + 1, F2, es2, lg, rfl, rfl, by omega, hch.trans hch2 (fun x hx e => (gF x e).elim id (fun y => absurd y hx)), fun x e => (gF2 x e).elim (gF x) (fun y => .inr (hch.new y)), hr2,
      by rw [hk2]; exact useK_nd hn', by rw [hlen2]; exact hm', by omega, rfl, by omega, hown.chg hch2 (fun x e => (hfr x e).2), fun x e => ⟨(hfr x e).1, fun y => (gF2 x y).elim (hfr x e).2 (hown.live x e)⟩, by rw [hk2]; exact hg⟩
  · have hix := ix_of_not hk
    simp only [goP, if_neg hk] at hg
    refine rGet_none hr (by omega) hix ?_
    refine Br.f rfl ?_
    refine push_one eInt hown rfl (by omega) (by omega) ?_
    intro a' c' m2 hch2 ho2 hb2
    refine UnS.mk ?_
    have hu : ints lg ++ [.int .i64 ((a / w + j : Nat) : Int)] = ints (lg ++ [((a / w + j : Nat) : Int)]) := by simp [ints]
    have hl : lg.length + 1 = (lg ++ [((a / w + j : Nat) : Int)]).length := by simp
    rw [hu, hl] at ho2
    rw [hl]
    have hF2 : ∀ x, F' x → ¬ blk ra = some x := fun x e y => (hfr x y).2 e
    have hr2 := hr.chg hch2 hF2
    have hchm : Chg F m m2 := hch.trans hch2 (fun x hx e => absurd (hfr x e).1 hx)
    have hfr2 : ∀ x, blk a' = some x → m x = none ∧ ¬ F' x := by
      intro x e
      rcases hb2 with y | y
      · exact hfr x (y ▸ e)
      · exact ⟨hch.new (y x e), fun z => hr.lv x z (y x e)⟩
    refine BrE (fun hbad => ?_) (fun hbad => ?_)
    · rw [if_pos (by simpa using hbad)] at hg
      simp only [Prod.mk.injEq] at hg
      obtain ⟨h1, rfl, rfl⟩ := hg
      exact k F' m2 es' a' c' hchm gF hr2 h1 ho2 hfr2
    · rw [if_neg (by simpa using hbad)] at hg
      refine rPut_spec hr2 (by omega) _ 0 ?_
      intro F3 m3 hch3 gF3 hr3
      have hlen3 := putL_len most ((a / w + j : Nat) : Int) (0 : Int) es'
      have hk3 : keysOf (putL most ((a / w + j : Nat) : Int) (0 : Int) es') = putK most ((a / w + j : Nat) : Int) (keysOf es') := keys_put hn' hm'
      refine ⟨npg w a b - (j + 1), by omega, rfl, rfl, rfl, rfl, rfl, j + 1, F3, _, lg ++ [((a / w + j : Nat) : Int)], rfl, rfl, by omega, hchm.trans hch3 (fun x hx e => (gF x e).elim id (fun y => absurd y hx)), fun x e => (gF3 x e).elim (gF x) (fun y => .inr (hchm.new y)), hr3,
        by rw [hk3]; exact putK_nd hn', by omega, by omega, rfl, by simp; omega, ho2.chg hch3 (fun x e => (hfr2 x e).2), fun x e => ⟨(hfr2 x e).1, fun y => (gF3 x y).elim (hfr2 x e).2 (ho2.live x e)⟩, by rw [hk3]; exact hg⟩
end
end Go.E
