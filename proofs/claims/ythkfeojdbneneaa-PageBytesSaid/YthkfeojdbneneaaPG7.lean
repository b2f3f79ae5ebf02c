import Derived.Test.YthkfeojdbneneaaPG6
set_option linter.unusedVariables false
namespace Go.E
open Go.H

theorem Count_nil {m : Mem} {R : Ending → Mem → Prop} (h : ∀ m', Le m m' → R (.returned (.int .i64 0)) m') : HC P page_Pages_Count.id #[.pointer none] m R := by
  refine page_Pages_Count.ok _ _ _ ?_
  intro bn hbn
  refine safe_int (R0 := fun e m' => e = .panicked (nilPanic P) ∧ m' = m.set bn (.cells #[.pointer none] T_ptr_page_Pages (0, 0))) ?_ ?_
  · exact count_nil (cell_of (set_same _ _ _) rfl) ⟨rfl, rfl⟩
  · rintro e m' ⟨rfl, rfl⟩
    exact .inr ⟨_, rfl, h _ (Le.set hbn _)⟩
theorem Len_nil {m : Mem} {R : Ending → Mem → Prop} (h : ∀ m', Le m m' → R (.returned (.int .i64 0)) m') : HC P page_Pages_Len.id #[.pointer none] m R := by
  refine page_Pages_Len.ok _ _ _ ?_
  intro bn hbn
  refine safe_int (R0 := fun e m' => e = .panicked (nilPanic P) ∧ m' = m.set bn (.cells #[.pointer none] T_ptr_page_Pages (0, 0))) ?_ ?_
  · refine page_Pages_Len_1.ok _ _ _ _ ?_
    exact LdV.of (set_same m bn (.cells #[.pointer none] T_ptr_page_Pages (0, 0))) (v := .pointer none) rfl ⟨rfl, rfl⟩
  · rintro e m' ⟨rfl, rfl⟩
    exact .inr ⟨_, rfl, h _ (Le.set hbn _)⟩
theorem Reads_nil {m : Mem} {R : Ending → Mem → Prop} (h : ∀ m', Le m m' → R (.returned (.slice none 0 0)) m') : HC P page_Pages_Reads.id #[.pointer none] m R := by
  refine page_Pages_Reads.ok _ _ _ ?_
  intro bn hbn
  refine safe_s_int (R0 := fun e m' => e = .panicked (nilPanic P) ∧ m' = m.set bn (.cells #[.pointer none] T_ptr_page_Pages (0, 0))) ?_ ?_
  · refine page_Pages_Reads_1.ok _ _ _ _ ?_
    exact LdV.of (set_same m bn (.cells #[.pointer none] T_ptr_page_Pages (0, 0))) (v := .pointer none) rfl ⟨rfl, rfl⟩
  · rintro e m' ⟨rfl, rfl⟩
    exact .inr ⟨_, rfl, h _ (Le.set hbn _)⟩
theorem Read_nil {m : Mem} {R : Ending → Mem → Prop} (h : ∀ m', Le m m' → R (.returned (.tuple #[.slice none 0 0, .int .i64 1])) m') : HC P page_Pages_Read.id #[.pointer none, .int .i64 0] m R := by
  refine page_Pages_Read.ok _ _ _ _ ?_
  refine BrDf (by decide) ?_
  refine Count_nil ?_
  intro m1 hle
  exact BrDt (p := (0 : Int) ≥ 0) (by decide) (h m1 hle)

theorem Run.new {ms mm : Mem} {F : Nat → Prop} {bp : Nat} {bs : List UInt8} {size : Int} {f : Int → Bool} {log : List Int} {xa : Option Addr} {xl xc : Nat} {want : List Int} (h : Run ms mm F bp bs size f log xa xl xc want) {b : Nat} (hb : mm b = none) (o : Obj) :
    Run (ms.set b o) (mm.set b o) F bp bs size f log xa xl xc want := by
  have hF : ∀ k, F k → k ≠ b := fun k e hk => h.pgs.lv k e (hk ▸ hb)
  have hx : ∀ k, blk xa = some k → k ≠ b := fun k e hk => h.own.live k e (hk ▸ hb)
  have hl := Le.set hb o
  refine ⟨?_, h.pgs.le hl, fun k e => by rw [set_other _ _ (hF k e)]; exact h.fr k e, h.no, Own.le hl h.own, fun k e => by rw [set_other _ _ (hx k e)]; exact h.fresh k e⟩
  intro k o' hk
  by_cases e : k = b
  · subst e; rw [set_same] at hk ⊢; exact hk
  · rw [set_other _ _ e] at hk ⊢; exact h.le k o' hk

theorem all_end {m mm : Mem} (hle : Le m mm) : eyotlaw3_PageAll.k7 (fun e m' => e = .returned (.bool true) ∧ Le m m') mm := by
  unfold eyotlaw3_PageAll.k7
  refine Read_nil ?_
  intro m1 h1
  refine Fault_nil (v := .bool true) ?_
  refine Clear_nil ?_
  refine BrEt rfl ?_
  refine Len_nil ?_
  intro m2 h2
  refine Count_nil ?_
  intro m3 h3
  refine Reads_nil ?_
  intro m4 h4
  exact ⟨rfl, hle.trans (h1.trans (h2.trans (h3.trans h4)))⟩

def AllI (m : Mem) (a : Option Addr) (l c : Nat) (bs : List UInt8) (size : Int) (a2 : Option Addr) (l2 c2 : Nat) (bp : Nat) (N : Nat) (x0a : Option Addr) (x0l : Nat) (x0c : Nat) (x1 : Int) (x2a : Option Addr) (x2l : Nat) (x2c : Nat) (x8 : Option Addr) (x10 : Int)
    (xa : Option Addr) (xl xc : Nat) (ya : Option Addr) (yl yc : Nat) (i : Int) (mm : Mem) : Prop :=
  x0a = a ∧ x0l = l ∧ x0c = c ∧ x1 = size ∧ x2a = a2 ∧ x2l = l2 ∧ x2c = c2 ∧ x8 = some ⟨bp, 0, none⟩ ∧ x10 = cnt bs.length size ∧ 0 ≤ i ∧ i ≤ l2 ∧ (N : Int) = l2 - i ∧
    ∃ ms F f log ys, Le m ms ∧ Run ms mm F bp bs size f log xa xl xc log ∧ (log.length : Int) ≤ i ∧ CellsAt ms ya (ints ys) ∧ ys.length = yl ∧ (∀ k, f k = ys.contains k) ∧ (yl = 0 ∨ yl = 2)

section
variable {m : Mem} {a : Option Addr} {l c : Nat} {bs : List UInt8} {size : Int} {a2 : Option Addr} {l2 c2 : Nat} {bp : Nat} {ms mm : Mem} {F : Nat → Prop} {f : Int → Bool} {log : List Int} {xa : Option Addr} {xl xc : Nat} {ya : Option Addr} {yl yc : Nat} {ys : List Int} {i : Int} {N : Nat}

theorem all_next (h0 : 0 ≤ i) (h1 : i < l2) (hb : l2 ≤ 40) (hN : (N : Int) = l2 - i) (hms : Le m ms) (hrun : Run ms mm F bp bs size f log xa xl xc log) (hlog : (log.length : Int) ≤ i + 1) (hy : CellsAt ms ya (ints ys)) (hyl : ys.length = yl) (hf : ∀ k, f k = ys.contains k) (hy2 : yl = 0 ∨ yl = 2) :
    ∃ N1, N1 < N ∧ AllI m a l c bs size a2 l2 c2 bp N1 a l c size a2 l2 c2 (some ⟨bp, 0, none⟩) (cnt bs.length size) xa xl xc ya yl yc (IntKind.i64.wrap (i + 1)) mm := by
  rw [wi (n := i + 1) (by omega) (by omega)]
  exact ⟨N - 1, by omega, rfl, rfl, rfl, rfl, rfl, rfl, rfl, rfl, rfl, by omega, by omega, by omega, ms, F, f, log, ys, hms, hrun, hlog, hy, hyl, hf, hy2⟩

theorem all_k6 (hl : bs.length = l) (h0 : 0 ≤ i) (h1 : i < l2) (hb : l2 ≤ 40) (hN : (N : Int) = l2 - i) (hms : Le m ms) (hrun : Run ms mm F bp bs size f log xa xl xc log) (hlog : (log.length : Int) ≤ i + 1) (hy : CellsAt ms ya (ints ys)) (hyl : ys.length = yl) (hf : ∀ k, f k = ys.contains k) (hy2 : yl = 0 ∨ yl = 2) (R : Ending → Mem → Prop) :
    eyotlaw3_PageAll.k6 (fun x0a x0l x0c x1 x2a x2l x2c x8 x10 xa xl xc ya yl yc i mm => ∃ N1, N1 < N ∧ AllI m a l c bs size a2 l2 c2 bp N1 x0a x0l x0c x1 x2a x2l x2c x8 x10 xa xl xc ya yl yc i mm) a l c size a2 l2 c2 (some ⟨bp, 0, none⟩) (cnt bs.length size) xa xl xc ya yl yc i R mm := by
  unfold eyotlaw3_PageAll.k6
  refine hrun.same (by omega) ?_
  intro m1 _ hrun1
  refine Br.f rfl ?_
  refine hrun1.plen ?_
  intro m2 _ hrun2
  refine BrNf (by omega) ?_
  refine hrun2.count ?_
  intro m3 _ hrun3
  refine BrNf rfl ?_
  exact all_next h0 h1 hb hN hms hrun3 hlog hy hyl hf hy2

theorem all_k3 {K2 : Option Addr → Nat → Nat → Int → Option Addr → Nat → Nat → Option Addr → Int → Option Addr → Nat → Nat → Option Addr → Nat → Nat → Int → Mem → Prop} {v : Int} (hrun : Run ms mm F bp bs size f (log ++ [v]) xa xl xc log) (hlog : log.length ≤ 1000)
    (hy : CellsAt ms ya (ints ys)) (hyl : ys.length = yl) (hf : ∀ k, f k = ys.contains k) (hy2 : yl = 0 ∨ yl = 2) {x2a : Option Addr} {x2l x2c : Nat} {x8 : Option Addr} {x10 : Int} {pa : Option Addr} {pl pc : Nat} {code : Int} {R : Ending → Mem → Prop}
    (k : ∀ a' c' m', Chg (fun b => blk xa = some b) mm m' → (blk a' = blk xa ∨ Fresh mm a') → Run ms m' F bp bs size f (log ++ [v]) a' (xl + 1) c' (log ++ [v]) → eyotlaw3_PageAll.k4 K2 a l c size x2a x2l x2c x8 x10 a' (xl + 1) c' ya yl yc i v pa pl pc code (f v) R m') :
    eyotlaw3_PageAll.k3 K2 a l c size x2a x2l x2c x8 x10 xa xl xc ya yl yc i v pa pl pc code false R mm := by
  unfold eyotlaw3_PageAll.k3
  refine Br.f rfl ?_
  refine hrun.push v (by have := hrun.len; omega) ?_
  intro a' c' m' hch hb hrun'
  have hk := k a' c' m' hch hb hrun'
  rw [hf v] at hk
  rcases hy2 with rfl | rfl
  · have e : ys = [] := List.eq_nil_of_length_eq_zero hyl
    subst e
    exact BrDf (by simp) hk
  · obtain ⟨y0, y1, rfl⟩ : ∃ y0 y1, ys = [y0, y1] := by
      match ys, hyl with
      | [y0, y1], _ => exact ⟨y0, y1, rfl⟩
    refine BrDt (by simp) ?_
    refine IxS.ints (CellsAt.le hrun'.le hy) rfl (by simp) (by simp) ?_
    intro x hx
    cases hx
    refine BrE (fun e => ?_) (fun e => ?_)
    · have : [y0, y1].contains v = true := by simp [e]
      rw [this] at hk
      exact hk
    · refine IxS.ints (CellsAt.le hrun'.le hy) rfl (by simp) (by simp) ?_
      intro x hx
      cases hx
      have : [y0, y1].contains v = (v == y1) := by rw [Bool.eq_iff_iff]; simp [e]
      rw [this] at hk
      exact hk
end

theorem PageAll_spec {m : Mem} {a : Option Addr} {l c : Nat} {bs : List UInt8} (hc : CellsAt m a (u8s bs)) (hl : bs.length = l) (hlc : l ≤ c) (a1 : Int)
    {a2 : Option Addr} {l2 c2 : Nat} {ops : List UInt8} (hc2 : CellsAt m a2 (u8s ops)) (hl2 : ops.length = l2) :
    HC P eyotlaw3_PageAll.id #[.slice a l c, .int .i64 a1, .slice a2 l2 c2] m (fun e m' => e = .returned (.bool true) ∧ Le m m') := by
  refine eyotlaw3_PageAll.ok _ _ _ _ _ _ _ _ _ ?_
  refine begun_spec ?_
  intro m1 hle1
  refine Br.f rfl ?_
  refine BrD (fun _ => ⟨rfl, hle1⟩) (fun hb1 => ?_)
  refine BrD (fun _ => ⟨rfl, hle1⟩) (fun hb2 => ?_)
  refine Twin_spec (CellsAt.le hle1 hc) hl (by omega) ?_
  intro xb m2 hle2 hxb hrow
  have hle02 := hle1.trans hle2
  refine New_spec (bs := bs) (CellsAt.left (twin_cells hrow)) hl ?_ ?_
  · intro hbad
    refine BrD (fun h => ?_) (fun h => ?_)
    · exact Br.t rfl (BrEt rfl ⟨rfl, hle02⟩)
    · have : (decide (a1 > 512)) = true := by simp; omega
      rw [this]
      exact Br.t rfl (BrEt rfl ⟨rfl, hle02⟩)
  intro s1 s2 _ bp F m3 hle3 hF3 hp3
  have hle03 := hle02.trans hle3
  refine BrDf (by omega) ?_
  have : (decide (a1 > 512)) = false := by simp; omega
  rw [this]
  refine Br.f rfl ?_
  refine BrNf rfl ?_
  refine Br.f rfl ?_
  refine Kept_spec (hle3 _ _ hrow) (CellsAt.le hle03 hc) hl (by omega) ?_
  refine Br.f rfl ?_
  have hxF : ¬ F xb := fun h => by have := hF3 xb h; rw [hrow] at this; cases this
  have e3 : l + 3 = (twinRow bs).size := by simp [twinRow, u8s_len, hl]
  rw [e3]
  refine Spoil_spec (hle3 _ _ hrow) (by omega) ?_
  intro m4 hch4
  have hF03 : ∀ b, F b → m b = none := fun b e => hle02.new (hF3 b e)
  have hrun4 : Run m m4 F bp bs a1 (fun _ => false) [] none 0 0 [] :=
    ⟨hch4.to_le hle03 (fun b e => by subst e; exact hle1.new hxb), hp3.chg hch4 (fun b e hx => by subst hx; exact hxF e), hF03, fun b e => (by cases e), by simpa [ints] using Own.nil m4 T_int 1, Fresh.none _⟩
  refine NzI.mk (by omega) ?_
  have hcl := cnt_le bs.length s1
  have hc0 := cnt_nn bs.length s1
  have hcnt : IntKind.i64.wrap (Int.tdiv (IntKind.i64.wrap ((IntKind.i64.wrap (((l : Nat) : Int) + a1)) - 1)) a1) = cnt bs.length a1 := by
    rw [wi (n := ((l : Nat) : Int) + a1) (by omega) (by omega), wi (n := ((l : Nat) : Int) + a1 - 1) (by omega) (by omega), Int.tdiv_eq_ediv_of_nonneg (by omega)]
    have e : (((l : Nat) : Int) + a1 - 1) / a1 = cnt bs.length a1 := by unfold cnt; rw [hl]
    rw [e, wi (by omega) (by omega)]
  rw [hcnt]
  refine ⟨AllI m a l c bs a1 a2 l2 c2 bp, l2, ⟨rfl, rfl, rfl, rfl, rfl, rfl, rfl, rfl, rfl, by omega, by omega, by omega, m, F, _, [], [], Le.refl m, hrun4, by simp, CellsAt.empty _ _, rfl, by simp, .inl rfl⟩, ?_⟩
  clear hrun4 hch4 hp3 hF3 hrow hle3 hle03
  rintro N x0a x0l x0c x1 x2a x2l x2c x8 x10 xa xl xc ya yl yc i mm ⟨rfl, rfl, rfl, rfl, rfl, rfl, rfl, rfl, rfl, hi0, hi1, hN, ms, F4, f, log, ys, hms, hrun, hlog, hy, hyl, hf, hy2⟩
  refine BrD (fun hil => ?_) (fun _ => all_end (hms.trans hrun.le))
  refine IxS.u8s (CellsAt.le (hms.trans hrun.le) hc2) hl2 hi0 hil ?_
  intro x hx
  have hx256 : x.toNat < 256 := x.toNat_lt
  have hv : IntKind.i64.wrap ((IntKind.i64.wrap (Int.tmod (x.toNat : Int) 37)) - 1) = ((x.toNat % 37 : Nat) : Int) - 1 := by
    rw [Int.tmod_eq_emod_of_nonneg (by omega), wi (n := (x.toNat : Int) % 37) (by omega) (by omega), wi (by omega) (by omega)]; omega
  refine UnI.mk ?_
  rw [hv]
  have hv37 : x.toNat % 37 < 37 := Nat.mod_lt _ (by decide)
  generalize x.toNat % 37 = u at hv37
  refine BrD (fun h29 => ?_) (fun h29 => BrD (fun h34 => ?_) (fun h34 => BrE (fun h35 => ?_) (fun h35 => ?_)))
  · -- a page is read
    refine hrun.read (by omega) _ ?_ ?_ ?_
    · intro hout m5 _ hrun5
      have h3 : eyotlaw3_PageAll.k3 (fun a b c d e f g h i j k l m_2 n o p q => ∃ N1, N1 < N ∧ AllI m x0a x0l x0c bs x1 x2a x2l x2c bp N1 a b c d e f g h i j k l m_2 n o p q) x0a x0l x0c x1 x2a x2l x2c (some ⟨bp, 0, none⟩) (cnt bs.length x1) xa xl xc ya yl yc i (((u : Nat) : Int) - 1) none 0 0 1 true (fun e m' => e = .returned (.bool true) ∧ Le m m') m5 := by
        unfold eyotlaw3_PageAll.k3
        refine Br.t rfl ?_
        refine BrNf rfl ?_
        refine BrDf (by decide) ?_
        exact all_next hi0 hil (by omega) hN hms hrun5 (by omega) hy hyl hf hy2
      refine BrD (fun _ => h3) (fun hn => ?_)
      have e : (decide (((u : Nat) : Int) - 1 ≥ cnt bs.length x1)) = true := by simp; omega
      rw [e]
      exact h3
    · intro hv0 hv1 hbad F5 m5 hch5 hF5 hrun5
      refine BrDf (by omega) ?_
      have e : (decide (((u : Nat) : Int) - 1 ≥ cnt bs.length x1)) = false := by simp; omega
      rw [e]
      refine all_k3 hrun5 (by omega) hy hyl hf hy2 ?_
      intro a' c' m6 _ _ hrun6
      rw [hbad]
      unfold eyotlaw3_PageAll.k4
      refine Br.t rfl ?_
      refine BrNf rfl ?_
      refine BrDf (by decide) ?_
      exact all_next hi0 hil (by omega) hN hms hrun6 (by simp; omega) hy hyl hf hy2
    · intro hv0 hv1 hok F5 m5 pa pc hch5 hF5 hrun5 hop hfp hnp
      refine BrDf (by omega) ?_
      have e : (decide (((u : Nat) : Int) - 1 ≥ cnt bs.length x1)) = false := by simp; omega
      rw [e]
      refine all_k3 hrun5 (by omega) hy hyl hf hy2 ?_
      intro a' c' m6 hch6 hb6 hrun6
      rw [hok]
      unfold eyotlaw3_PageAll.k4
      refine Br.f rfl ?_
      have hpx : ∀ b, blk pa = some b → blk xa ≠ some b := fun b e h => hrun.own.live b h (hfp b e)
      have hop6 : Own m6 T_uint8 1 pa (pg bs x1 (((u : Nat) : Int) - 1)).length pc (u8s (pg bs x1 (((u : Nat) : Int) - 1))) := hop.chg hch6 (fun b e h => hpx b e h)
      unfold eyotlaw3_PageAll.k5
      refine ⟨m6, Le.refl _, ?_⟩
      refine BrNf rfl ?_
      have hlt := (cnt_lt s1).mp hv1
      have hm0 : 0 ≤ (((u : Nat) : Int) - 1) * x1 := Int.mul_nonneg hv0 (by omega)
      generalize hv2 : ((u : Nat) : Int) - 1 = v at *
      refine ⟨pg bs x1 v, rfl, hop6.cells, ?_⟩
      rw [wi (n := v * x1) (by omega) (by omega), wi (n := v * x1 + x1) (by omega) (by omega)]
      have hpl := pg_len bs x1 v
      refine ⟨hm0, by split <;> omega, by split <;> omega, ?_⟩
      refine ⟨pg bs x1 v, by rw [hpl]; split <;> omega, ?_, ?_⟩
      · refine CellsAt.part (CellsAt.le (hms.trans hrun6.le) hc) _ ?_ ?_ rfl ?_
        · intro j w hw
          unfold pg u8s at *
          rw [List.getElem?_map] at hw ⊢
          rw [List.getElem?_take] at hw
          split at hw
          · rw [List.getElem?_drop] at hw; exact hw
          · cases hw
        · intro h0
          have : bs = [] := by simpa [u8s] using h0
          subst this
          simp [pg, u8s]
        · intro hz; exfalso; omega
      refine Br.f (toList_beq _) ?_
      refine Spoil_own hop6 ?_
      intro m7 hch7
      have hrun7 := hrun6.side hch7 (fun b e => ⟨hrun.le.new (hfp b e), hnp b e, ?_⟩)
      rotate_left
      · intro h
        rcases hb6 with hb6 | hb6
        · exact hpx b e (hb6 ▸ h)
        · exact hop.live b e (hb6 b h)
      exact all_k6 hl hi0 hil (by omega) hN hms hrun7 (by simp; omega) hy hyl hf hy2 _
  · -- that page and the one behind fail
    intro b167 hb167
    rw [wi (n := ((u : Nat) : Int) - 1 - 29) (by omega) (by omega), wi (n := ((u : Nat) : Int) - 1 - 28) (by omega) (by omega)]
    have hrun1 := hrun.new hb167 (.cells #[.int .i64 (((u : Nat) : Int) - 1 - 29), .int .i64 (((u : Nat) : Int) - 1 - 28)] T_int (0, 0))
    have hcs := cells_at (set_same ms b167 (.cells #[.int .i64 (((u : Nat) : Int) - 1 - 29), .int .i64 (((u : Nat) : Int) - 1 - 28)] T_int (0, 0))) (vs := ints [((u : Nat) : Int) - 1 - 29, ((u : Nat) : Int) - 1 - 28]) rfl
    refine hrun1.fault (ls := [((u : Nat) : Int) - 1 - 29, ((u : Nat) : Int) - 1 - 28]) (CellsAt.le hrun1.le hcs) rfl (by simp) ?_ ?_
    · intro b e
      cases e
      exact ⟨fun h => hrun.pgs.lv _ h hb167, by rw [set_same]; simp⟩
    intro F5 m5 _ _ hrun5
    exact all_k6 hl hi0 hil (by omega) hN (hms.trans (Le.set (hrun.le.new hb167) _)) hrun5 (by omega) hcs rfl (fun _ => rfl) (.inr rfl) _
  · -- Clear
    refine hrun.clear ?_
    intro m5 hch hrun5
    refine all_k6 hl hi0 hil (by omega) hN hms (xa := none) (xl := 0) (xc := 0) ⟨hrun5.le, hrun5.pgs, hrun5.fr, fun b e => (by cases e), by simpa [ints] using Own.nil m5 T_int 1, Fresh.none _⟩ (by simp; omega) hy hyl hf hy2 _
  · -- none fails
    refine hrun.fault (ls := []) (CellsAt.empty _ _) rfl (by simp) (fun b e => (by cases e)) ?_
    intro F5 m5 _ _ hrun5
    exact all_k6 hl hi0 hil (by omega) hN hms hrun5 (by omega) (CellsAt.empty _ _) rfl (fun _ => rfl) (.inl rfl) _
end Go.E
