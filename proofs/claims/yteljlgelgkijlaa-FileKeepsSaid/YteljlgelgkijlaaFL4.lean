/- Layer 5: FileKeeps. -/
import Derived.Test.YteljlgelgkijlaaFL3
set_option linter.unusedVariables false
set_option linter.unusedSimpArgs false
set_option maxRecDepth 20000
namespace Go.E
open Go.H
attribute [local irreducible] BiN MkS ConvN LookN MapUpN CallV HC

section
variable {ms mm : Mem} {F G : Nat → Prop} {bf bp : Nat} {bs : List UInt8} {size : Int} {f : Int → Bool} {log : List Int} {most : Int} {ks : List Int} {R : Ending → Mem → Prop}
theorem FT.fault (h : FT ms mm F G bf bp bs size f log most ks) {la : Option Addr} {ll lc : Nat} {ls : List Int} (hc : CellsAt mm la (ints ls)) (hl : ls.length = ll) (hlb : ll ≤ 1000000000) (hla : ∀ b, blk la = some b → ¬ F b ∧ mm b ≠ none)
    (k : ∀ F' m', Chg F mm m' → (∀ b, F' b → F b ∨ mm b = none) → FT ms m' F' G bf bp bs size (fun x => ls.contains x) log most ks → R (.returned (.tuple #[])) m') : HC P page_Pages_Fault.id #[.pointer (some ⟨bp, 0, none⟩), .slice la ll lc] mm R := by
  obtain ⟨Fp, p, hin, on⟩ := h.fl.on
  refine Fault_spec p hc hl hlb (fun b e => ⟨fun x => (hla b e).1 (hin b x), (hla b e).2⟩) ?_
  intro Fp' m' hch hF hp
  obtain ⟨F', hf, hc', hg⟩ := on Fp' m' _ _ hch hF hp
  exact k F' m' hc' hg (h.next hc' hg (fun b e => .inl e) hf)
theorem FT.clear (h : FT ms mm F G bf bp bs size f log most ks)
    (k : ∀ F' m', Chg F mm m' → (∀ b, F' b → F b ∨ mm b = none) → FT ms m' F' G bf bp bs size f [] most ks → R (.returned (.tuple #[])) m') : HC P page_Pages_Clear.id #[.pointer (some ⟨bp, 0, none⟩)] mm R := by
  obtain ⟨Fp, p, hin, on⟩ := h.fl.on
  refine Clear_spec p ?_
  intro m' hch hp
  obtain ⟨F', hf, hc', hg⟩ := on Fp m' _ _ hch (fun b e => .inl e) hp
  exact k F' m' hc' hg (h.next hc' hg (fun b e => .inl e) hf)
theorem FT.reads (h : FT ms mm F G bf bp bs size f log most ks) (hlog : log.length ≤ 1000000000)
    (k : ∀ a' c' m', Le mm m' → Own m' T_int 1 a' log.length c' (ints log) → Fresh mm a' → R (.returned (.slice a' log.length c')) m') : HC P page_Pages_Reads.id #[.pointer (some ⟨bp, 0, none⟩)] mm R := by
  obtain ⟨Fp, p, hin⟩ := h.fl.pages
  exact Reads_spec p hlog k
theorem FT.count (h : FT ms mm F G bf bp bs size f log most ks) (k : ∀ m', Le mm m' → R (.returned (.int .i64 (cnt bs.length size))) m') : HC P page_Pages_Count.id #[.pointer (some ⟨bp, 0, none⟩)] mm R := by
  obtain ⟨Fp, p, hin⟩ := h.fl.pages
  exact Count_spec p k
end
/-- Bytes of pages that are kept. -/
theorem goP_kept {f : Int → Bool} {most : Int} : ∀ (l ks log : List Int), (∀ i ∈ l, i ∈ ks) → ∃ ks', goP f most l ks log = (ks', log, true) ∧ ∀ x, x ∈ ks → x ∈ ks'
  | [], ks, log, _ => ⟨ks, rfl, fun _ h => h⟩
  | i :: r, ks, log, h => by
    obtain ⟨ks', h1, h2⟩ := goP_kept (f := f) (most := most) r (useK i ks) log (fun x hx => mem_useK.mpr (.inr (h x (by simp [hx]))))
    refine ⟨ks', ?_, fun x hx => h2 x (mem_useK.mpr (.inr hx))⟩
    unfold goP
    rw [if_pos (h i (by simp))]; exact h1
/-- All pages that were read are kept, if there is room. -/
theorem goP_mem {most : Int} : ∀ (l ks log : List Int), ks.length + l.length ≤ (max most 1).toNat → ∀ x, x ∈ ks ∨ x ∈ l → x ∈ (goP (fun _ => false) most l ks log).1
  | [], ks, log, _, x, hx => by
    rcases hx with h | h
    · exact h
    · cases h
  | i :: r, ks, log, hl, x, hx => by
    have hul : (useK i ks).length ≤ ks.length + 1 := by unfold useK; rw [List.length_cons]; have := List.length_filter_le (fun x => decide (x ≠ i)) ks; omega
    rw [List.length_cons] at hl
    have key : x ∈ useK i ks ∨ x ∈ r := by
      rcases hx with h | h
      · exact .inl (mem_useK.mpr (.inr h))
      · rcases List.mem_cons.mp h with h | h
        · exact .inl (mem_useK.mpr (.inl h))
        · exact .inr h
    unfold goP
    split
    · exact goP_mem r (useK i ks) log (by omega) x key
    · simp only [Bool.false_eq_true, if_false]
      have e : putK most i ks = useK i ks := by unfold putK; exact List.take_of_length_le (by omega)
      rw [e]
      exact goP_mem r (useK i ks) (log ++ [i]) (by omega) x key
theorem range_succ_ints (k : Nat) : ((List.range k).map fun (j : Nat) => (j : Int)) ++ [(k : Int)] = (List.range (k + 1)).map fun (j : Nat) => (j : Int) := by rw [List.range_succ, List.map_append]; rfl
theorem pgs_mem {w a n : Nat} {x : Int} (h : x ∈ pgs w a n) : ∃ j, j < n ∧ x = ((a / w + j : Nat) : Int) := by
  unfold pgs at h
  rw [List.mem_map] at h
  obtain ⟨y, hy, rfl⟩ := h
  rw [List.mem_range'] at hy
  obtain ⟨i, hi, rfl⟩ := hy
  exact ⟨i, hi, by rw [Nat.one_mul]⟩
theorem npg_le2 {w a b : Nat} (hw : 5 ≤ w) (h : b ≤ 300) : npg w a b ≤ 61 := by
  unfold npg
  split
  · have h1 : (b - 1) / w ≤ (b - 1) / 5 := Nat.div_le_div_left hw (by omega)
    have h2 : (b - 1) / 5 ≤ 60 := by omega
    generalize (b - 1) / w = y at h1
    generalize a / w = z
    omega
  · omega

theorem keeps_k2 {ms mm : Mem} {F G : Nat → Prop} {bf bp : Nat} {bs : List UInt8} {w l c x y : Nat} {a : Option Addr} {log ks : List Int} {sa aa : Option Addr} {sc ac : Nat} (hT : FT ms mm F G bf bp bs (w : Int) (fun _ => false) log 100 ks)
    (hc : CellsAt ms a (u8s bs)) (hl : bs.length = l) (hl3 : l ≤ 300) (hw : 5 ≤ w) (hxy : x < y) (hyl : y ≤ l) (hk : ∀ i ∈ pgs w x (npg w x y), i ∈ ks) (hso : Out mm F sa (u8s (seg bs x y)))
    (hao : Own mm T_int 1 aa (cnt bs.length (w : Int)).toNat ac (ints ((List.range (cnt bs.length (w : Int)).toNat).map fun (j : Nat) => (j : Int)))) (haf : ∀ b, blk aa = some b → ¬ F b ∧ mm b ≠ none) :
    eyotlaw5_FileKeeps.k2 a l c (w : Int) (some ⟨bp, 0, none⟩) (some ⟨bf, 0, none⟩) (x : Int) (y : Int) sa (y - x) sc 0 aa (cnt bs.length (w : Int)).toNat ac (Fine ms) mm := by
  have hs1 := hT.fl.s1
  have hcn := cnt_le bs.length hs1
  have hcn0 := cnt_nn bs.length hs1
  unfold eyotlaw5_FileKeeps.k2
  refine hT.fault hao.cells (by simp) (by omega) haf ?_
  intro F1 m1 ch1 gF1 hT1
  have hs1' := hso.next ch1 gF1
  refine hT1.clear ?_
  intro F2 m2 ch2 gF2 hT2
  have hs2 := hs1'.next ch2 gF2
  obtain ⟨ks3, hg3, hin3⟩ := goP_kept (f := fun z => ((List.range (cnt bs.length (w : Int)).toNat).map fun (j : Nat) => (j : Int)).contains z) (most := 100) (pgs w x (npg w x y)) ks [] hk
  refine Bytes_spec hT2.fl (a := x) (b := y) (by omega) (by omega) (by simp) hg3 ?_ (fun h => by cases h)
  intro _ F3 G3 m3 sa3 sc3 ch3 gF3 gG3 inG3 hfl3 own3 fr3
  have hT3 := hT2.next ch3 gF3 gG3 hfl3
  have hs3 := hs2.next ch3 gF3
  have hnx : npg w x (x + 1) = 1 := by
    unfold npg
    rw [if_pos (by omega), show x + 1 - 1 = x by omega]
    generalize x / w = z; omega
  have hx0 : ((x / w + 0 : Nat) : Int) ∈ pgs w x (npg w x y) := by
    have h0 : 0 < npg w x y := by
      rw [npg_lt (by omega)]
      have := Nat.div_mul_le_self x w
      exact ⟨hxy, by rw [Nat.add_zero]; omega⟩
    unfold pgs
    rw [List.mem_map]
    exact ⟨x / w + 0, by rw [List.mem_range']; exact ⟨0, h0, by omega⟩, rfl⟩
  obtain ⟨ks4, hg4, hin4⟩ := goP_kept (f := fun z => ((List.range (cnt bs.length (w : Int)).toNat).map fun (j : Nat) => (j : Int)).contains z) (most := 100) (pgs w x (npg w x (x + 1))) ks3 [] (by
    intro i hi
    rw [hnx] at hi
    obtain ⟨j, hj, rfl⟩ := pgs_mem hi
    have : j = 0 := by omega
    subst this
    exact hin3 _ (hk _ hx0))
  refine At_spec hT3.fl (i := x) (by omega) (by simp) hg4 ?_ (fun h => by cases h)
  intro _ F4 G4 m4 ch4 gF4 gG4 inG4 hfl4
  have hT4 := hT3.next ch4 gF4 gG4 hfl4
  have hs4 := hs3.next ch4 gF4
  refine hT4.reads (by simp) ?_
  intro ra rc m5 hle5 _ _
  dsimp only [Cont]
  refine UnS.mk ?_
  refine BrDf (by simp) ?_
  refine BrNf rfl ?_
  refine BrNf rfl ?_
  refine BrNf rfl ?_
  have o3 : Out m3 F3 sa3 (u8s (seg bs x y)) := ⟨own3.cells, fun b e => ⟨(fr3 b e).2.1, own3.live b e⟩⟩
  refine ⟨seg bs x y, seg_len (by omega), (hs4.up hle5).at_, ?_⟩
  refine ⟨seg bs x y, seg_len (by omega), ((o3.next ch4 gF4).up hle5).at_, ?_⟩
  refine Br.f (by rw [beq_self_eq_true]; rfl) ?_
  have hT5 := hT4.up hle5
  refine IxS.u8s (hc.le hT5.le) hl (by omega) (by omega) ?_
  intro v hv
  rw [Int.toNat_natCast, List.getElem?_eq_getElem (by omega)] at hv
  cases hv
  refine UnI.mk ?_
  refine BrNf rfl ?_
  refine Evict_spec hT5.fl ?_
  intro F6 m6 ch6 gF6 hfl6
  have hT6 := hT5.next ch6 gF6 (fun b e => .inl e) hfl6
  -- the first page can't be read
  have hcx : (x / w : Nat) < (cnt bs.length (w : Int)).toNat := by
    have h1 : ((x / w : Nat) : Int) < cnt bs.length (w : Int) := by
      rw [pg_cnt (by omega)]
      have := Nat.div_mul_le_self x w
      omega
    generalize x / w = z at h1
    omega
  have hg7 : goP (fun z => ((List.range (cnt bs.length (w : Int)).toNat).map fun (j : Nat) => (j : Int)).contains z) 100 (pgs w x (npg w x y)) [] [] = ([], [((x / w : Nat) : Int)], false) := by
    have h0 : 0 < npg w x y := by
      rw [npg_lt (by omega)]
      have := Nat.div_mul_le_self x w
      exact ⟨hxy, by rw [Nat.add_zero]; omega⟩
    have := pgs_cons (w := w) (a := x) 0 h0
    rw [List.drop_zero] at this
    rw [this, Nat.add_zero]
    unfold goP
    rw [if_neg (by simp), if_pos]
    · rfl
    · rw [List.contains_iff_mem, List.mem_map]
      exact ⟨x / w, List.mem_range.mpr hcx, rfl⟩
  refine Bytes_spec hT6.fl (a := x) (b := y) (by omega) (by omega) (by simp) hg7 (fun h => by cases h) ?_
  intro _ F7 G7 m7 ch7 gF7 gG7 inG7 hfl7
  have hT7 := hT6.next ch7 gF7 gG7 hfl7
  have hg8 : goP (fun z => ((List.range (cnt bs.length (w : Int)).toNat).map fun (j : Nat) => (j : Int)).contains z) 100 (pgs w x (npg w x x)) [] [((x / w : Nat) : Int)] = ([], [((x / w : Nat) : Int)], true) := by
    have : npg w x x = 0 := by unfold npg; rw [if_neg (by omega)]
    rw [this]; rfl
  refine Bytes_spec hT7.fl (a := x) (b := x) (by omega) (by omega) (by simp) hg8 ?_ (fun h => by cases h)
  intro _ F8 G8 m8 sa8 sc8 ch8 gF8 gG8 inG8 hfl8 own8 fr8
  have hT8 := hT7.next ch8 gF8 gG8 hfl8
  refine hT8.reads (by simp) ?_
  intro ra9 rc9 m9 hle9 ho9 hf9
  dsimp only [Cont]
  refine UnS.mk ?_
  refine ⟨m9, Le.refl _, ?_⟩
  have hT9 := hT8.up hle9
  refine Kept_spec hT9.fl ?_
  intro m10 hle10
  dsimp only [Cont]
  refine UnI.mk (Lk.all hle10 ?_)
  refine BrEt rfl ?_
  refine BrEt rfl ?_
  refine BrEt rfl ?_
  refine BrEt rfl ?_
  refine IxS.ints (i := 0) (ho9.cells.le hle10) rfl (by decide) (show (0 : Int) < ((1 : Nat) : Int) by decide) ?_
  intro v hv
  cases hv
  refine UnI.mk ?_
  refine NzI.mk (by omega) ?_
  refine ⟨?_, hT9.le.trans hle10⟩
  have hdv : IntKind.i64.wrap (Int.tdiv (x : Int) (w : Int)) = ((x / w : Nat) : Int) := by
    rw [Int.tdiv_eq_ediv_of_nonneg (by omega)]
    have : (x : Int) / (w : Int) = ((x / w : Nat) : Int) := (Int.natCast_ediv x w).symm
    have h2 := Nat.div_le_self x w
    rw [this]
    generalize x / w = z at h2
    rw [wi (by omega) (by omega)]
  rw [hdv, beq_self_eq_true]

theorem FileKeeps_m {m : Mem} {a : Option Addr} {l c : Nat} {bs : List UInt8} {n1 n2 n3 : Nat} (hc : CellsAt m a (u8s bs)) (hl : bs.length = l) (h1 : n1 < 256) (h2 : n2 < 65536) (h3 : n3 < 65536) :
    HC P eyotlaw5_FileKeeps.id #[.slice a l c, .int .u8 (n1 : Int), .int .u16 (n2 : Int), .int .u16 (n3 : Int)] m (Fine m) := by
  refine eyotlaw5_FileKeeps.ok _ _ _ _ _ _ _ _ ?_
  refine begun_spec ?_
  intro m1 hle1
  dsimp only [Cont]
  refine UnB.mk ?_
  refine Br.f rfl ?_
  refine BrE (fun _ => ⟨rfl, hle1⟩) (fun h0 => ?_)
  refine BrD (fun _ => ⟨rfl, hle1⟩) (fun h300 => ?_)
  have w1 : IntKind.i64.wrap ((n1 : Nat) : Int) = (n1 : Int) := wi (by omega) (by omega)
  have w2 : IntKind.i64.wrap ((n2 : Nat) : Int) = (n2 : Int) := wi (by omega) (by omega)
  have w3 : IntKind.i64.wrap ((n3 : Nat) : Int) = (n3 : Int) := wi (by omega) (by omega)
  rw [w1, w2, w3]
  have e1 : IntKind.i64.wrap (5 + Int.tmod (n1 : Int) 30) = ((5 + n1 % 30 : Nat) : Int) := by
    rw [show (30 : Int) = ((30 : Nat) : Int) from rfl, tmod_nat, wi (by omega) (by omega)]; omega
  rw [e1, tmod_nat]
  have hfrom : n2 % l < l := Nat.mod_lt _ (by omega)
  generalize n2 % l = x at hfrom
  generalize hw : 5 + n1 % 30 = w
  have e4 : (if ((l : Nat) : Int) < IntKind.i64.wrap (IntKind.i64.wrap ((x : Int) + 1) + (n3 : Int)) then ((l : Nat) : Int) else IntKind.i64.wrap (IntKind.i64.wrap ((x : Int) + 1) + (n3 : Int))) = ((min l (x + 1 + n3) : Nat) : Int) := by
    rw [wi (n := (x : Int) + 1) (by omega) (by omega), wi (by omega) (by omega)]; split <;> omega
  rw [e4]
  generalize hy : min l (x + 1 + n3) = y
  refine New_spec (hc.le hle1) hl (fun h => by omega) ?_
  intro _ _ _ bp Fp m2 hle2 hfp p
  refine FT.new p (hle1.trans hle2) (fun b e => hle1.new (hfp b e)) ?_
  intro bf F G m3 hle3 hT _ _
  dsimp only [Cont]
  refine UnP.mk ?_
  refine BrNf rfl ?_
  refine Br.f rfl ?_
  refine Br.f rfl ?_
  refine NzI.mk (by omega) ?_
  obtain ⟨ks', log', ok, hgo⟩ : ∃ ks' log' ok, goP (fun _ => false) 100 (pgs w x (npg w x y)) [] [] = (ks', log', ok) := ⟨_, _, _, rfl⟩
  have hok := goP_ok (most := 100) (pgs w x (npg w x y)) [] []
  have hn := npg_le2 (w := w) (a := x) (b := y) (by omega) (by omega)
  have hmem := goP_mem (most := 100) (pgs w x (npg w x y)) [] [] (by rw [pgs_len]; simp; omega)
  rw [hgo] at hok hmem
  have hok : ok = true := hok
  refine Bytes_spec hT.fl (a := x) (b := y) (by omega) (by omega) (by simp) hgo ?_ (fun h => by rw [hok] at h; cases h)
  intro _ F4 G4 m4 sa sc ch4 gF4 gG4 inG4 hfl4 own4 fr4
  have hT4 := hT.next ch4 gF4 gG4 hfl4
  have hs1 := hT4.fl.s1
  have hcn := cnt_le bs.length hs1
  have hcn0 := cnt_nn bs.length hs1
  refine ⟨fun N ya yl yc y9 y10 y12 y13 y14 y15a y15l y15c y16 aa al ac i mm => ya = a ∧ yl = l ∧ yc = c ∧ y9 = (w : Int) ∧ y10 = some ⟨bp, 0, none⟩ ∧ y12 = some ⟨bf, 0, none⟩ ∧ y13 = (x : Int) ∧ y14 = (y : Int) ∧ y15a = sa ∧ y15l = y - x ∧ y15c = sc ∧ y16 = 0 ∧
    Le m4 mm ∧ Fresh m4 aa ∧ ∃ j : Nat, i = (j : Int) ∧ al = j ∧ N = (cnt bs.length (w : Int)).toNat - j ∧ j ≤ (cnt bs.length (w : Int)).toNat ∧ Own mm T_int 1 aa j ac (ints ((List.range j).map fun (j : Nat) => (j : Int))), (cnt bs.length (w : Int)).toNat,
    ⟨rfl, rfl, rfl, rfl, rfl, rfl, rfl, rfl, rfl, rfl, rfl, rfl, Le.refl _, Fresh.none _, 0, rfl, rfl, rfl, by omega, Own.nil _ _ _⟩, ?_⟩
  rintro N ya yl yc y9 y10 y12 y13 y14 y15a y15l y15c y16 aa al ac i mm ⟨rfl, rfl, rfl, rfl, rfl, rfl, rfl, rfl, rfl, rfl, rfl, rfl, hle, hfr, j, rfl, rfl, rfl, hj, hown⟩
  have hTT := hT4.up hle
  refine hTT.count ?_
  intro m5 hle5
  dsimp only [Cont]
  refine UnI.mk ?_
  have hown5 := hown.le hle5
  refine BrD (fun hlt => ?_) (fun hge => ?_)
  · refine push_one eInt hown5 rfl (by omega) (by omega) ?_
    intro a' c' m' hch ho hb
    refine UnS.mk ?_
    have hu : ints ((List.range al).map fun (j : Nat) => (j : Int)) ++ [.int .i64 (al : Int)] = ints ((List.range (al + 1)).map fun (j : Nat) => (j : Int)) := by rw [← range_succ_ints]; simp [ints]
    rw [hu] at ho
    refine ⟨(cnt bs.length (w : Int)).toNat - (al + 1), by omega, rfl, rfl, rfl, rfl, rfl, rfl, rfl, rfl, rfl, rfl, rfl, rfl, hch.to_le (hle.trans hle5) (fun b e => hfr b e), ?_, al + 1, ?_, rfl, rfl, by omega, ho⟩
    · rcases hb with hb | hb
      · intro b e; exact hfr b (hb ▸ e)
      · exact Fresh.le (hle.trans hle5) hb
    · rw [wi (by omega) (by omega)]; omega
  · have hjj : al = (cnt bs.length (w : Int)).toNat := by omega
    subst hjj
    refine keeps_k2 (hTT.up hle5) hc hl (by omega) (by omega) (by omega) (by omega) (fun i hi => hmem i (.inr hi)) ?_ hown5 ?_
    · have o4 : Out m4 F4 y15a (u8s (seg bs x y)) := ⟨own4.cells, fun b e => ⟨(fr4 b e).2.1, own4.live b e⟩⟩
      exact (o4.up hle).up hle5
    · exact fun b e => ⟨fun hF => hT4.fl.lv b (.inl hF) (hfr b e), hown5.live b e⟩
theorem FileKeeps_arg {W : World} {v0 v1 v2 v3 : Value} (a0 : Arg P W T_sl_uint8 v0) (a1 : Arg P W T_uint8 v1) (a2 : Arg P W T_uint16 v2) (a3 : Arg P W T_uint16 v3) :
    HC P eyotlaw5_FileKeeps.id #[v0, v1, v2, v3] (heapM W) (Fine (heapM W)) := by
  have num : ∀ {v : Value}, Arg P W T_uint16 v → ∃ n : Nat, v = .int .u16 (n : Int) ∧ n < 65536 := by
    intro v h
    obtain ⟨n, rfl, hw⟩ := h.int (k := .u16) (by kernel_rfl)
    have hn := wf_u16 hw
    exact ⟨n.toNat, by rw [Int.toNat_of_nonneg hn.1], by omega⟩
  obtain ⟨a, l, c, bs, rfl, hlc, hl, _, hx⟩ := a0.u8s (e := T_uint8) (by kernel_rfl) (by kernel_rfl)
  obtain ⟨n1, rfl, h1⟩ := num8 a1
  obtain ⟨n2, rfl, h2⟩ := num a2
  obtain ⟨n3, rfl, h3⟩ := num a3
  exact FileKeeps_m hx (by rw [List.length_take]; omega) h1 h2 h3
end Go.E
