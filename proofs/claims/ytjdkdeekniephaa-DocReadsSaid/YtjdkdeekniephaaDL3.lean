/- Layer 7: DocAdded. -/
import Derived.Test.YtjdkdeekniephaaDL2
set_option linter.unusedVariables false
set_option linter.unusedSimpArgs false
set_option maxRecDepth 20000
namespace Go.E
open Go.H Go.E.Pz
attribute [local irreducible] BiN MkS ConvN LookN MapUpN CallV HC

/-- Which pages pieces ask for: those that hold a byte of them. -/
theorem fpg_iff {w : Nat} {x : Int} (hw : 1 ≤ w) {ps : List Pc} (h : ∀ p ∈ ps, p.Ok) : x ∈ fpg w ps ↔ ∃ i : Nat, (false, (i : Int)) ∈ byt ps ∧ x = ((i / w : Nat) : Int) := by
  unfold fpg byt
  rw [List.mem_flatMap]
  constructor
  · rintro ⟨p, hp, hx⟩
    have hok := h p hp
    unfold Pc.Ok at hok
    unfold ppg at hx
    split at hx
    · cases hx
    · rename_i ha
      obtain ⟨i, h1, h2, rfl⟩ := (pgs_iff hw).mp hx
      unfold Pz.Pc.lo at h1
      unfold Pz.Pc.hi at h2
      refine ⟨i, ?_, rfl⟩
      rw [List.mem_flatMap]
      refine ⟨p, hp, ?_⟩
      unfold Pc.bytes
      rw [List.mem_map]
      exact ⟨i - p.f.toNat, by rw [List.mem_range]; omega, by rw [Prod.mk.injEq]; exact ⟨by simpa using ha, by omega⟩⟩
  · rintro ⟨i, hi, rfl⟩
    rw [List.mem_flatMap] at hi
    obtain ⟨p, hp, hi⟩ := hi
    have hok := h p hp
    unfold Pc.Ok at hok
    unfold Pc.bytes at hi
    rw [List.mem_map] at hi
    obtain ⟨j, hj, he⟩ := hi
    rw [List.mem_range] at hj
    rw [Prod.mk.injEq] at he
    refine ⟨p, hp, ?_⟩
    unfold ppg
    rw [if_neg (by rw [he.1]; decide)]
    exact (pgs_iff hw).mpr ⟨i, by unfold Pz.Pc.lo; omega, by unfold Pz.Pc.hi; omega, rfl⟩
section
variable {ms mm m' : Mem} {F G F' G' : Nat → Prop} {bf bp : Nat} {bs : List UInt8} {size : Int} {f : Int → Bool} {log : List Int} {most : Int} {ks : List Int} {R : Ending → Mem → Prop}
theorem FT.fault (h : FT ms mm F G bf bp bs size f log most ks) {la : Option Addr} {ll lc : Nat} {ls : List Int} (hc : CellsAt mm la (ints ls)) (hl : ls.length = ll) (hlb : ll ≤ 1000000000) (hla : ∀ b, blk la = some b → ¬ F b ∧ mm b ≠ none)
    (k : ∀ F' m', Chg F mm m' → (∀ b, F' b → F b ∨ mm b = none) → FT ms m' F' G bf bp bs size (fun x => ls.contains x) log most ks → R (.returned (.tuple #[])) m') : HC P page_Pages_Fault.id #[.pointer (some ⟨bp, 0, none⟩), .slice la ll lc] mm R := by
  obtain ⟨Fp, p, hin, on⟩ := h.fl.on
  refine Fault_spec p hc hl hlb (fun b e => ⟨fun x => (hla b e).1 (hin b x), (hla b e).2⟩) ?_
  intro Fp' m' hch hF hp
  obtain ⟨F', hf, hc', hg⟩ := on Fp' m' _ _ hch hF hp
  exact k F' m' hc' hg (h.next hc' hg (fun b e => .inl e) hf)
theorem FT.clear (h : FT ms mm F G bf bp bs size f log most ks)
    (k : ∀ F' m', Chg F mm m' → (∀ b, F' b → F b ∨ mm b = none) → FT ms m' F' G bf bp bs size f [] most ks → R (.returned (.tuple #[])) m') : HC P page_Pages_Clear.id #[.pointer (some ⟨bp, 0, none⟩)] mm R := by
  obtain ⟨Fp, p, hin, on⟩ := h.fl.on
  refine Clear_spec p ?_
  intro m' hch hp
  obtain ⟨F', hf, hc', hg⟩ := on Fp m' _ _ hch (fun b e => .inl e) hp
  exact k F' m' hc' hg (h.next hc' hg (fun b e => .inl e) hf)
theorem FT.reads (h : FT ms mm F G bf bp bs size f log most ks) (hlog : log.length ≤ 1000000000)
    (k : ∀ a' c' m', Le mm m' → Own m' T_int 1 a' log.length c' (ints log) → Fresh mm a' → R (.returned (.slice a' log.length c')) m') : HC P page_Pages_Reads.id #[.pointer (some ⟨bp, 0, none⟩)] mm R := by
  obtain ⟨Fp, p, hin⟩ := h.fl.pages
  exact Reads_spec p hlog k
theorem FT.count (h : FT ms mm F G bf bp bs size f log most ks) (k : ∀ m', Le mm m' → R (.returned (.int .i64 (cnt bs.length size))) m') : HC P page_Pages_Count.id #[.pointer (some ⟨bp, 0, none⟩)] mm R := by
  obtain ⟨Fp, p, hin⟩ := h.fl.pages
  exact Count_spec p k
end
theorem mid_cut {A s C : List UInt8} {k : Nat} (h : A.length = k) : ((A ++ s ++ C).take (k + s.length)).drop k = s := by
  rw [List.append_assoc, ← h, List.take_length_add_append, List.drop_left, List.take_left]
theorem mid_get {A s C : List UInt8} {k : Nat} (h : A.length = k) (hs : 0 < s.length) : (A ++ s ++ C)[k]? = s[0]? := by
  rw [List.append_assoc, List.getElem?_append_right (by omega), List.getElem?_append_left (by omega), h, Nat.sub_self]
theorem DocAdded_m {m : Mem} {a : Option Addr} {l c : Nat} {bs : List UInt8} {a' : Option Addr} {l' c' : Nat} {s : List UInt8} {n1 n2 : Nat} (hc : CellsAt m a (u8s bs)) (hl : bs.length = l) (hc' : CellsAt m a' (u8s s)) (hl' : s.length = l') (h1 : n1 < 256) (h2 : n2 < 256) :
    HC P eyotlaw7_DocAdded.id #[.slice a l c, .slice a' l' c', .int .u8 (n1 : Int), .int .u8 (n2 : Int)] m (Fine m) := by
  refine eyotlaw7_DocAdded.ok _ _ _ _ _ _ _ _ _ _ ?_
  refine begun_spec ?_
  intro m1 hle1
  dsimp only [Cont]
  refine UnB.mk ?_
  refine Br.f rfl ?_
  refine BrE (fun _ => ⟨rfl, hle1⟩) (fun h0 => ?_)
  refine BrD (fun _ => ⟨rfl, hle1⟩) (fun hb1 => ?_)
  refine BrE (fun _ => ⟨rfl, hle1⟩) (fun h0' => ?_)
  refine BrD (fun _ => ⟨rfl, hle1⟩) (fun hb2 => ?_)
  have w1 : ∀ n : Nat, n < 256 → IntKind.i64.wrap ((n : Nat) : Int) = (n : Int) := fun n h => wi (by omega) (by omega)
  rw [w1 n1 h1, w1 n2 h2]
  have e1 : IntKind.i64.wrap (1 + Int.tmod (n2 : Int) 20) = ((1 + n2 % 20 : Nat) : Int) := by
    rw [show (20 : Int) = ((20 : Nat) : Int) from rfl, tmod_nat, wi (by omega) (by omega)]; omega
  have e2 : Int.tmod (n1 : Int) (((l : Nat) : Int) + 1) = ((n1 % (l + 1) : Nat) : Int) := by rw [show ((l : Nat) : Int) + 1 = ((l + 1 : Nat) : Int) by omega, tmod_nat]
  have hat : n1 % (l + 1) < l + 1 := Nat.mod_lt _ (by omega)
  rw [e1, wi (n := ((l : Nat) : Int) + 1) (by omega) (by omega), e2]
  generalize n1 % (l + 1) = k at hat
  generalize hw : 1 + n2 % 20 = w
  refine New_spec (hc.le hle1) hl (fun h => by omega) ?_
  intro _ _ _ bp Fp m2 hle2 hfp p
  refine BrNf rfl ?_
  refine Br.f rfl ?_
  refine TS.new (ms := m2) (n := ((l : Nat) : Int)) (B := 10000) (by omega) (by decide) ?_
  intro bt T m3 hS
  dsimp only [Cont]
  refine UnP.mk ?_
  refine NzI.mk (by omega) ?_
  have hm2 := hle1.trans hle2
  have hi0 : Ins bs.length [] (byt (newL ((l : Nat) : Int))) := by rw [← hl]; exact ins_new _ []
  have hs0 : spl bs [] (byt (newL ((l : Nat) : Int))) = bs := by rw [← hl]; exact spl_new bs []
  have hok0 : ∀ p ∈ newL ((l : Nat) : Int), p.Ok := fun p hp => (hS.gd.ok p hp).1
  have hbt := ed_bytes (ps := newL ((l : Nat) : Int)) (ad := []) (a := (k : Int)) (b := (k : Int)) (s := s) hok0 (by omega)
  have hsp := spl_edit (base := bs) (a := (k : Int)) (b := (k : Int)) (s := s) hS.gd hi0 (by omega)
  rw [hs0] at hsp
  have hl4 : (byt (newL ((l : Nat) : Int))).length = l := new_len l
  have hTF : ∀ x, T x → ¬ Fp x := fun x e y => p.lv x y (hS.fr x e)
  have hfile : ∀ x ∈ byt (newL ((l : Nat) : Int)), x.1 = false := by
    intro x hx
    unfold newL at hx
    split at hx
    · rw [byt_cons, show byt [] = [] from rfl, List.append_nil] at hx
      unfold Pc.bytes at hx
      rw [List.mem_map] at hx
      obtain ⟨_, _, rfl⟩ := hx; rfl
    · simp [byt] at hx
  rw [← hl']
  refine hS.edit (a := (k : Int)) (b := (k : Int)) (s := s) (by omega) (by omega) (by rw [hl4]; omega) (hc'.le hm2) (by omega) (by omega) ?_
  intro T' m4 hch4 hT' hS5
  dsimp only [Cont]
  refine UnI.mk ?_
  have p3 := p.le hS.le
  refine DT.new (B0 := 0) (w := w) (p3.chg hch4 (fun b e x => hTF b x e)) (TS.base' hS5 hm2) (fun b e => hle1.new (hfp b e)) ?_ (ins_edit hS.gd hi0 (by omega)) ?_
  · intro b e z
    rcases hT' b e with x | x
    · exact hTF b x z
    · exact p3.lv b z x
  intro bd bf F G m5 hle5 _ hD
  dsimp only [Cont]
  refine UnP.mk ?_
  have hbase : ∀ x ∈ byt (newL ((l : Nat) : Int)), x ∈ byt (edL (newL ((l : Nat) : Int)) [] (k : Int) (k : Int) s) := by
    intro x hx
    rw [hbt]
    rw [← List.take_append_drop (k : Int).toNat (byt (newL ((l : Nat) : Int)))] at hx
    rcases List.mem_append.1 hx with h | h
    · exact List.mem_append_left _ (List.mem_append_left _ h)
    · exact List.mem_append_right _ h
  generalize edL (newL ((l : Nat) : Int)) [] (k : Int) (k : Int) s = ps at hsp hD hbt hbase
  have hlen : (byt ps).length = l + l' := by rw [← spl_len bs ([] ++ s), hsp]; simp; omega
  have hok : ∀ p ∈ ps, p.Ok := fun p hp => (hD.dx.gd.ok p hp).1
  have hw1 : 1 ≤ w := by omega
  -- what was added asks for no page
  have noPg : ∀ i j : Nat, k ≤ i → j ≤ k + l' → fpg w (cutL (i : Int) (j : Int) 0 ps) = [] := by
    intro i j hi hj
    rw [List.eq_nil_iff_forall_not_mem]
    intro x hx
    obtain ⟨q, hq, _⟩ := (fpg_iff hw1 (cut_ok hok)).mp hx
    rw [cut_bytes hok, hbt] at hq
    simp only [Int.sub_zero, Int.toNat_natCast] at hq
    obtain ⟨y, hy, hyq⟩ := List.getElem_of_mem hq
    have hq2 := List.getElem?_eq_getElem hy
    rw [hyq, List.getElem?_drop, List.getElem?_take, List.append_assoc, List.getElem?_append_right (by rw [List.length_take]; omega), List.length_take, hl4, Nat.min_eq_left (by omega)] at hq2
    split at hq2
    · rw [List.getElem?_append_left (by simp; omega), List.getElem?_map] at hq2
      cases hr : (List.range s.length)[i + y - k]? with
      | none => rw [hr] at hq2; cases hq2
      | some z => rw [hr] at hq2; cases hq2
    · cases hq2
  have hbl : bs.length ≤ 4000 := by omega
  have hcl := cnt_le bs.length (size := (w : Int)) (by omega)
  have hcn := cnt_nn bs.length (size := (w : Int)) (by omega)
  obtain ⟨n, hn⟩ : ∃ n : Nat, (n : Int) = cnt bs.length (w : Int) := ⟨(cnt bs.length (w : Int)).toNat, by omega⟩
  rw [← hl]
  -- all pages
  refine ⟨fun N x0a x0l x0c x1a x1l x1c x9 x12 x13 la ll lc i mm => x0a = a ∧ x0l = bs.length ∧ x0c = c ∧ x1a = a' ∧ x1l = s.length ∧ x1c = c' ∧ x9 = some ⟨bp, 0, none⟩ ∧ x12 = (k : Int) ∧ x13 = some ⟨bd, 0, none⟩ ∧ Le m5 mm ∧ Fresh m5 la ∧
    ∃ j : Nat, i = (j : Int) ∧ j ≤ n ∧ N = n - j ∧ ll = j ∧ Own mm T_int 1 la ll lc (ints ((List.range j).map fun (j : Nat) => (j : Int))), n,
    ⟨rfl, rfl, rfl, rfl, rfl, rfl, rfl, rfl, rfl, Le.refl _, Fresh.none _, 0, rfl, by omega, by omega, rfl, Own.nil _ _ _⟩, ?_⟩
  rintro N x0a x0l x0c x1a x1l x1c x9 x12 x13 la ll lc i mm ⟨rfl, rfl, rfl, rfl, rfl, rfl, rfl, rfl, rfl, hle, hf, j, rfl, hj, rfl, rfl, hown⟩
  have hD1 := hD.up hle
  unfold eyotlaw7_DocAdded.l1B
  refine hD1.ft.count ?_
  intro m6 hle6
  dsimp only [Cont]
  refine UnI.mk ?_
  rw [← hn]
  have hD6 := hD1.up hle6
  have hown6 := Own.le hle6 hown
  refine BrD (fun hlt => ?_) (fun hge => ?_)
  · refine push_one eInt hown6 (v := .int .i64 (ll : Int)) rfl (by omega) (by decide) ?_
    intro a2 c2 m7 hch ho hg
    refine UnS.mk ?_
    refine ⟨n - (ll + 1), by omega, rfl, rfl, rfl, rfl, rfl, rfl, rfl, rfl, rfl, hch.to_le (hle.trans hle6) (fun b e => hf b e), ?_, ll + 1, ?_, by omega, rfl, rfl, ?_⟩
    · intro b e
      rcases hg with e2 | e2
      · exact hf b (e2 ▸ e)
      · exact Fresh.le (hle.trans hle6) e2 b e
    · rw [wi (by omega) (by omega)]; omega
    · rw [List.range_succ, List.map_append]
      unfold ints at ho ⊢
      rw [List.map_append]; exact ho
  have hjn : ll = n := by omega
  subst hjn
  unfold eyotlaw7_DocAdded.k2
  have hsep : ∀ b, blk la = some b → ¬ F b ∧ m6 b ≠ none := fun b e => ⟨fun x => hD.dx.fl.lv b (.inl x) (hf b e), hown6.live b e⟩
  refine hD6.ft.fault (ls := (List.range ll).map fun (j : Nat) => (j : Int)) hown6.cells (by simp) (by omega) hsep ?_
  intro F7 m7 ch7 gF7 hf7
  have hD7 := hD6.fnext ch7 gF7 hf7
  dsimp only [Cont]
  rw [wi (n := (k : Int) + ((s.length : Nat) : Int)) (by omega) (by omega), show (k : Int) + ((s.length : Nat) : Int) = ((k + s.length : Nat) : Int) by omega]
  refine DBytes_spec hD7.dx (a := k) (b := k + s.length) (ks' := []) (log' := []) (ok := true) (by omega) (by omega) (by simp) ?_ ?_ (fun h => by cases h)
  · rw [noPg k (k + s.length) (Nat.le_refl _) (by omega)]; rfl
  intro _ F8 G8 m8 sa sc ch8 gF8 gG8 _ hd8 own8 fr8
  have hD8 := hD7.next ch8 gF8 gG8 hd8
  refine DAt_spec hD8.dx (i := k) (ks' := []) (log' := []) (ok := true) (by omega) (by simp) ?_ ?_ (fun h => by cases h)
  · rw [noPg k (k + 1) (Nat.le_refl _) (by omega)]; rfl
  intro _ F9 G9 m9 v ch9 gF9 gG9 _ hd9 hv
  have hD9 := hD8.next ch9 gF9 gG9 hd9
  refine hD9.ft.reads (by simp) ?_
  intro ra rc m10 hle10 hro hrf
  dsimp only [Cont]
  refine UnS.mk ?_
  have hD10 := hD9.up hle10
  refine DLen_spec hD10.dx ?_
  intro m11 hle11
  dsimp only [Cont]
  refine UnI.mk ?_
  have hD11 := hD10.up hle11
  -- all bytes
  obtain ⟨ks', log', ok, hgo⟩ : ∃ ks' log' ok, goP (fun x => ((List.range ll).map fun (j : Nat) => (j : Int)).contains x) 5 (fpg w (cutL ((0 : Nat) : Int) (((byt ps).length : Nat) : Int) 0 ps)) [] [] = (ks', log', ok) := ⟨_, _, _, rfl⟩
  have hfail := goP_fails (f := fun x => ((List.range ll).map fun (j : Nat) => (j : Int)).contains x) (most := 5) (fpg w (cutL ((0 : Nat) : Int) (((byt ps).length : Nat) : Int) 0 ps)) [] [] (fun k hk => by cases hk)
  rw [hgo] at hfail
  have hno : ok ≠ true := by
    intro h
    have hall := hfail.mp h
    have hone : ((false, ((0 : Nat) : Int)) : Bool × Int) ∈ byt ps := by
      apply hbase
      unfold newL
      rw [if_pos (by omega), byt_cons]
      unfold Pc.bytes
      refine List.mem_append_left _ ?_
      rw [List.mem_map]
      exact ⟨0, by rw [List.mem_range]; simp only; omega, by simp⟩
    have := hall ((0 / w : Nat) : Int) ((fpg_iff hw1 (cut_ok hok)).mpr ⟨0, by rw [cut_bytes hok]; simpa using hone, rfl⟩)
    have hmem : ((0 / w : Nat) : Int) ∈ ((List.range ll).map fun (j : Nat) => (j : Int)) := by
      rw [Nat.zero_div, List.mem_map]
      refine ⟨0, ?_, rfl⟩
      rw [List.mem_range]
      have : (0 : Int) < cnt bs.length (w : Int) := by rw [cnt_lt (by omega)]; omega
      omega
    rw [List.contains_iff_mem.mpr hmem] at this
    cases this
  have hok2 : ok = false := by simpa using hno
  refine DBytes_spec hD11.dx (a := 0) (b := (byt ps).length) (by omega) (by omega) (by simp) hgo (fun h => absurd h hno) ?_
  intro _ F12 G12 m12 ch12 gF12 gG12 _ hd12
  have hD12 := hD11.next ch12 gF12 gG12 hd12
  refine BrEt rfl ?_
  have o8 : Out m8 F8 sa _ := ⟨own8.cells, fun b e => ⟨(fr8 b e).2.1, own8.live b e⟩⟩
  have o12 := (((o8.next ch9 gF9).up hle10).up hle11).next ch12 gF12
  have hcut : ((spl bs ([] ++ s) (byt ps)).take (k + s.length)).drop k = s := by
    rw [hsp, Int.toNat_natCast]
    exact mid_cut (by rw [List.length_take]; omega)
  rw [hcut] at o12
  refine ⟨s, by omega, o12.at_, ?_⟩
  refine ⟨s, rfl, hc'.le hD12.le, ?_⟩
  refine Br.t (beq_self_eq_true _) ?_
  refine BrEt rfl ?_
  refine IxS.u8s (hc'.le hD12.le) rfl (by omega) (by omega) ?_
  intro u hu
  refine UnI.mk ?_
  have hvu : v = u := by
    rw [hsp, Int.toNat_natCast, mid_get (by rw [List.length_take]; omega) (by omega)] at hv
    rw [show (0 : Int).toNat = 0 from rfl, hv] at hu
    cases hu; rfl
  subst hvu
  refine BrEt rfl ?_
  refine BrEt rfl ?_
  refine BrEt rfl ?_
  refine DLen_spec hD12.dx ?_
  intro m13 hle13
  dsimp only [Cont]
  refine UnI.mk ?_
  rw [hlen, wi (by omega) (by omega)]
  refine ⟨?_, hD12.le.trans hle13⟩
  rw [show ((l + l' : Nat) : Int) = ((bs.length : Nat) : Int) + ((s.length : Nat) : Int) by omega, beq_self_eq_true]
theorem DocAdded_arg {W : World} {v0 v1 v2 v3 : Value} (a0 : Arg P W T_sl_uint8 v0) (a1 : Arg P W T_sl_uint8 v1) (a2 : Arg P W T_uint8 v2) (a3 : Arg P W T_uint8 v3) :
    HC P eyotlaw7_DocAdded.id #[v0, v1, v2, v3] (heapM W) (Fine (heapM W)) := by
  obtain ⟨a, l, c, bs, rfl, hlc, hl, _, hx⟩ := a0.u8s (e := T_uint8) (by kernel_rfl) (by kernel_rfl)
  obtain ⟨a', l', c', bs', rfl, hlc', hl', _, hx'⟩ := a1.u8s (e := T_uint8) (by kernel_rfl) (by kernel_rfl)
  obtain ⟨n1, rfl, h1⟩ := num8 a2
  obtain ⟨n2, rfl, h2⟩ := num8 a3
  exact DocAdded_m hx (by rw [List.length_take]; omega) hx' (by rw [List.length_take]; omega) h1 h2
end Go.E
