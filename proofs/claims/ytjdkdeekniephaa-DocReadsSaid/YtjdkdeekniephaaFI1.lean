/- A file through pages: its state, and one page. -/
import Derived.Test.YtjdkdeekniephaaPG3
import Derived.Test.YtjdkdeekniephaaCCB
import Derived.Test.YtjdkdeekniephaaCA1
set_option linter.unusedVariables false
set_option maxRecDepth 20000
set_option linter.unusedSimpArgs false
namespace Go.E
open Go.H
attribute [local irreducible] BiN MkS ConvN LookN MapUpN CallV HC

theorem Size_spec {m : Mem} {F : Nat → Prop} {bp : Nat} {bs : List UInt8} {size : Int} {f : Int → Bool} {log : List Int} (hp : Pg m F bp bs size f log) {R : Ending → Mem → Prop}
    (h : ∀ m', Le m m' → R (.returned (.int .i64 size)) m') : HC P page_Pages_Size.id #[.pointer (some ⟨bp, 0, none⟩)] m R := by
  refine page_Pages_Size.ok _ _ _ ?_
  intro bn hbn
  have hle : Le m (m.set bn (.cells #[.pointer (some ⟨bp, 0, none⟩)] T_ptr_page_Pages (0, 0))) := Le.set hbn _
  obtain ⟨⟨ba, bl, bc, fa, ra, rl, rc, h1, h2, h3, h4, h5, h6, h7⟩, _, s1, s2, l1⟩ := hp.le hle
  refine safe_int (R0 := fun e m' => e = .returned (.int .i64 size) ∧ m' = m.set bn (.cells #[.pointer (some ⟨bp, 0, none⟩)] T_ptr_page_Pages (0, 0))) (gn := page_Pages_Size_1.fn) (by kernel_rfl) (by kernel_rfl) (by kernel_rfl) ?_ ?_
  · refine page_Pages_Size_1.ok _ _ _ _ ?_
    refine LdV.of (set_same m bn (.cells #[.pointer (some ⟨bp, 0, none⟩)] T_ptr_page_Pages (0, 0))) (v := .pointer (some ⟨bp, 0, none⟩)) rfl ?_
    exact LdV.of h1 rfl ⟨rfl, rfl⟩
  · rintro e m' ⟨rfl, rfl⟩
    exact .inl ⟨_, rfl, h _ hle⟩

/-- A key is used. -/
def useK (i : Int) (ks : List Int) : List Int := i :: ks.filter (fun x => decide (x ≠ i))
/-- A key is put. -/
def putK (most i : Int) (ks : List Int) : List Int := (useK i ks).take (max most 1).toNat
theorem useK_nd {i : Int} {ks : List Int} (h : ks.Nodup) : (useK i ks).Nodup := front_nodup h
theorem putK_nd {most i : Int} {ks : List Int} (h : ks.Nodup) : (putK most i ks).Nodup := (useK_nd h).sublist (List.take_sublist _ _)
theorem mem_useK {x i : Int} {ks : List Int} : x ∈ useK i ks ↔ x = i ∨ x ∈ ks := by
  unfold useK
  rw [List.mem_cons, List.mem_filter, decide_eq_true_eq]
  constructor
  · rintro (h | ⟨h, _⟩)
    · exact .inl h
    · exact .inr h
  · rintro (h | h)
    · exact .inl h
    · by_cases e : x = i
      · exact .inl e
      · exact .inr ⟨h, e⟩
theorem useK_len {i : Int} {ks : List Int} (hn : ks.Nodup) (h : i ∈ ks) : (useK i ks).length = ks.length := by
  obtain ⟨j, hj⟩ := List.getElem?_of_mem h
  have := erase_filter hn hj
  unfold useK
  rw [List.length_cons, ← this, List.length_eraseIdx_of_lt]
  · have : j < ks.length := by
      rcases Nat.lt_or_ge j ks.length with h | h
      · exact h
      · rw [List.getElem?_eq_none h] at hj; cases hj
    omega
  · rcases Nat.lt_or_ge j ks.length with h | h
    · exact h
    · rw [List.getElem?_eq_none h] at hj; cases hj

/-- A row of memory that holds a page. -/
def Row (m : Mem) (G : Nat → Prop) (bs : List UInt8) (size i : Int) (v : ZB.A) : Prop :=
  v.2.1 = (pg bs size i).length ∧ v.2.1 ≤ v.2.2 ∧ CellsAt m v.1 (u8s (pg bs size i)) ∧ ∀ b, blk v.1 = some b → G b
theorem Row.chg {S : Nat → Prop} {m m' : Mem} {G G' : Nat → Prop} {bs : List UInt8} {size i : Int} {v : ZB.A} (h : Row m G bs size i v) (hc : Chg S m m') (hn : ∀ b, G b → ¬ S b) (hg : ∀ b, G b → G' b) : Row m' G' bs size i v :=
  ⟨h.1, h.2.1, h.2.2.1.chg hc (fun b e => hn b (h.2.2.2 b e)), fun b e => hg b (h.2.2.2 b e)⟩

/-- A *File: its block, its pages, what they spell, how great one is, which fail, which were read, how many are kept, which are. -/
structure Fl (m : Mem) (F G : Nat → Prop) (bf bp : Nat) (bs : List UInt8) (size : Int) (f : Int → Bool) (log : List Int) (most : Int) (ks : List Int) : Prop where
  ex : ∃ (Fp Fc : Nat → Prop) (bc : Nat) (es : List (Int × ZB.A)), Pg m Fp bp bs size f log ∧ ZB.Ca m Fc bc most es ∧ keysOf es = ks ∧ (∀ b, Fp b → F b) ∧ (∀ b, Fc b → F b) ∧ (∀ b, Fp b → ¬ Fc b) ∧
    m bf = some (.cells #[.pointer (some ⟨bp, 0, none⟩), .pointer (some ⟨bc, 0, none⟩)] T_file_File (0, 0)) ∧
    ∀ e ∈ es, 0 ≤ e.1 ∧ e.1 < cnt bs.length size ∧ Row m G bs size e.1 e.2
  gf : G bf
  dis : ∀ b, F b → ¬ G b
  lv : ∀ b, F b ∨ G b → m b ≠ none
  nd : ks.Nodup
  len : ((ks.length : Nat) : Int) ≤ max most 1
section
variable {m m' : Mem} {F G : Nat → Prop} {bf bp : Nat} {bs : List UInt8} {size : Int} {f : Int → Bool} {log : List Int} {most : Int} {ks : List Int}
theorem Fl.chg {S : Nat → Prop} (h : Fl m F G bf bp bs size f log most ks) (hc : Chg S m m') (h1 : ∀ b, F b → ¬ S b) (h2 : ∀ b, G b → ¬ S b) : Fl m' F G bf bp bs size f log most ks := by
  obtain ⟨⟨Fp, Fc, bc, es, p, c, k, i1, i2, i3, hf, he⟩, gf, dis, lv, nd, len⟩ := h
  exact ⟨⟨Fp, Fc, bc, es, p.chg hc (fun b e => h1 b (i1 b e)), c.chg hc (fun b e => h1 b (i2 b e)), k, i1, i2, i3, hc.eq _ _ hf (h2 _ gf), fun e x => ⟨(he e x).1, (he e x).2.1, (he e x).2.2.chg hc h2 (fun _ h => h)⟩⟩, gf, dis, fun b e => hc.live b (lv b e), nd, len⟩
theorem Fl.le (h : Fl m F G bf bp bs size f log most ks) (k : Le m m') : Fl m' F G bf bp bs size f log most ks := h.chg (k.chg fun _ => False) (fun _ _ h => h) (fun _ _ h => h)
/-- How many keys there may be. -/
theorem keys_bound {ks : List Int} {n : Int} (hn : ks.Nodup) (h : ∀ k ∈ ks, 0 ≤ k ∧ k < n) : ((ks.length : Nat) : Int) ≤ max n 0 := by
  have : ks.Subset ((List.range n.toNat).map fun (j : Nat) => (j : Int)) := by
    intro k hk
    have := h k hk
    rw [List.mem_map]
    exact ⟨k.toNat, List.mem_range.mpr (by omega), by omega⟩
  have := hn.length_le_of_subset this
  simp at this
  omega
theorem Fl.small (h : Fl m F G bf bp bs size f log most ks) : ks.length ≤ 4000 := by
  obtain ⟨⟨Fp, Fc, bc, es, p, c, k, i1, i2, i3, hf, he⟩, gf, dis, lv, nd, len⟩ := h
  have hb := keys_bound (n := cnt bs.length size) nd (by
    intro x hx
    rw [← k] at hx
    unfold keysOf at hx
    rw [List.mem_map] at hx
    obtain ⟨e, he1, rfl⟩ := hx
    exact ⟨(he e he1).1, (he e he1).2.1⟩)
  have h1 := cnt_le bs.length p.s1
  have h2 := p.l1
  omega

theorem putL_mem {k most : Int} {v : ZB.A} {es : List (Int × ZB.A)} {e : Int × ZB.A} (h : e ∈ putL most k v es) : e = (k, v) ∨ e ∈ es := by
  have hd : ∀ e, e ∈ dropL k es → e ∈ es := by
    intro e he
    unfold dropL at he
    split at he
    · exact List.mem_of_mem_eraseIdx he
    · exact he
  have h' : e ∈ (k, v) :: dropL k es := by
    unfold putL at h
    split at h
    · exact h
    · exact List.dropLast_subset _ h
  rcases List.mem_cons.mp h' with h' | h'
  · exact .inl h'
  · exact .inr (hd e h')
theorem getL_mem {k : Int} {es : List (Int × ZB.A)} {e : Int × ZB.A} (h : e ∈ getL k es) : e ∈ es := by
  unfold getL at h
  split at h
  · split at h
    · rename_i x hx
      rcases List.mem_cons.mp h with rfl | h
      · exact List.mem_of_getElem? hx
      · exact List.mem_of_mem_eraseIdx h
    · exact h
  · exact h

/-- One page. -/
theorem page_spec (h : Fl m F G bf bp bs size f log most ks) {i : Int} (h0 : 0 ≤ i) (h1 : i < cnt bs.length size) (hlog : log.length ≤ 1000000) {R : Ending → Mem → Prop}
    (kept : i ∈ ks → ∀ F' m' v, Chg F m m' → (∀ b, F' b → F b ∨ m b = none) → Fl m' F' G bf bp bs size f log most (useK i ks) → Row m' G bs size i v → R (.returned (.slice v.1 v.2.1 v.2.2)) m')
    (bad : i ∉ ks → f i = true → ∀ F' m', Chg F m m' → (∀ b, F' b → F b ∨ m b = none) → Fl m' F' G bf bp bs size f (log ++ [i]) most ks → R (.panicked [{ v := .iface T_api_Errno (.int .i64 11), recovered := false }]) m')
    (read : i ∉ ks → f i = false → ∀ F' G' m' v, Chg F m m' → (∀ b, F' b → F b ∨ m b = none) → (∀ b, G b → G' b) → (∀ b, G' b → G b ∨ m b = none) → Fl m' F' G' bf bp bs size f (log ++ [i]) most (putK most i ks) → Row m' G' bs size i v → R (.returned (.slice v.1 v.2.1 v.2.2)) m') :
    HC P file_File_page.id #[.pointer (some ⟨bf, 0, none⟩), .int .i64 i] m R := by
  have hsm := h.small
  obtain ⟨⟨Fp, Fc, bc, es, p, c, k, i1, i2, i3, hf, he⟩, gf, dis, lv, nd, len⟩ := h
  have hes : es.length ≤ 4000 := by rw [← keysOf_len, k]; exact hsm
  have hkn : (keysOf es).Nodup := by rw [k]; exact nd
  have hgc : ∀ b, G b → ¬ Fc b := fun b e x => dis b (i2 b x) e
  refine file_File_page.ok _ _ _ _ ?_
  refine LdV.s1 hf ?_
  refine UnP.mk ?_
  by_cases hk : i ∈ ks
  · obtain ⟨j, hj⟩ := ix_of_mem (es := es) (by rw [k]; exact hk)
    obtain ⟨_, _, x, hx, hxk⟩ := ixF_some hj
    rw [Nat.sub_zero] at hx
    refine ZB.Get_some c (by omega) hj hx ?_
    intro F' m' hch hF hc
    have hrow := (he x (List.mem_of_getElem? hx)).2.2
    rw [hxk] at hrow
    have hrow' := hrow.chg hch hgc (fun _ h => h)
    refine Br.t rfl ?_
    refine kept hk (fun b => Fp b ∨ F' b) m' x.2 (hch.mono i2) ?_ ⟨⟨Fp, F', bc, getL i es, p.chg hch i3, hc, ?_, fun b e => .inl e, fun b e => .inr e, ?_, hch.eq _ _ hf (hgc _ gf), ?_⟩, gf, ?_, ?_, useK_nd nd, ?_⟩ hrow'
    · rintro b (e | e)
      · exact .inl (i1 b e)
      · exact (hF b e).imp (i2 b) id
    · rw [keys_get hkn hj, k]; rfl
    · intro b e x
      rcases hF b x with y | y
      · exact i3 b e y
      · exact p.lv b e y
    · intro e hx
      have := he e (getL_mem hx)
      exact ⟨this.1, this.2.1, this.2.2.chg hch hgc (fun _ h => h)⟩
    · rintro b (e | e) g
      · exact dis b (i1 b e) g
      · rcases hF b e with y | y
        · exact hgc b g y
        · exact lv b (.inr g) y
    · rintro b ((e | e) | e)
      · exact hch.live b (lv b (.inl (i1 b e)))
      · exact hc.lv b e
      · exact hch.live b (lv b (.inr e))
    · rw [useK_len nd hk]; exact len
  · have hj := ix_of_not (es := es) (k := i) (by rw [k]; exact hk)
    refine ZB.Get_none c (by omega) hj ?_
    intro m1 hle1
    refine Br.f rfl ?_
    refine LdV.s0 (hle1 _ _ hf) ?_
    refine UnP.mk ?_
    have p1 := p.le hle1
    have c1 := c.le hle1
    refine Read_in p1 h0 h1 hlog ?_ ?_
    · intro hfi F' m' hch hF hp'
      refine BrNt (by decide) ?_
      have hch' : Chg Fp m m' := (hle1.chg _).trans hch (fun _ _ h => h)
      have hF' : ∀ b, F' b → Fp b ∨ m b = none := fun b e => (hF b e).imp id (fun x => hle1.new x)
      have hcp : ∀ b, Fc b → ¬ Fp b := fun b e x => i3 b x e
      have hgp : ∀ b, G b → ¬ Fp b := fun b e x => dis b (i1 b x) e
      refine bad hk hfi (fun b => F' b ∨ Fc b) m' (hch'.mono i1) ?_ ⟨⟨F', Fc, bc, es, hp', c.chg hch' hcp, k, fun b e => .inl e, fun b e => .inr e, ?_, hch'.eq _ _ hf (hgp _ gf), ?_⟩, gf, ?_, ?_, nd, len⟩
      · rintro b (e | e)
        · exact (hF' b e).imp (i1 b) id
        · exact .inl (i2 b e)
      · intro b e x
        rcases hF' b e with y | y
        · exact i3 b y x
        · exact c.lv b x y
      · intro e hx
        have := he e hx
        exact ⟨this.1, this.2.1, this.2.2.chg hch' hgp (fun _ h => h)⟩
      · rintro b (e | e) g
        · rcases hF' b e with y | y
          · exact hgp b g y
          · exact lv b (.inr g) y
        · exact hgc b g e
      · rintro b ((e | e) | e)
        · exact hp'.lv b e
        · exact hch'.live b (lv b (.inl (i2 b e)))
        · exact hch'.live b (lv b (.inr e))
    · intro hfi F' m2 a' c' hch hF hp' ho hfr hna
      refine BrNf rfl ?_
      have hch2 : Chg Fp m m2 := (hle1.chg _).trans hch (fun _ _ h => h)
      have hF' : ∀ b, F' b → Fp b ∨ m b = none := fun b e => (hF b e).imp id (fun x => hle1.new x)
      have hcp : ∀ b, Fc b → ¬ Fp b := fun b e x => i3 b x e
      have hgp : ∀ b, G b → ¬ Fp b := fun b e x => dis b (i1 b x) e
      have hfr0 : ∀ b, blk a' = some b → m b = none := fun b e => hle1.new (hfr b e)
      refine LdV.s1 (hch2.eq _ _ hf (hgp _ gf)) ?_
      refine UnP.mk ?_
      have c2 := c.chg hch2 hcp
      refine ZB.Put_spec c2 (by omega) i (a', (pg bs size i).length, c') ?_
      intro Fc' m3 hch3 hFc hc3
      have hla : ∀ b, blk a' = some b → m2 b ≠ none := ho.live
      have hnc : ∀ b, blk a' = some b → ¬ Fc b := fun b e x => c.lv b x (hfr0 b e)
      have hFc0 : ∀ b, Fc' b → Fc b ∨ m b = none := fun b e => (hFc b e).imp id (fun x => hch2.new x)
      have hchF : Chg F m m3 := (hch2.mono i1).trans (hch3.mono i2) (fun _ _ h => h)
      have hpc : ∀ b, F' b → ¬ Fc b := by
        intro b e x
        rcases hF' b e with y | y
        · exact i3 b y x
        · exact c.lv b x y
      have hg3 : ∀ b, G b → ¬ F b := fun b g x => dis b x g
      have hrow : Row m3 (fun b => G b ∨ blk a' = some b) bs size i (a', (pg bs size i).length, c') :=
        ⟨rfl, ho.cap, ho.cells.chg hch3 (fun b e => hnc b e), fun b e => .inr e⟩
      refine read hk hfi (fun b => F' b ∨ Fc' b) (fun b => G b ∨ blk a' = some b) m3 (a', (pg bs size i).length, c') hchF ?_ (fun b e => .inl e) (fun b e => e.imp id (hfr0 b))
        ⟨⟨F', Fc', bc, putL most i (a', (pg bs size i).length, c') es, hp'.chg hch3 hpc, hc3, ?_, fun b e => .inl e, fun b e => .inr e, ?_, hchF.eq _ _ hf (hg3 _ gf), ?_⟩, .inl gf, ?_, ?_, putK_nd nd, ?_⟩ hrow
      · rintro b (e | e)
        · exact (hF' b e).imp (i1 b) id
        · exact (hFc0 b e).imp (i2 b) id
      · have hlen : ((es.length : Nat) : Int) ≤ max most 1 := by rw [← keysOf_len, k]; exact len
        rw [keys_put hkn hlen, k]; rfl
      · intro b e x
        rcases hFc b x with y | y
        · exact hpc b e y
        · exact hp'.lv b e y
      · intro e hx
        rcases putL_mem hx with rfl | hx
        · exact ⟨h0, h1, hrow⟩
        · have := he e hx
          exact ⟨this.1, this.2.1, this.2.2.chg hchF hg3 (fun b e => .inl e)⟩
      · rintro b e (g | g)
        · rcases e with e | e
          · rcases hF' b e with y | y
            · exact hgp b g y
            · exact lv b (.inr g) y
          · rcases hFc0 b e with y | y
            · exact hgc b g y
            · exact lv b (.inr g) y
        · rcases e with e | e
          · exact hna b g e
          · rcases hFc b e with y | y
            · exact hnc b g y
            · exact hla b g y
      · rintro b ((e | e) | (e | e))
        · exact hch3.live b (hp'.lv b e)
        · exact hc3.lv b e
        · exact hchF.live b (lv b (.inr e))
        · exact hch3.live b (hla b e)
      · unfold putK; rw [List.length_take]; omega
end
end Go.E
