import Derived.Test.YthkfeojdbneneaaPG5
set_option linter.unusedVariables false
namespace Go.E
open Go.H

/-- A run under way: the pages, and the law's own note of what was read. ms: what never turns. -/
structure Run (ms mm : Mem) (F : Nat → Prop) (bp : Nat) (bs : List UInt8) (size : Int) (f : Int → Bool) (log : List Int) (xa : Option Addr) (xl xc : Nat) (want : List Int) : Prop where
  le : Le ms mm
  pgs : Pg mm F bp bs size f log
  fr : ∀ b, F b → ms b = none
  no : ∀ b, blk xa = some b → ¬ F b
  own : Own mm T_int 1 xa xl xc (ints want)
  fresh : Fresh ms xa
section
variable {ms mm mm' : Mem} {F : Nat → Prop} {bp : Nat} {bs : List UInt8} {size : Int} {f : Int → Bool} {log : List Int} {xa : Option Addr} {xl xc : Nat} {want : List Int}
theorem Run.len (h : Run ms mm F bp bs size f log xa xl xc want) : want.length = xl := by
  have := h.own.1; simpa [ints] using this
theorem Run.mono (h : Run ms mm F bp bs size f log xa xl xc want) (k : Le mm mm') : Run ms mm' F bp bs size f log xa xl xc want :=
  ⟨h.le.trans k, h.pgs.le k, h.fr, h.no, Own.le k h.own, h.fresh⟩
/-- What turns is the pages' own, and something new. -/
theorem Run.turn (h : Run ms mm F bp bs size f log xa xl xc want)
    {F' : Nat → Prop} {f' : Int → Bool} {log' : List Int} (hch : Chg F mm mm') (hF' : ∀ b, F' b → F b ∨ mm b = none) (hp : Pg mm' F' bp bs size f' log') : Run ms mm' F' bp bs size f' log' xa xl xc want :=
  ⟨hch.to_le h.le h.fr, hp, fun b e => (hF' b e).elim (h.fr b) h.le.new, fun b e hx => (hF' b hx).elim (h.no b e) (h.own.live b e), h.own.chg hch (fun b e => h.no b e), h.fresh⟩
/-- A block of another's turns. -/
theorem Run.side (h : Run ms mm F bp bs size f log xa xl xc want) {S : Nat → Prop} (k : Chg S mm mm') (hs : ∀ b, S b → ms b = none ∧ ¬ F b ∧ blk xa ≠ some b) : Run ms mm' F bp bs size f log xa xl xc want :=
  ⟨k.to_le h.le (fun b e => (hs b e).1), h.pgs.chg k (fun b e hx => (hs b hx).2.1 e), h.fr, h.no, h.own.chg k (fun b e hx => (hs b hx).2.2 e), h.fresh⟩

theorem Run.push (h : Run ms mm F bp bs size f log xa xl xc want) (i : Int) (hlen : xl ≤ 1000000000)
    {ty : TypeId} {cs : Array Bool} {K : Value → Mem → Prop} {Pn : List PanicEntry → Mem → Prop}
    (k : ∀ a' c' m', Chg (fun b => blk xa = some b) mm m' → (blk a' = blk xa ∨ Fresh mm a') → Run ms m' F bp bs size f log a' (xl + 1) c' (want ++ [i]) → K (.slice a' (xl + 1) c') m') :
    ∀ b, mm b = none → BiN P .append #[T_sl_int, T_sl_int] ty cs #[.slice xa xl xc, .slice (some ⟨b, 0, none⟩) 1 1] (mm.set b (.cells #[.int .i64 i] T_int (0, 0))) K Pn := by
  obtain ⟨h1, h2, h3, h4, h5, h6⟩ := h
  refine push_one eInt h5 rfl hlen (by omega) ?_
  intro a' c' m' hch ho hb
  refine k a' c' m' hch hb ⟨hch.to_le h1 (fun b e => h6 b e), h2.chg hch (fun b hx e => h4 b e hx), h3, ?_, by simpa [ints] using ho, ?_⟩
  · intro b e hx
    rcases hb with hb | hb
    · exact h4 b (hb ▸ e) hx
    · exact h2.lv b hx (hb b e)
  · rcases hb with hb | hb
    · intro b e; exact h6 b (hb ▸ e)
    · exact Fresh.le h1 hb

theorem Run.count (h : Run ms mm F bp bs size f log xa xl xc want) {R : Ending → Mem → Prop}
    (k : ∀ m', Le mm m' → Run ms m' F bp bs size f log xa xl xc want → R (.returned (.int .i64 (cnt bs.length size))) m') : HC P page_Pages_Count.id #[.pointer (some ⟨bp, 0, none⟩)] mm R :=
  Count_spec h.pgs fun m' hle => k m' hle (h.mono hle)
theorem Run.plen (h : Run ms mm F bp bs size f log xa xl xc want) {R : Ending → Mem → Prop}
    (k : ∀ m', Le mm m' → Run ms m' F bp bs size f log xa xl xc want → R (.returned (.int .i64 (bs.length : Nat))) m') : HC P page_Pages_Len.id #[.pointer (some ⟨bp, 0, none⟩)] mm R :=
  Len_spec h.pgs fun m' hle => k m' hle (h.mono hle)

/-- Reading: what comes, and that it is noted. -/
theorem Run.read (h : Run ms mm F bp bs size f log xa xl xc want) (hlog : log.length ≤ 1000000) (i : Int) {R : Ending → Mem → Prop}
    (kout : (i < 0 ∨ cnt bs.length size ≤ i) → ∀ m', Le mm m' → Run ms m' F bp bs size f log xa xl xc want → R (.returned (.tuple #[.slice none 0 0, .int .i64 1])) m')
    (kbad : 0 ≤ i → i < cnt bs.length size → f i = true → ∀ F' m', Chg F mm m' → (∀ b, F' b → F b ∨ mm b = none) → Run ms m' F' bp bs size f (log ++ [i]) xa xl xc want → R (.returned (.tuple #[.slice none 0 0, .int .i64 11])) m')
    (kok : 0 ≤ i → i < cnt bs.length size → f i = false → ∀ F' m' a' c', Chg F mm m' → (∀ b, F' b → F b ∨ mm b = none) → Run ms m' F' bp bs size f (log ++ [i]) xa xl xc want →
      Own m' T_uint8 1 a' (pg bs size i).length c' (u8s (pg bs size i)) → Fresh mm a' → (∀ b, blk a' = some b → ¬ F' b) →
      R (.returned (.tuple #[.slice a' (pg bs size i).length c', .int .i64 0])) m') : HC P page_Pages_Read.id #[.pointer (some ⟨bp, 0, none⟩), .int .i64 i] mm R := by
  by_cases hi : 0 ≤ i ∧ i < cnt bs.length size
  · obtain ⟨hi0, hi1⟩ := hi
    refine Read_in h.pgs hi0 hi1 hlog ?_ ?_
    · intro e F' m' hch hF' hp
      exact kbad hi0 hi1 e F' m' hch hF' (h.turn hch hF' hp)
    · intro e F' m' a' c' hch hF' hp ho hfr hn
      exact kok hi0 hi1 e F' m' a' c' hch hF' (h.turn hch hF' hp) ho hfr hn
  · refine Read_out h.pgs (by omega) ?_
    intro m' hle
    exact kout (by omega) m' hle (h.mono hle)

theorem Run.fault (h : Run ms mm F bp bs size f log xa xl xc want)
    {la : Option Addr} {ll lc : Nat} {ls : List Int} (hc : CellsAt mm la (ints ls)) (hl : ls.length = ll) (hlb : ll ≤ 1000000000) (hla : ∀ b, blk la = some b → ¬ F b ∧ mm b ≠ none) {R : Ending → Mem → Prop}
    (k : ∀ F' m', Chg F mm m' → (∀ b, F' b → F b ∨ mm b = none) → Run ms m' F' bp bs size (fun k => ls.contains k) log xa xl xc want → R (.returned (.tuple #[])) m') :
    HC P page_Pages_Fault.id #[.pointer (some ⟨bp, 0, none⟩), .slice la ll lc] mm R := by
  refine Fault_spec h.pgs hc hl hlb hla ?_
  intro F' m' hch hF' hp
  exact k F' m' hch hF' (h.turn hch hF' hp)
theorem Run.clear (h : Run ms mm F bp bs size f log xa xl xc want) {R : Ending → Mem → Prop}
    (k : ∀ m', Chg F mm m' → Run ms m' F bp bs size f [] xa xl xc want → R (.returned (.tuple #[])) m') : HC P page_Pages_Clear.id #[.pointer (some ⟨bp, 0, none⟩)] mm R := by
  refine Clear_spec h.pgs ?_
  intro m' hch hp
  exact k m' hch (h.turn hch (fun b e => .inl e) hp)
/-- What was read is what the law noted. -/
theorem Run.same (h : Run ms mm F bp bs size f log xa xl xc log) (hlog : log.length ≤ 1000000) {Pn : List PanicEntry → Mem → Prop} {K : Value → Mem → Prop}
    (k : ∀ m', Le mm m' → Run ms m' F bp bs size f log xa xl xc log → K (.bool true) m') :
    HC P page_Pages_Reads.id #[.pointer (some ⟨bp, 0, none⟩)] mm (Cont (fun v m1 => UnS v fun ra rl rc => HC P eyotref13_SameInts.id #[.slice ra rl rc, .slice xa xl xc] m1 (Cont K Pn)) Pn) := by
  refine Reads_spec h.pgs (by omega) ?_
  intro a' c' m' hle ho hf
  have h' := h.mono hle
  exact SameInts_true ho.cells h'.own.cells rfl h.len (by omega) (k m' hle h')
end

theorem IxS.row {m : Mem} {b : Nat} {vs : Array Value} {e : TypeId} {x : Nat × Nat} (h : m b = some (.cells vs e x)) {len : Nat} (hl : vs.size = len) {i : Int} (h0 : 0 ≤ i) (h1 : i < len) {K : Value → Prop}
    (k : ∀ v, vs[i.toNat]? = some v → K v) : IxS (some ⟨b, 0, none⟩) len i 1 (fun b o => LdV m b o K) := by
  refine IxS.ld (cells_at h rfl) (by simpa using hl) h0 h1 ?_
  intro v hv
  exact k v (by simpa using hv)

theorem PageFaults_spec {m : Mem} {a : Option Addr} {l c : Nat} {bs : List UInt8} (hc : CellsAt m a (u8s bs)) (hl : bs.length = l) (a1 : Int) (h10 : 0 ≤ a1) (h11 : a1 < 256)
    {a2 : Option Addr} {l2 c2 : Nat} {xs2 : List Int} (hc2 : CellsAt m a2 (ints xs2)) (hl2 : xs2.length = l2) {a3 : Option Addr} {l3 c3 : Nat} {xs3 : List Int} (hc3 : CellsAt m a3 (ints xs3)) (hl3 : xs3.length = l3) :
    HC P eyotlaw3_PageFaults.id #[.slice a l c, .int .u8 a1, .slice a2 l2 c2, .slice a3 l3 c3] m (fun e m' => e = .returned (.bool true) ∧ Le m m') := by
  refine eyotlaw3_PageFaults.ok _ _ _ _ _ _ _ _ _ _ _ _ ?_
  refine begun_spec ?_
  intro m1 hle1
  refine Br.f rfl ?_
  refine BrD (fun _ => ⟨rfl, hle1⟩) (fun hb1 => ?_)
  refine BrD (fun _ => ⟨rfl, hle1⟩) (fun hb2 => ?_)
  refine BrD (fun _ => ⟨rfl, hle1⟩) (fun hb3 => ?_)
  have hb30 := tmod_bnd (x := a1) (n := 30) h10 (by decide)
  rw [wi (n := a1) (by omega) (by omega), hb30.1, wi (n := 1 + a1 % 30) (by omega) (by omega)]
  have s1 : 1 ≤ 1 + a1 % 30 := by omega
  have s2 : 1 + a1 % 30 ≤ 30 := by omega
  generalize 1 + a1 % 30 = size at s1 s2
  clear hb30
  refine New_spec (CellsAt.le hle1 hc) hl (fun h => by omega) ?_
  intro _ _ _ bp F m2 hle2 hF2 hp2
  have hle02 := hle1.trans hle2
  have hF02 : ∀ b, F b → m b = none := fun b e => hle1.new (hF2 b e)
  refine BrNf rfl ?_
  refine Br.f rfl ?_
  intro b53 hb53
  have hle3 := Le.set hb53 (.cells #[.slice a2 l2 c2, .slice a3 l3 c3, .slice none 0 0] T_sl_int (0, 0))
  have hrows := set_same m2 b53 (.cells #[.slice a2 l2 c2, .slice a3 l3 c3, .slice none 0 0] T_sl_int (0, 0))
  have hp3 := hp2.le hle3
  have hlems := le_wo (hle02.trans hle3) hF02
  have hF53 : ¬ F b53 := fun h => hp2.lv b53 h hb53
  generalize hm3 : m2.set b53 (.cells #[.slice a2 l2 c2, .slice a3 l3 c3, .slice none 0 0] T_sl_int (0, 0)) = m3 at *
  have hrows' : (m3.wo F) b53 = some (.cells #[.slice a2 l2 c2, .slice a3 l3 c3, .slice none 0 0] T_sl_int (0, 0)) := by rw [wo_in hF53]; exact hrows
  have hrun0 : Run (m3.wo F) m3 F bp bs size (fun _ => false) [] none 0 0 [] := ⟨wo_le _ _, hp3, fun b e => wo_out e, fun b e => (by cases e), by simpa [ints] using Own.nil m3 T_int 1, Fresh.none _⟩
  have hrow : ∀ k : Nat, k < 3 → ∀ v, (#[.slice a2 l2 c2, .slice a3 l3 c3, .slice none 0 0] : Array Value)[k]? = some v → ∃ ra rl rc xs, v = .slice ra rl rc ∧ CellsAt (m3.wo F) ra (ints xs) ∧ xs.length = rl ∧ rl ≤ 8 := by
    intro k hk v hv
    match k, hk with
    | 0, _ => cases hv; exact ⟨_, _, _, xs2, rfl, CellsAt.le hlems hc2, hl2, by omega⟩
    | 1, _ => cases hv; exact ⟨_, _, _, xs3, rfl, CellsAt.le hlems hc3, hl3, by omega⟩
    | 2, _ => cases hv; exact ⟨_, _, _, [], rfl, CellsAt.empty _ _, rfl, by omega⟩
  generalize hms : m3.wo F = ms at *
  generalize hvs : (#[.slice a2 l2 c2, .slice a3 l3 c3, .slice none 0 0] : Array Value) = vs at *
  have hvl : vs.size = 3 := by rw [← hvs]; rfl
  clear hp2 hp3 hrows hle3 hb53 hm3 hms
  have hcl := cnt_le bs.length s1
  have hc0 := cnt_nn bs.length s1
  -- the rounds
  refine ⟨fun N x9 x11a x11l x11c xa xl xc r mm => x9 = some ⟨bp, 0, none⟩ ∧ x11a = some ⟨b53, 0, none⟩ ∧ x11l = 3 ∧ 0 ≤ r ∧ r ≤ 3 ∧ (N : Int) = 3 - r ∧ ∃ F f log, Run ms mm F bp bs size f log xa xl xc log ∧ (log.length : Int) ≤ r * 200, 3,
    ⟨rfl, rfl, rfl, by omega, by omega, by omega, F, _, [], hrun0, by simp⟩, ?_⟩
  rintro N x9 x11a x11l x11c xa xl xc r mm ⟨rfl, rfl, rfl, hr0, hr3, hN, F4, f4, log, hrun, hlog⟩
  refine BrD (fun hlt => ?_) (fun hge => ?_)
  rotate_left
  · -- k7
    unfold eyotlaw3_PageFaults.k7
    refine hrun.same (by omega) ?_
    intro m' hle hrun'
    exact ⟨rfl, hlems.trans hrun'.le⟩
  intro b58 hb58
  have hle5 := Le.set hb58 (.cells #[] T_int (0, 0))
  refine IxS.row (hrun.le _ _ hrows' |> hle5 _ _) hvl (by omega) (by omega) ?_
  intro v hv
  obtain ⟨ra, rl, rc, xs, rfl, hrc, hrl, hr8⟩ := hrow r.toNat (by omega) v hv
  refine clone_gen eInt (by decide) (CellsAt.le hrun.le hrc) (by simp [ints, hrl]) (ints_one xs) (by omega) (by omega) ?_ b58 hb58
  intro la lc m6 hle6 hol hfl
  have hrun6 := hrun.mono hle6
  refine hrun6.fault hol.cells hrl (by omega) (fun b e => ⟨fun hx => hrun.pgs.lv b hx (hfl b e), hol.live b e⟩) ?_
  intro F7 m7 hch7 hF7 hrun7
  have hol7 : Own m7 T_int 1 la rl lc (ints xs) := hol.chg hch7 (fun b e hx => hrun.pgs.lv b hx (hfl b e))
  have hlaF : ∀ b, blk la = some b → ms b = none ∧ ¬ F7 b ∧ blk xa ≠ some b := fun b e =>
    ⟨hrun.le.new (hfl b e), fun hx => (hF7 b hx).elim (fun h => hrun.pgs.lv b h (hfl b e)) (hol.live b e), fun h => hrun.own.live b h (hfl b e)⟩
  refine ⟨fun N2 x9 x11a x11l x11c' ya yl yc r' la' ll' lc' j mm => x9 = some ⟨bp, 0, none⟩ ∧ x11a = some ⟨b53, 0, none⟩ ∧ x11l = 3 ∧ ya = xa ∧ yl = xl ∧ yc = xc ∧ r' = r ∧ la' = la ∧ ll' = rl ∧ 0 ≤ j ∧ j ≤ rl ∧ (N2 : Int) = rl - j ∧
    (∃ ys, Own mm T_int 1 la rl lc ys) ∧ Run ms mm F7 bp bs size (fun k => xs.contains k) log xa xl xc log, rl, ⟨rfl, rfl, rfl, rfl, rfl, rfl, rfl, rfl, rfl, by omega, by omega, by omega, ⟨_, hol7⟩, hrun7⟩, ?_⟩
  clear hrun7 hol7 hch7 hF7
  rintro N2 x9 x11a x11l x11c' ya yl yc r' la' ll' lc' j mm8 ⟨rfl, rfl, rfl, rfl, rfl, rfl, rfl, rfl, rfl, hj0, hj1, hN2, ⟨ys, hoy⟩, hrun8⟩
  refine BrD (fun hjl => ?_) (fun hjl => ?_)
  · refine hoy.st hj0 hjl rfl ?_
    intro m' hch ho'
    refine ⟨N2 - 1, by omega, rfl, rfl, rfl, rfl, rfl, rfl, rfl, rfl, rfl, ?_, ?_, ?_, ⟨_, ho'⟩, hrun8.side hch hlaF⟩
    · rw [wi (n := j + 1) (by omega) (by omega)]; omega
    · rw [wi (n := j + 1) (by omega) (by omega)]; omega
    · rw [wi (n := j + 1) (by omega) (by omega)]; omega
  -- the pages
  clear hoy hlaF hjl hj0 hj1 hN2
  unfold eyotlaw3_PageFaults.k3
  refine ⟨fun N3 x9 x11a x11l x11c' za zl zc r5 i mm => x9 = some ⟨bp, 0, none⟩ ∧ x11a = some ⟨b53, 0, none⟩ ∧ x11l = 3 ∧ r5 = r' ∧ 0 ≤ i ∧ i ≤ cnt bs.length size ∧ (N3 : Int) = cnt bs.length size - i ∧
    ∃ F log', Run ms mm F bp bs size (fun k => xs.contains k) log' za zl zc log' ∧ (log'.length : Int) = log.length + i, (cnt bs.length size).toNat, ⟨rfl, rfl, rfl, rfl, by omega, by omega, by omega, F7, log, hrun8, by omega⟩, ?_⟩
  clear hrun8
  rintro N3 x9 x11a x11l x11c3 za zl zc r5 i mm9 ⟨rfl, rfl, rfl, rfl, hi0, hi1, hN3, F9, log9, hrun9, hlog9⟩
  refine hrun9.count ?_
  intro m10 hle10 hrun10
  refine BrD (fun hic => ?_) (fun hic => ?_)
  rotate_left
  · refine ⟨N - 1, by omega, rfl, rfl, rfl, ?_, ?_, ?_, F9, _, log9, hrun10, ?_⟩
    · rw [wi (n := r5 + 1) (by omega) (by omega)]; omega
    · rw [wi (n := r5 + 1) (by omega) (by omega)]; omega
    · rw [wi (n := r5 + 1) (by omega) (by omega)]; omega
    · rw [wi (n := r5 + 1) (by omega) (by omega)]; omega
  refine ⟨fun N4 x9 x11a x11l x11c4 ya4 yl4 yc4 r4 i4 b j mm => x9 = some ⟨bp, 0, none⟩ ∧ x11a = some ⟨b53, 0, none⟩ ∧ x11l = 3 ∧ ya4 = za ∧ yl4 = zl ∧ yc4 = zc ∧ r4 = r5 ∧ i4 = i ∧ mm = m10 ∧ ∃ k : Nat, j = k ∧ k ≤ xs.length ∧ N4 = xs.length - k ∧ b = (xs.take k).contains i, xs.length,
    ⟨rfl, rfl, rfl, rfl, rfl, rfl, rfl, rfl, rfl, 0, rfl, by omega, rfl, by simp⟩, ?_⟩
  rintro N4 x9 x11a x11l x11c4 ya4 yl4 yc4 r4 i4 b j mm11 ⟨rfl, rfl, rfl, rfl, rfl, rfl, rfl, rfl, rfl, k, rfl, hk, rfl, rfl⟩
  have hread : ∀ {K : Value → Prop}, K (.slice ra ll' rc) → IxS (some ⟨b53, 0, none⟩) 3 r4 1 (fun b o => LdV mm11 b o K) := by
    intro K hK
    refine IxS.row (hrun10.le _ _ hrows') hvl (by omega) (by omega) ?_
    intro v' hv'
    rw [hv] at hv'
    cases hv'
    exact hK
  refine hread ?_
  refine BrD (fun hkl => ?_) (fun hkl => ?_)
  · have hkx : k < xs.length := by omega
    have hnext : IntKind.i64.wrap ((k : Int) + 1) = ((k + 1 : Nat) : Int) := by rw [wi (by omega) (by omega)]; omega
    have hcon : (xs.take (k + 1)).contains i4 = ((xs.take k).contains i4 || xs[k] == i4) := by
      rw [List.take_add_one, List.getElem?_eq_getElem hkx, Bool.eq_iff_iff]
      simp only [List.contains_append, Option.toList_some, Bool.or_eq_true, beq_iff_eq]
      refine or_congr Iff.rfl ?_
      simp [eq_comm]
    refine Br.mk (fun hb => ?_) (fun hb => ?_)
    · exact ⟨xs.length - (k + 1), by omega, rfl, rfl, rfl, rfl, rfl, rfl, rfl, rfl, rfl, k + 1, hnext, by omega, rfl, by rw [hcon, hb]; rfl⟩
    · refine hread ?_
      refine IxS.ints (CellsAt.le hrun10.le hrc) hrl (by omega) (by omega) ?_
      intro x hx
      have hx' : xs[k] = x := by
        rw [Int.toNat_natCast, List.getElem?_eq_getElem hkx] at hx
        cases hx; rfl
      exact ⟨xs.length - (k + 1), by omega, rfl, rfl, rfl, rfl, rfl, rfl, rfl, rfl, rfl, k + 1, hnext, by omega, rfl, by rw [hcon, hb, hx']; rfl⟩
  have hkk : xs.take k = xs := List.take_of_length_le (by omega)
  rw [hkk]
  unfold eyotlaw3_PageFaults.k6
  have hnext : IntKind.i64.wrap (i4 + 1) = i4 + 1 := wi (by omega) (by omega)
  refine hrun10.read (by omega) i4 (fun h => by omega) ?_ ?_
  · intro _ _ hbad F12 m12 hch12 hF12 hrun12
    refine hrun12.push i4 (by have := hrun12.len; omega) ?_
    intro wa wc m13 _ _ hrun13
    refine Br.f ?_ ?_
    · have hb : xs.contains i4 = true := hbad
      rw [hb]; rfl
    refine BrNt (by decide) ?_
    refine BrNf rfl ?_
    rw [hnext]
    exact ⟨N3 - 1, by omega, rfl, rfl, rfl, rfl, by omega, by omega, by omega, F12, _, hrun13, by simp; omega⟩
  · intro _ _ hok F12 m12 pa pc hch12 hF12 hrun12 _ _ _
    refine hrun12.push i4 (by have := hrun12.len; omega) ?_
    intro wa wc m13 _ _ hrun13
    refine Br.f ?_ ?_
    · have hb : xs.contains i4 = false := hok
      rw [hb]; rfl
    refine BrNf rfl ?_
    rw [hnext]
    exact ⟨N3 - 1, by omega, rfl, rfl, rfl, rfl, by omega, by omega, by omega, F12, _, hrun13, by simp; omega⟩
end Go.E
