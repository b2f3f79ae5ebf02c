/- Layer 5: FileSame. -/
import Derived.Test.YteljlgelgkijlaaFL2
set_option linter.unusedVariables false
set_option linter.unusedSimpArgs false
set_option maxRecDepth 20000
namespace Go.E
open Go.H
attribute [local irreducible] BiN MkS ConvN LookN MapUpN CallV HC

theorem nLen_nil {m : Mem} {R : Ending → Mem → Prop} (h : ∀ m', Le m m' → R (.returned (.int .i64 0)) m') : HC P page_Pages_Len.id #[.pointer none] m R := by
  refine page_Pages_Len.ok _ _ _ ?_
  intro bn hbn
  refine safe_int (R0 := fun e m' => e = .panicked (nilPanic P) ∧ m' = m.set bn (.cells #[.pointer none] T_ptr_page_Pages (0, 0))) (gn := page_Pages_Len_1.fn) (by kernel_rfl) (by kernel_rfl) (by kernel_rfl) ?_ ?_
  · refine page_Pages_Len_1.ok _ _ _ _ ?_
    exact LdV.of (set_same m bn (.cells #[.pointer none] T_ptr_page_Pages (0, 0))) (v := .pointer none) rfl ⟨rfl, rfl⟩
  · rintro e m' ⟨rfl, rfl⟩
    exact .inr ⟨_, rfl, h _ (Le.set hbn _)⟩
/-- A file of no pages. -/
def noFile (m : Mem) (bf : Nat) : Prop := ∃ bc, m bf = some (.cells #[.pointer none, .pointer (some ⟨bc, 0, none⟩)] T_file_File (0, 0))
theorem noFile.le {m m' : Mem} {bf : Nat} (h : noFile m bf) (k : Le m m') : noFile m' bf := by obtain ⟨bc, h⟩ := h; exact ⟨bc, k _ _ h⟩
section
variable {m : Mem} {bf : Nat} {R : Ending → Mem → Prop}
theorem NewNil_spec {most : Int} (k : ∀ bf m', Le m m' → noFile m' bf → R (.returned (.pointer (some ⟨bf, 0, none⟩))) m') : HC P file_New.id #[.pointer none, .int .i64 most] m R := by
  refine file_New.ok _ _ _ _ ?_
  refine ZB.New_spec ?_
  intro bc Fc m1 hle1 hFc hc
  dsimp only [Cont]
  refine UnP.mk ?_
  intro bf hbf
  exact k bf _ (hle1.trans (Le.set hbf _)) ⟨bc, set_same _ _ _⟩
theorem noBytes (h : noFile m bf) {a b : Int} (k : ∀ m', Le m m' → R (.returned (.tuple #[.slice none 0 0, .int .i64 1])) m') : HC P file_File_Bytes.id #[.pointer (some ⟨bf, 0, none⟩), .int .i64 a, .int .i64 b] m R := by
  obtain ⟨bc, hf⟩ := h
  refine file_File_Bytes.ok _ _ _ _ _ ?_
  intro b6 w6 b7 w7
  have hle6 := Le.set w6 (.cells #[.slice none 0 0] T_sl_uint8 (0, 0))
  have hle7 := Le.set w7 (.cells #[.int .i64 0] T_api_Errno (0, 0))
  have h6 := hle7 _ _ (set_same m b6 (.cells #[.slice none 0 0] T_sl_uint8 (0, 0)))
  refine Br.f rfl ?_
  refine LdV.s0 ((hle6.trans hle7) _ _ hf) ?_
  refine UnP.mk ?_
  refine Br.t rfl ?_
  exact early (hle6.trans hle7) h6 (set_same _ _ _) w6 (hle6.new w7) k
theorem noLen (h : noFile m bf) (k : ∀ m', Le m m' → R (.returned (.int .i64 0)) m') : HC P file_File_Len.id #[.pointer (some ⟨bf, 0, none⟩)] m R := by
  obtain ⟨bc, hf⟩ := h
  refine file_File_Len.ok _ _ _ ?_
  refine Br.f rfl ?_
  refine LdV.s0 hf ?_
  refine UnP.mk ?_
  refine nLen_nil ?_
  intro m' hle
  exact k m' hle
end

theorem same_end {m mm : Mem} (hle : Le m mm) : eyotlaw5_FileSame.k2 (Fine m) mm := by
  unfold eyotlaw5_FileSame.k2
  refine At_nil ?_
  intro m1 h1
  refine Bytes_nil ?_
  intro m2 h2
  refine Evict_nil ?_
  refine NewNil_spec ?_
  intro bf m4 h4 hz
  dsimp only [Cont]
  refine UnP.mk ?_
  refine noBytes hz ?_
  intro m5 h5
  refine BrEt rfl ?_
  refine BrEt rfl ?_
  refine FLen_nil ?_
  refine Kept_nil ?_
  refine BrEt (by decide) ?_
  refine BrEt rfl ?_
  refine noLen (hz.le h5) ?_
  intro m6 h6
  exact ⟨rfl, ((((hle.trans h1).trans h2).trans h4).trans h5).trans h6⟩

theorem shr16 (n : Nat) : shrV .u16 (n : Int) 8 = ((n / 256 : Nat) : Int) := by
  show (n : Int).fdiv (2 ^ 8) = _
  rw [Int.fdiv_eq_ediv_of_nonneg _ (by decide)]; omega

section
variable {ms mm m' : Mem} {Fa Ga Fb Gb F' G' : Nat → Prop} {bf bp bg bq : Nat} {bs cs : List UInt8} {s1 s2 : Int} {f g f2 : Int → Bool} {la lb lg : List Int} {ma mb : Int} {ka kb kk : List Int}
/-- What two files write and keep lies apart. -/
def Sep (Fa Ga Fb Gb : Nat → Prop) : Prop := ∀ x, Fa x ∨ Ga x → ¬ (Fb x ∨ Gb x)
theorem Sep.symm (h : Sep Fa Ga Fb Gb) : Sep Fb Gb Fa Ga := fun x a b => h x b a
/-- The other one, behind a turn of one. -/
theorem Sep.turn (h : Sep Fa Ga Fb Gb) (A : FT ms mm Fa Ga bf bp bs s1 f la ma ka) (B : FT ms mm Fb Gb bg bq cs s2 g lb mb kb) (hch : Chg Fa mm m') (gF : ∀ b, F' b → Fa b ∨ mm b = none) (gG : ∀ b, G' b → Ga b ∨ mm b = none) :
    FT ms m' Fb Gb bg bq cs s2 g lb mb kb ∧ Sep F' G' Fb Gb := by
  refine ⟨B.side hch (fun b e x => h b (.inl x) (.inl e)) (fun b e x => h b (.inl x) (.inr e)) (fun b e => A.fr b (.inl e)), fun x hx hb => ?_⟩
  have hl := B.fl.lv x hb
  rcases hx with e | e
  · rcases gF x e with y | y
    · exact h x (.inl y) hb
    · exact hl y
  · rcases gG x e with y | y
    · exact h x (.inr y) hb
    · exact hl y
end

theorem FileSame_m {m : Mem} {a : Option Addr} {l c : Nat} {bs : List UInt8} {n1 n2 n3 n4 : Nat} {xa : Option Addr} {xl xc : Nat} {xs : List Int} (hc : CellsAt m a (u8s bs)) (hl : bs.length = l) (h1 : n1 < 256) (h2 : n2 < 256) (h3 : n3 < 256) (h4 : n4 < 256)
    (hx : CellsAt m xa (xs.map fun n => Value.int .u16 n)) (hxl : xs.length = xl) (hxw : ∀ n ∈ xs, 0 ≤ n ∧ n < 65536) :
    HC P eyotlaw5_FileSame.id #[.slice a l c, .int .u8 (n1 : Int), .int .u8 (n2 : Int), .int .u8 (n3 : Int), .int .u8 (n4 : Int), .slice xa xl xc] m (Fine m) := by
  refine eyotlaw5_FileSame.ok _ _ _ _ _ _ _ _ _ _ _ _ ?_
  refine begun_spec ?_
  intro m1 hle1
  dsimp only [Cont]
  refine UnB.mk ?_
  refine Br.f rfl ?_
  refine BrE (fun _ => ⟨rfl, hle1⟩) (fun h0 => ?_)
  refine BrD (fun _ => ⟨rfl, hle1⟩) (fun h300 => ?_)
  refine BrD (fun _ => ⟨rfl, hle1⟩) (fun h20 => ?_)
  have sz : ∀ n : Nat, n < 256 → IntKind.i64.wrap (1 + Int.tmod (IntKind.i64.wrap (n : Int)) 30) = ((1 + n % 30 : Nat) : Int) := by
    intro n hn
    rw [wi (n := (n : Int)) (by omega) (by omega), show (30 : Int) = ((30 : Nat) : Int) from rfl, tmod_nat, wi (by omega) (by omega)]; omega
  have mo : ∀ n : Nat, n < 256 → IntKind.i64.wrap (Int.tmod (n : Int) 5) = ((n % 5 : Nat) : Int) := by
    intro n hn
    rw [show (5 : Int) = ((5 : Nat) : Int) from rfl, tmod_nat, wi (by omega) (by omega)]
  rw [sz n1 h1, sz n2 h2, mo n3 h3, mo n4 h4]
  generalize hw : 1 + n1 % 30 = w
  generalize hv : 1 + n2 % 30 = v
  refine New_spec (hc.le hle1) hl (fun h => by omega) ?_
  intro _ _ _ bp Fp m2 hle2 hfp p
  refine New_spec (hc.le (hle1.trans hle2)) hl (fun h => by omega) ?_
  intro _ _ _ bq Fq m3 hle3 hfq q
  refine FT.new (p.le hle3) ((hle1.trans hle2).trans hle3) (fun b e => hle1.new (hfp b e)) ?_
  intro bf Fa Ga m4 hle4 hA gFa gGa
  dsimp only [Cont]
  refine UnP.mk ?_
  refine FT.new (q.le hle4) (((hle1.trans hle2).trans hle3).trans hle4) (fun b e => (hle1.trans hle2).new (hfq b e)) ?_
  intro bg Fb Gb m5 hle5 hB gFb gGb
  dsimp only [Cont]
  refine UnP.mk ?_
  refine BrNf rfl ?_
  refine BrNf rfl ?_
  refine Br.f rfl ?_
  refine Br.f rfl ?_
  have hS : Sep Fa Ga Fb Gb := by
    intro x hx hb
    have hla := hA.fl.lv x hx
    have hxq : Fq x := by
      rcases hb with e | e
      · exact (gFb x e).resolve_right hla
      · exact absurd (gGb x e) hla
    have hm2 := hfq x hxq
    have hlq := q.lv x hxq
    rcases hx with e | e
    · rcases gFa x e with y | y
      · exact p.lv x y hm2
      · exact hlq y
    · exact hlq (gGa x e)
  have hA5 := hA.up hle5
  refine ⟨fun N ya yl yc n3' za zl zc pa pb i mm => ya = a ∧ yl = l ∧ yc = c ∧ n3' = (n3 : Int) ∧ za = xa ∧ zl = xl ∧ zc = xc ∧ pa = some ⟨bf, 0, none⟩ ∧ pb = some ⟨bg, 0, none⟩ ∧
    ∃ (j : Nat) (Fa Ga Fb Gb : Nat → Prop) (la lb ka kb : List Int), i = (j : Int) ∧ N = xl - j ∧ j ≤ xl ∧ FT m mm Fa Ga bf bp bs (w : Int) (fun _ => false) la ((n3 % 5 : Nat) : Int) ka ∧ FT m mm Fb Gb bg bq bs (v : Int) (fun _ => false) lb ((n4 % 5 : Nat) : Int) kb ∧
      Sep Fa Ga Fb Gb ∧ la.length ≤ 4001 * j ∧ lb.length ≤ 4001 * j, xl,
    ⟨rfl, rfl, rfl, rfl, rfl, rfl, rfl, rfl, rfl, 0, Fa, Ga, Fb, Gb, [], [], [], [], rfl, rfl, by omega, hA5, hB, hS, by simp, by simp⟩, ?_⟩
  rintro N ya yl yc n3' za zl zc pa pb i mm ⟨rfl, rfl, rfl, rfl, rfl, rfl, rfl, rfl, rfl, j, Fa, Ga, Fb, Gb, la, lb, ka, kb, rfl, rfl, hj, hA, hB, hS, hla, hlb⟩
  refine BrD (fun hlt => ?_) (fun hge => same_end hA.le)
  have hjx : j < xs.length := by omega
  have get : ∀ {m' : Mem} {K : Value → Prop}, Le m m' → K (.int .u16 xs[j]) → IxS za zl (j : Int) 1 (fun b o => LdV m' b o K) := by
    intro m' K h k
    refine IxS.ld (hx.le h) (by rw [List.length_map]; exact hxl) (by omega) hlt ?_
    intro u hu
    rw [Int.toNat_natCast, List.getElem?_map, List.getElem?_eq_getElem hjx] at hu
    cases hu
    exact k
  have hxn := hxw xs[j] (List.getElem_mem hjx)
  generalize xs[j] = x at get hxn
  obtain ⟨n, rfl⟩ : ∃ n : Nat, x = (n : Int) := ⟨x.toNat, by omega⟩
  refine get hA.le ?_
  refine UnI.mk ?_
  refine NzI.mk (by omega) ?_
  refine get hA.le ?_
  refine UnI.mk ?_
  rw [wi (n := (n : Int)) (by omega) (by omega), tmod_nat, shr16, wi (n := ((n / 256 : Nat) : Int)) (by omega) (by omega)]
  have hfrom : n % yl < yl := Nat.mod_lt _ (by omega)
  generalize n % yl = x at hfrom
  generalize hn2 : n / 256 = n2
  have e4 : (if ((yl : Nat) : Int) < IntKind.i64.wrap ((x : Int) + (n2 : Int)) then ((yl : Nat) : Int) else IntKind.i64.wrap ((x : Int) + (n2 : Int))) = ((min yl (x + n2) : Nat) : Int) := by
    rw [wi (by omega) (by omega)]; split <;> omega
  rw [e4]
  generalize hy : min yl (x + n2) = y
  have hwr : IntKind.i64.wrap ((j : Int) + 1) = ((j + 1 : Nat) : Int) := by rw [wi (by omega) (by omega)]; omega
  rw [hwr]
  refine hA.bytes (a := x) (b := y) (by omega) (by omega) (by omega) ?_
  intro F4 G4 m4 sa4 sc4 log4 ks4 ch4 gF4 gG4 hA4 hl4 own4 fr4
  obtain ⟨hB4, hS4⟩ := hS.turn hA hB ch4 gF4 gG4
  refine hB4.bytes (a := x) (b := y) (by omega) (by omega) (by omega) ?_
  intro F5 G5 m5 sa5 sc5 log5 ks5 ch5 gF5 gG5 hB5 hl5 own5 fr5
  obtain ⟨hA5, hS5⟩ := hS4.symm.turn hB4 hA4 ch5 gF5 gG5
  refine BrNf rfl ?_
  refine BrNf rfl ?_
  have o4 : CellsAt m5 sa4 (u8s (seg bs x y)) := own4.cells.chg ch5 (fun b e hFb => hB.fl.lv b (.inl hFb) (fr4 b e).1)
  refine ⟨seg bs x y, seg_len (by omega), o4, ?_⟩
  refine ⟨seg bs x y, seg_len (by omega), own5.cells, ?_⟩
  refine Br.f (by rw [beq_self_eq_true]; rfl) ?_
  refine Kept_spec hA5.fl ?_
  intro m6 hle6
  dsimp only [Cont]
  refine UnI.mk ?_
  have hmx := hA5.fl.len
  rw [mo n3 h3]
  refine BrDf ?_ ?_
  · split <;> omega
  have hA6 := hA5.up hle6
  have hB6 := hB5.up hle6
  refine get hA6.le ?_
  refine UnI.mk ?_
  refine BrE (fun _ => ?_) (fun _ => ?_)
  · refine Evict_spec hB6.fl ?_
    intro F7 m7 ch7 gF7 hfl7
    have hB7 := hB6.next ch7 gF7 (fun b e => .inl e) hfl7
    obtain ⟨hA7, hS7⟩ := hS5.turn hB6 hA6 ch7 gF7 (fun b e => .inl e)
    exact ⟨zl - (j + 1), by omega, rfl, rfl, rfl, rfl, rfl, rfl, rfl, rfl, rfl, j + 1, F4, G4, F7, G5, log4, log5, ks4, [], rfl, rfl, by omega, hA7, hB7, hS7.symm, by omega, by omega⟩
  · exact ⟨zl - (j + 1), by omega, rfl, rfl, rfl, rfl, rfl, rfl, rfl, rfl, rfl, j + 1, F4, G4, F5, G5, log4, log5, ks4, ks5, rfl, rfl, by omega, hA6, hB6, hS5.symm, by omega, by omega⟩
theorem FileSame_arg {W : World} {v0 v1 v2 v3 v4 v5 : Value} (a0 : Arg P W T_sl_uint8 v0) (a1 : Arg P W T_uint8 v1) (a2 : Arg P W T_uint8 v2) (a3 : Arg P W T_uint8 v3) (a4 : Arg P W T_uint8 v4) (a5 : Arg P W T_sl_uint16 v5) :
    HC P eyotlaw5_FileSame.id #[v0, v1, v2, v3, v4, v5] (heapM W) (Fine (heapM W)) := by
  obtain ⟨a, l, c, bs, rfl, hlc, hl, _, hx⟩ := a0.u8s (e := T_uint8) (by kernel_rfl) (by kernel_rfl)
  obtain ⟨n1, rfl, h1⟩ := num8 a1
  obtain ⟨n2, rfl, h2⟩ := num8 a2
  obtain ⟨n3, rfl, h3⟩ := num8 a3
  obtain ⟨n4, rfl, h4⟩ := num8 a4
  obtain ⟨xa, xl, xc, xs, rfl, _, hxl, hxc, hxw⟩ := a5.nums (e := T_uint16) (k := .u16) (by kernel_rfl) (by kernel_rfl)
  exact FileSame_m hx (by rw [List.length_take]; omega) h1 h2 h3 h4 hxc hxl (fun n hn => wf_u16 (hxw n hn))
end Go.E
