/- This project's own logic, printed forms and lemmas, as far as this claim needs them (part 5). -/
import Derived.Test.YtgjmmgjbfkodiaaDoorQRegexGroups4
set_option linter.unusedVariables false
set_option linter.unusedSimpArgs false
set_option maxRecDepth 20000
namespace Go.E.Rg
open Go.H Go.E
theorem prts_len {l : List UInt8} : ∀ (k i : Nat) (S : Nat → Bool) {S' : Nat → Bool} {e : Nat}, prts l k i S = some (S', e) → 0 < e ∧ e ≤ l.length
  | 0, i, S, S', e, h => by unfold prts at h; cases h
  | k + 1, i, S, S', e, h => by
    unfold prts at h
    split at h
    · rename_i h93
      cases h
      rcases Nat.lt_or_ge i l.length with hi | hi
      · omega
      · rw [nx_out hi] at h93; cases h93
    · cases hp : prt l i with
      | none => rw [hp] at h; cases h
      | some x =>
        obtain ⟨⟨a, b⟩, n⟩ := x
        rw [hp] at h
        exact prts_len k n _ h
theorem cls_len {l : List UInt8} {S : Nat → Bool} {n : Nat} (h : cls l = some (S, n)) : 0 < n ∧ n ≤ l.length := by
  unfold cls at h
  cases h0 : cls0 l with
  | none => rw [h0] at h; cases h
  | some x =>
    obtain ⟨S0, e⟩ := x
    rw [h0] at h
    dsimp only at h
    split at h; · cases h
    cases h
    unfold cls0 at h0
    split at h0
    · rename_i h46
      cases h0
      rcases Nat.lt_or_ge 0 l.length with hi | hi
      · omega
      · rw [nx_out hi] at h46; cases h46
    split at h0
    · cases hp : prt l (if nx l 1 = 94 then 2 else 1) with
      | none => rw [hp] at h0; cases h0
      | some y =>
        obtain ⟨⟨a, b⟩, k⟩ := y
        rw [hp] at h0
        dsimp only at h0
        cases hq : prts l (l.length + 1) k (fromTo a b) with
        | none => rw [hq] at h0; cases h0
        | some z =>
          obtain ⟨S1, e1⟩ := z
          rw [hq] at h0
          cases h0
          exact prts_len _ _ _ hq
    · cases hs : sgn l 0 with
      | none => rw [hs] at h0; cases h0
      | some y =>
        obtain ⟨c, k⟩ := y
        rw [hs] at h0
        cases h0
        have := sgn_lt hs
        omega
def Shr (alt : Nat → List UInt8 → Res) : Prop := ∀ d s x t, alt d s = .ok (x, t) → t.length < s.length
section
variable {alt : Nat → List UInt8 → Res} {d : Nat} {s t : List UInt8} {x : Rx}
theorem atom_len (ha : Shr alt) (h : atomF alt d s = .ok (x, t)) : t.length < s.length := by
  unfold atomF at h
  split at h
  · rename_i s'
    split at h; · cases h
    split at h
    · rename_i x' s'' he
      cases h
      have := ha _ _ _ _ he
      simp at this ⊢; omega
    · cases h
    · cases h
  · rename_i hs
    cases hc : cls s with
    | none => rw [hc] at h; cases h
    | some y =>
      obtain ⟨S, n⟩ := y
      rw [hc] at h
      cases h
      have := cls_len hc
      simp; omega
theorem rep_len (ha : Shr alt) (h : repF alt d s = .ok (x, t)) : t.length < s.length := by
  unfold repF at h
  cases hb : atomF alt d s with
  | error e => rw [hb] at h; cases h
  | ok y =>
    obtain ⟨y, t'⟩ := y
    have h1 := atom_len ha hb
    rw [hb] at h
    cases t' with
    | nil => cases h; exact h1
    | cons c s' =>
      dsimp only at h
      cases hk : sgI c with
      | none => rw [hk] at h; cases h; exact h1
      | some k => rw [hk] at h; cases h; simp at h1; omega
theorem catL_len (ha : Shr alt) : ∀ (n : Nat) (l : List Rx) (s : List UInt8) {l' : List Rx} {t : List UInt8}, catL alt d n l s = .ok (l', t) → t.length ≤ s.length
  | 0, l, s, l', t, h => by unfold catL at h; cases h
  | n + 1, l, s, l', t, h => by
    unfold catL at h
    cases s with
    | nil => cases h; simp
    | cons c s =>
      dsimp only at h
      split at h
      · cases h; simp
      · cases hb : repF alt d (c :: s) with
        | error e => rw [hb] at h; cases h
        | ok y =>
          obtain ⟨y, t'⟩ := y
          rw [hb] at h
          have h1 := rep_len ha hb
          have h2 := catL_len ha n _ _ h
          omega
theorem cat_len (ha : Shr alt) (h : catF alt d s = .ok (x, t)) : t.length < s.length := by
  unfold catF at h
  cases hb : repF alt d s with
  | error e => rw [hb] at h; cases h
  | ok y =>
    obtain ⟨y, t'⟩ := y
    rw [hb] at h
    dsimp only at h
    have h1 := rep_len ha hb
    cases hc : catL alt d (t'.length + 1) [y] t' with
    | error e => rw [hc] at h; cases h
    | ok z =>
      obtain ⟨z, t2⟩ := z
      rw [hc] at h
      cases h
      have := catL_len ha _ _ _ hc
      omega
theorem altL_len (ha : Shr alt) : ∀ (n : Nat) (l : List Rx) (s : List UInt8) {l' : List Rx} {t : List UInt8}, altL alt d n l s = .ok (l', t) → t.length ≤ s.length
  | 0, l, s, l', t, h => by unfold altL at h; cases h
  | n + 1, l, s, l', t, h => by
    unfold altL at h
    split at h
    · rename_i s'
      cases hb : catF alt d s' with
      | error e => rw [hb] at h; cases h
      | ok y =>
        obtain ⟨y, t'⟩ := y
        rw [hb] at h
        have h1 := cat_len ha hb
        have h2 := altL_len ha n _ _ h
        simp; omega
    · cases h; simp
theorem alt_len (ha : Shr alt) (h : altF alt d s = .ok (x, t)) : t.length < s.length := by
  unfold altF at h
  cases hb : catF alt d s with
  | error e => rw [hb] at h; cases h
  | ok y =>
    obtain ⟨y, t'⟩ := y
    rw [hb] at h
    dsimp only at h
    have h1 := cat_len ha hb
    cases hc : altL alt d (t'.length + 1) [y] t' with
    | error e => rw [hc] at h; cases h
    | ok z =>
      obtain ⟨z, t2⟩ := z
      rw [hc] at h
      cases h
      have := altL_len ha _ _ _ hc
      omega
end
theorem pAlt_len : ∀ n, Shr (pAlt n)
  | 0 => fun d s x t h => by unfold pAlt at h; cases h
  | n + 1 => fun d s x t h => by unfold pAlt at h; exact alt_len (pAlt_len n) h
theorem nodes_mk' (k : Int) (S : Nat → Bool) (ps : List Rx) : nodes (.mk k S ps) = nodesL ps + 1 := by conv => lhs; unfold nodes
theorem nodesL_nil : nodesL [] = 0 := by unfold nodesL; rfl
theorem nodesL_cons' (r : Rx) (rs : List Rx) : nodesL (r :: rs) = nodes r + nodesL rs := by conv => lhs; unfold nodesL
theorem nodesL_app : ∀ (a b : List Rx), nodesL (a ++ b) = nodesL a + nodesL b
  | [], b => by rw [nodesL_nil]; simp
  | r :: a, b => by rw [List.cons_append, nodesL_cons', nodesL_cons', nodesL_app a b]; omega
def Few (alt : Nat → List UInt8 → Res) : Prop := ∀ d s x t, alt d s = .ok (x, t) → nodes x + 1 + 2 * t.length ≤ 2 * s.length
theorem one_nodes {k : Int} {l : List Rx} {A B : Nat} (h : nodesL l + l.length + 2 * A ≤ 2 * B) (hl : 1 ≤ l.length) : nodes (one k l) + 1 + 2 * A ≤ 2 * B := by
  unfold one
  split
  · rename_i x
    rw [nodesL_cons', nodesL_nil] at h
    simp at h; omega
  · rename_i hno
    rw [nodes_mk']
    have : l.length ≠ 1 := by
      intro e
      obtain ⟨x, rfl⟩ := List.length_eq_one_iff.mp e
      exact hno x rfl
    omega
section
variable {alt : Nat → List UInt8 → Res} {d : Nat} {s t : List UInt8} {x : Rx}
theorem atom_few (ha : Few alt) (h : atomF alt d s = .ok (x, t)) : nodes x + 1 + 2 * t.length ≤ 2 * s.length := by
  unfold atomF at h
  split at h
  · rename_i s'
    split at h; · cases h
    split at h
    · rename_i x' s'' he
      cases h
      have := ha _ _ _ _ he
      simp at this ⊢; omega
    · cases h
    · cases h
  · rename_i hs
    cases hc : cls s with
    | none => rw [hc] at h; cases h
    | some y =>
      obtain ⟨S, n⟩ := y
      rw [hc] at h
      cases h
      have := cls_len hc
      rw [nodes_mk', nodesL_nil]
      simp; omega
theorem rep_few (ha : Few alt) (h : repF alt d s = .ok (x, t)) : nodes x + 1 + 2 * t.length ≤ 2 * s.length := by
  unfold repF at h
  cases hb : atomF alt d s with
  | error e => rw [hb] at h; cases h
  | ok y =>
    obtain ⟨y, t'⟩ := y
    have h1 := atom_few ha hb
    rw [hb] at h
    cases t' with
    | nil => cases h; exact h1
    | cons c s' =>
      dsimp only at h
      cases hk : sgI c with
      | none => rw [hk] at h; cases h; exact h1
      | some k =>
        rw [hk] at h; cases h
        rw [nodes_mk', nodesL_cons', nodesL_nil]
        simp at h1; omega
theorem catL_few (ha : Few alt) {B : Nat} : ∀ (n : Nat) (l : List Rx) (s : List UInt8) {l' : List Rx} {t : List UInt8}, catL alt d n l s = .ok (l', t) → 1 ≤ l.length → nodesL l + l.length + 2 * s.length ≤ 2 * B → nodesL l' + l'.length + 2 * t.length ≤ 2 * B ∧ 1 ≤ l'.length
  | 0, l, s, l', t, h, _, _ => by unfold catL at h; cases h
  | n + 1, l, s, l', t, h, hl, hB => by
    unfold catL at h
    cases s with
    | nil => cases h; exact ⟨hB, hl⟩
    | cons c s =>
      dsimp only at h
      split at h
      · cases h; exact ⟨hB, hl⟩
      · cases hb : repF alt d (c :: s) with
        | error e => rw [hb] at h; cases h
        | ok y =>
          obtain ⟨y, t'⟩ := y
          rw [hb] at h
          have h1 := rep_few ha hb
          refine catL_few ha n _ _ h (by simp) ?_
          rw [nodesL_app, nodesL_cons', nodesL_nil]
          simp only [List.length_append, List.length_cons, List.length_nil] at *
          omega
theorem cat_few (ha : Few alt) (h : catF alt d s = .ok (x, t)) : nodes x + 1 + 2 * t.length ≤ 2 * s.length := by
  unfold catF at h
  cases hb : repF alt d s with
  | error e => rw [hb] at h; cases h
  | ok y =>
    obtain ⟨y, t'⟩ := y
    rw [hb] at h
    dsimp only at h
    have h1 := rep_few ha hb
    cases hc : catL alt d (t'.length + 1) [y] t' with
    | error e => rw [hc] at h; cases h
    | ok z =>
      obtain ⟨z, t2⟩ := z
      rw [hc] at h
      cases h
      have := catL_few ha (B := s.length) _ _ _ hc (by simp) (by rw [nodesL_cons', nodesL_nil]; simp; omega)
      exact one_nodes this.1 this.2
theorem altL_few (ha : Few alt) {B : Nat} : ∀ (n : Nat) (l : List Rx) (s : List UInt8) {l' : List Rx} {t : List UInt8}, altL alt d n l s = .ok (l', t) → 1 ≤ l.length → nodesL l + l.length + 2 * s.length ≤ 2 * B → nodesL l' + l'.length + 2 * t.length ≤ 2 * B ∧ 1 ≤ l'.length
  | 0, l, s, l', t, h, _, _ => by unfold altL at h; cases h
  | n + 1, l, s, l', t, h, hl, hB => by
    unfold altL at h
    split at h
    · rename_i s'
      cases hb : catF alt d s' with
      | error e => rw [hb] at h; cases h
      | ok y =>
        obtain ⟨y, t'⟩ := y
        rw [hb] at h
        have h1 := cat_few ha hb
        refine altL_few ha n _ _ h (by simp) ?_
        rw [nodesL_app, nodesL_cons', nodesL_nil]
        simp only [List.length_append, List.length_cons, List.length_nil] at *
        omega
    · cases h; exact ⟨hB, hl⟩
theorem alt_few (ha : Few alt) (h : altF alt d s = .ok (x, t)) : nodes x + 1 + 2 * t.length ≤ 2 * s.length := by
  unfold altF at h
  cases hb : catF alt d s with
  | error e => rw [hb] at h; cases h
  | ok y =>
    obtain ⟨y, t'⟩ := y
    rw [hb] at h
    dsimp only at h
    have h1 := cat_few ha hb
    cases hc : altL alt d (t'.length + 1) [y] t' with
    | error e => rw [hc] at h; cases h
    | ok z =>
      obtain ⟨z, t2⟩ := z
      rw [hc] at h
      cases h
      have := altL_few ha (B := s.length) _ _ _ hc (by simp) (by rw [nodesL_cons', nodesL_nil]; simp; omega)
      exact one_nodes this.1 this.2
end
theorem pAlt_few : ∀ n, Few (pAlt n)
  | 0 => fun d s x t h => by unfold pAlt at h; cases h
  | n + 1 => fun d s x t h => by unfold pAlt at h; exact alt_few (pAlt_few n) h
end Go.E.Rg
set_option linter.unusedVariables false
set_option linter.unusedSimpArgs false
set_option maxRecDepth 20000
namespace Go.E.Rg
open Go.H Go.E
attribute [local irreducible] BiN MkS ConvN LookN MapUpN CallV HC limb dbTab
/-- What is new since m. -/
noncomputable abbrev newB (m m' : Mem) : Mem := on m' (fun b => m b = none)
theorem newB_mono {S : Nat → Prop} {m mm m' : Mem} (h : Chg S mm m') (hs : ∀ b, S b → m b ≠ none) : Le (newB m mm) (newB m m') :=
  on_mono h (fun b hb _ hS => hs b hS hb) (fun b hb _ => hb)
theorem newB_up {m mm m' : Mem} (h : ∀ b, m b ≠ none → mm b ≠ none) : Le (newB mm m') (newB m m') := fun b o hb => by
  obtain ⟨h1, h2⟩ := on_live hb
  have : m b = none := by
    cases hm : m b with
    | none => rfl
    | some o => exact absurd h1 (h b (by rw [hm]; simp))
  show on m' (fun b => m b = none) b = some o
  rw [on_in (G := fun b => m b = none) this]; exact h2
theorem newB_le {m mm m' : Mem} (h : Le mm m') : Le (newB m mm) (newB m m') := newB_mono (h.chg fun _ => False) (fun _ h => h.elim)
theorem CellsAt.on {m : Mem} {G : Nat → Prop} {a : Option Addr} {vs : List Value} (h : CellsAt m a vs) (hn : ∀ b, blk a = some b → G b) : CellsAt (on m G) a vs := by
  rcases h.cases with ⟨b, o, rfl, hx⟩ | ⟨rfl, _⟩
  · intro j u hu
    have := hx j u hu
    unfold Mem.cell at *
    rw [on_in (hn b rfl)]; exact this
  · exact CellsAt.empty _ _
/-- A place of one's own, while only r turns besides. -/
structure Cl (T : TypeId) (m mm : Mem) (r b : Nat) (c : Array Value) : Prop where
  at_ : mm b = some (.cells c T (0, 0))
  ne : b ≠ r
  new : m b = none
  ch : Chg (fun x => x = r) m mm
section
variable {T : TypeId} {m mm m' : Mem} {r b : Nat} {c : Array Value}
theorem Cl.mk0 (hr : m r ≠ none) (hb : m b = none) : Cl T m (m.set b (.cells c T (0, 0))) r b c := ⟨set_same _ _ _, fun e => hr (e ▸ hb), hb, (Le.set hb _).chg _⟩
theorem Cl.step (h : Cl T m mm r b c) (k : Chg (fun x => x = r) mm m') : Cl T m m' r b c := ⟨k.eq _ _ h.at_ h.ne, h.ne, h.new, h.ch.trans k (fun _ _ e => e)⟩
theorem Cl.le (h : Cl T m mm r b c) (k : Le mm m') : Cl T m m' r b c := h.step (k.chg _)
theorem Cl.put (h : Cl T m mm r b c) (c' : Array Value) : Cl T m (mm.set b (.cells c' T (0, 0))) r b c' := by
  refine ⟨set_same _ _ _, h.ne, h.new, ?_⟩
  refine ⟨fun x o hx hn => ?_, fun x hx => ?_⟩
  · have : x ≠ b := fun e => by subst e; rw [h.new] at hx; cases hx
    rw [set_other _ _ this]
    exact h.ch.eq x o hx hn
  · by_cases e : x = b
    · subst e; rw [set_same]; simp
    · rw [set_other _ _ e]; exact h.ch.live x hx
theorem Cl.mkAt (h : Chg (fun x => x = r) m mm) (hr : m r ≠ none) (hb : mm b = none) : Cl T m (mm.set b (.cells c T (0, 0))) r b c := by
  have hbm : m b = none := h.new hb
  exact ⟨set_same _ _ _, fun e => hr (e ▸ hbm), hbm, h.trans ((Le.set hb _).chg _) (fun _ _ e => e)⟩
end
theorem ContRx.mk {k u0 u1 u2 u3 : Int} {a : Option Addr} {l c : Nat} {K : Int → Int → Int → Int → Int → Option Addr → Nat → Nat → Mem → Prop} {Pn : List PanicEntry → Mem → Prop} {m : Mem} (h : K k u0 u1 u2 u3 a l c m) :
    Cont (fun v m => UnAgg v fun l => UnCons l fun v l => UnI v .i64 fun x0 => UnCons l fun v l => UnI v .u64 fun x1 => UnCons l fun v l => UnI v .u64 fun x2 => UnCons l fun v l => UnI v .u64 fun x3 => UnCons l fun v l => UnI v .u64 fun x4 => UnCons l fun v l => UnS v fun xa xl xc => UnNil l (K x0 x1 x2 x3 x4 xa xl xc m)) Pn
      (.returned (.agg #[.int .i64 k, .int .u64 u0, .int .u64 u1, .int .u64 u2, .int .u64 u3, .slice a l c])) m := h
theorem put6 {m : Mem} {b : Nat} {x0 x1 x2 x3 x4 x5 : Value} {k : Int} {S : Nat → Bool} {a : Option Addr} {l c : Nat} {e : TypeId} {K : Mem → Prop} (h : m b = some (.cells #[x0, x1, x2, x3, x4, x5] e (0, 0)))
    (q : K (m.set b (.cells (rxO k S (.slice a l c)) e (0, 0)))) : St1 m b 0 (.int .i64 k) fun m1 => St1 m1 b 1 (.int .u64 (L S 0)) fun m2 => St1 m2 b 2 (.int .u64 (L S 1)) fun m3 => St1 m3 b 3 (.int .u64 (L S 2)) fun m4 => St1 m4 b 4 (.int .u64 (L S 3)) fun m5 => St1 m5 b 5 (.slice a l c) K :=
  St1.six h rfl rfl rfl rfl rfl rfl q
theorem out6 {m : Mem} {b : Nat} {x0 x1 x2 x3 x4 x5 : Value} {k : Int} {S : Nat → Bool} {a : Option Addr} {l c : Nat} {e : TypeId} {K : Int → Int → Int → Int → Int → Option Addr → Nat → Nat → Mem → Prop} (h : m b = some (.cells #[x0, x1, x2, x3, x4, x5] e (0, 0)))
    (q : K k (L S 0) (L S 1) (L S 2) (L S 3) a l c (m.set b (.cells (rxO k S (.slice a l c)) e (0, 0)))) : St1 m b 0 (.int .i64 k) fun m1 => St1 m1 b 1 (.int .u64 (L S 0)) fun m2 => St1 m2 b 2 (.int .u64 (L S 1)) fun m3 => St1 m3 b 3 (.int .u64 (L S 2)) fun m4 => St1 m4 b 4 (.int .u64 (L S 3)) fun m5 => St1 m5 b 5 (.slice a l c) fun m6 =>
      LdV m6 b 0 fun v => UnI v .i64 fun y0 => LdV m6 b 1 fun v => UnI v .u64 fun y1 => LdV m6 b 2 fun v => UnI v .u64 fun y2 => LdV m6 b 3 fun v => UnI v .u64 fun y3 => LdV m6 b 4 fun v => UnI v .u64 fun y4 => LdV m6 b 5 fun v => UnS v fun ya yl yc => K y0 y1 y2 y3 y4 ya yl yc m6 :=
  put6 h (get6 (set_same _ _ _) q)
theorem noS_L (j : Nat) : L noS j = 0 := by have := L_zero j; exact this
abbrev rg (m : Mem) (r : Nat) (s : ByteArray) (d : Nat) : Prop := m r = some (.cells #[.string s, .int .i64 (d : Int)] T_regex_reader (0, 0))
abbrev refv (e : Int) : Value := .iface T_regex_refusal (.agg #[.int .i64 e])
abbrev pan (e : Int) : Ending := .panicked [{ v := refv e, recovered := false }]
/-- Glob but for what r has. -/
abbrev GlobR (m : Mem) (r : Nat) : Prop := Glob (m.wo fun b => b = r)
theorem GlobR.chg {m m' : Mem} {r : Nat} (h : GlobR m r) (k : Chg (fun b => b = r) m m') : GlobR m' r := by
  refine Glob.le h ?_
  intro b o hb
  by_cases e : b = r
  · rw [wo_out (F := fun b => b = r) e] at hb; cases hb
  · rw [wo_in (F := fun b => b = r) e] at hb ⊢
    exact k.eq b o hb e
theorem GlobR.glob {m : Mem} {r : Nat} (h : GlobR m r) : Glob m := Glob.le h (wo_le _ _)
def hdIs (l : List UInt8) (c : Nat) : Bool := decide (0 < l.length) && (nx l 0 == c)
theorem hdIs_t {l : List UInt8} {c : Nat} (h : hdIs l c = true) : ∃ x t, l = x :: t ∧ x.toNat = c := by
  unfold hdIs at h
  cases l with
  | nil => simp at h
  | cons x t =>
    refine ⟨x, t, rfl, ?_⟩
    rw [nx_cons0] at h
    simpa using h
theorem hdIs_f {l : List UInt8} {c : Nat} (h : hdIs l c = false) : ∀ x t, l = x :: t → x.toNat ≠ c := by
  rintro x t rfl
  unfold hdIs at h
  rw [nx_cons0] at h
  simpa using h
theorem u8_of {x : UInt8} {c : UInt8} (h : x.toNat = c.toNat) : x = c := UInt8.toNat_inj.mp h
theorem lst_extract (s : ByteArray) (i : Nat) : lst (s.extract i s.size) = (lst s).drop i := by
  unfold lst
  rw [ByteArray.data_extract, Array.toList_extract, List.extract_eq_take_drop]
  refine List.take_of_length_le ?_
  rw [List.length_drop, Array.length_toList]
  exact Nat.le_refl _
theorem sees_spec {m : Mem} {r : Nat} {s : ByteArray} {d c : Nat} (hr : rg m r s d) {R : Ending → Mem → Prop} (k : R (.returned (.bool (hdIs (lst s) c))) m) : HC P regex_reader_sees.id #[.pointer (some ⟨r, 0, none⟩), .int .u8 (c : Int)] m R := by
  have hll := lst_len s
  refine regex_reader_sees.ok _ _ _ _ ?_
  unfold hdIs at k
  refine LdV.s0 hr (UnStr.mk ?_)
  refine BrD (fun h => ?_) (fun h => ?_)
  · refine LdV.s0 hr (UnStr.mk ?_)
    refine ⟨by omega, by omega, ?_⟩
    show R (.returned (.bool (bt s ((0 : Nat) : Int) == (c : Int)))) m
    rw [bt_nx (by omega)]
    rw [show decide (0 < (lst s).length) = true from decide_eq_true (by omega), Bool.true_and] at k
    have : (((nx s.data.toList 0 : Nat) : Int) == (c : Int)) = (nx (lst s) 0 == c) := by
      rw [Bool.eq_iff_iff, beq_iff_eq, beq_iff_eq]; exact Int.ofNat_inj
    rw [this]; exact k
  · rw [show decide (0 < (lst s).length) = false from decide_eq_false (by omega), Bool.false_and] at k
    exact k
/-- A list of expressions under way, its own slice; what its parts have is new and elsewhere. -/
structure RL (m mm : Mem) (a : Option Addr) (c : Nat) (prs : List (Rx × Value)) : Prop where
  own : Own mm T_api_Rx 6 a prs.length c (prs.flatMap rxRow)
  fr : Fresh m a
  ok : ∀ p ∈ prs, ArgC (on mm fun b => m b = none ∧ blk a ≠ some b) p.1 p.2
theorem eRx : ElemOK P T_sl_api_Rx T_api_Rx (.agg #[.int .i64 0, .int .u64 0, .int .u64 0, .int .u64 0, .int .u64 0, .slice none 0 0]) 6 64 := .of (by kernel_rfl) (by kernel_rfl) rfl
end Go.E.Rg
set_option linter.unusedVariables false
set_option linter.unusedSimpArgs false
set_option maxRecDepth 20000
namespace Go.E.Rg
open Go.H Go.E
attribute [local irreducible] BiN MkS ConvN LookN MapUpN CallV HC limb dbTab
section
variable {m mm m3 m' : Mem} {a : Option Addr} {c : Nat} {prs : List (Rx × Value)} {r : Nat}
theorem RL.up {S : Nat → Prop} (h : RL m mm a c prs) (k : Chg S mm m3) (hs : ∀ b, S b → m b ≠ none) : RL m m3 a c prs := by
  refine ⟨h.own.chg k (fun b hb hS => hs b hS (h.fr b hb)), h.fr, fun p hp => (h.ok p hp).le ?_⟩
  exact on_mono k (fun b hb _ hS => hs b hS hb.1) (fun b hb _ => hb)
theorem RL.part (h : RL m mm a c prs) (k : Le mm m') {p : Rx × Value} (hp : p ∈ prs) : ArgC (newB m m') p.1 p.2 :=
  (h.ok p hp).le (on_mono (k.chg fun _ => False) (fun _ _ _ h => h) (fun b hb _ => hb.1))
theorem RL.arg (h : RL m mm a c prs) (k : Le mm m') (hl : prs.length ≤ 9223372036854775807) (kd : Int) (S : Nat → Bool) : ArgC (newB m m') (.mk kd S (prs.map (·.1))) (.slice a prs.length c) :=
  .mk h.own.cap hl (CellsAt.on (h.own.cells.le k) (fun b hb => h.fr b hb)) (fun p hp => h.part k hp)
theorem RL.in_ (h : RL m mm a c prs) (hm : ∀ b, m b ≠ none → mm b ≠ none) {x : Rx} {v : Value} (hx : ArgC (newB mm m3) x v) : ArgC (on m3 fun b => m b = none ∧ blk a ≠ some b) x v := by
  refine hx.le ?_
  intro b o hb
  obtain ⟨h1, h2⟩ := on_live hb
  have e1 : m b = none := by
    cases e : m b with
    | none => rfl
    | some o => exact absurd h1 (hm b (by rw [e]; simp))
  have e2 : blk a ≠ some b := fun e => h.own.live b e h1
  rw [on_in (G := fun b => m b = none ∧ blk a ≠ some b) ⟨e1, e2⟩]; exact h2
theorem RL.push (h : RL m mm a c prs) {x : Rx} {v : Value} (hv : notOne v = false) (hx : ArgC (on mm fun b => m b = none ∧ blk a ≠ some b) x v) (hlen : prs.length ≤ 1000000000) (hmm : ∀ b, m b ≠ none → mm b ≠ none) {ty : TypeId} {cs : Array Bool} {K : Value → Mem → Prop} {Pn : List PanicEntry → Mem → Prop}
    (k : ∀ a' c' m5, Chg (fun b => blk a = some b) mm m5 → RL m m5 a' c' (prs ++ [(x, v)]) → K (.slice a' (prs.length + 1) c') m5) :
    ∀ b, mm b = none → BiN P .append #[T_sl_api_Rx, T_sl_api_Rx] ty cs #[.slice a prs.length c, .slice (some ⟨b, 0, none⟩) 1 1] (mm.set b (.cells #[.int .i64 x.k, .int .u64 (L x.S 0), .int .u64 (L x.S 1), .int .u64 (L x.S 2), .int .u64 (L x.S 3), v] T_api_Rx (0, 0))) K Pn := by
  refine push_row eRx (by decide) h.own rfl ?_ hlen (by decide) ?_
  · intro u hu
    simp only [List.mem_cons, List.not_mem_nil, or_false] at hu
    rcases hu with rfl | rfl | rfl | rfl | rfl | rfl <;> first | rfl | exact hv
  intro a' c' m5 hch ho hfr
  have hf' : Fresh m a' := by
    rcases hfr with e | e
    · intro b hb; rw [e] at hb; exact h.fr b hb
    · intro b hb
      have := e b hb
      cases e2 : m b with
      | none => rfl
      | some o => exact absurd this (hmm b (by rw [e2]; simp))
  have hle : Le (on mm fun b => m b = none ∧ blk a ≠ some b) (on m5 fun b => m b = none ∧ blk a' ≠ some b) := by
    refine on_mono hch (fun b hb _ hS => hb.2 hS) (fun b hb hl => ⟨hb.1, fun e => ?_⟩)
    rcases hfr with e2 | e2
    · rw [e2] at e; exact hb.2 e
    · exact hl (e2 b e)
  refine k a' c' m5 hch ⟨?_, hf', ?_⟩
  · rw [List.flatMap_append, List.length_append]
    exact ho
  · intro p hp
    rcases List.mem_append.mp hp with hp | hp
    · exact (h.ok p hp).le hle
    · have : p = (x, v) := by simpa using hp
      subst this
      exact hx.le hle
theorem RL.one (hb : m3 r = none) (hm : ∀ b, m b ≠ none → m3 b ≠ none) {x : Rx} {v : Value} (hx : ArgC (newB m m3) x v) : RL m (m3.set r (.cells #[.int .i64 x.k, .int .u64 (L x.S 0), .int .u64 (L x.S 1), .int .u64 (L x.S 2), .int .u64 (L x.S 3), v] T_api_Rx (0, 0))) (some ⟨r, 0, none⟩) 1 [(x, v)] := by
  have hmr : m r = none := by
    cases e : m r with
    | none => rfl
    | some o => exact absurd hb (hm r (by rw [e]; simp))
  refine ⟨⟨by simp [rxRow], .inr ⟨r, _, rfl, set_same _ _ _, Nat.le_refl _, by simp, by simp [rxRow], by omega⟩⟩, fun b e => by cases e; exact hmr, ?_⟩
  intro p hp
  have : p = (x, v) := by simpa using hp
  subst this
  refine hx.le ?_
  refine on_mono ((Le.set hb _).chg fun _ => False) (fun _ _ _ h => h) (fun b h1 h2 => ⟨h1, fun e => ?_⟩)
  cases e
  exact h2 hb
end
theorem one_many (k : Int) {l : List Rx} (h : l.length ≠ 1) : one k l = .mk k noS l := by
  unfold one
  split
  · simp at h
  · rfl
theorem one_spec {m mm : Mem} {a : Option Addr} {c : Nat} {prs : List (Rx × Value)} {kind : Int} (h : RL m mm a c prs) (hne : prs ≠ []) (hl : prs.length ≤ 1000000000) {R : Ending → Mem → Prop}
    (k : ∀ m' v, Le mm m' → ArgC (newB m m') (one kind (prs.map (·.1))) v → R (.returned (rxA (one kind (prs.map (·.1))).k (one kind (prs.map (·.1))).S v)) m') :
    HC P regex_one.id #[.int .i64 kind, .slice a prs.length c] mm R := by
  refine regex_one.ok _ _ _ _ _ _ ?_
  intro b4 hb4
  have hle := Le.set hb4 (.cells #[.int .i64 0, .int .u64 0, .int .u64 0, .int .u64 0, .int .u64 0, .slice none 0 0] T_api_Rx (0, 0))
  have h4 : (mm.set b4 (.cells #[.int .i64 0, .int .u64 0, .int .u64 0, .int .u64 0, .int .u64 0, .slice none 0 0] T_api_Rx (0, 0))) b4 = _ := set_same _ _ _
  have fin : ∀ o, Le mm ((mm.set b4 (.cells #[.int .i64 0, .int .u64 0, .int .u64 0, .int .u64 0, .int .u64 0, .slice none 0 0] T_api_Rx (0, 0))).set b4 o) := by
    intro o; rw [set_set]; exact Le.set hb4 _
  refine BrE (fun e => ?_) (fun e => ?_)
  · obtain ⟨p, rfl⟩ := List.length_eq_one_iff.mp (show prs.length = 1 by omega)
    obtain ⟨a', l', c', hv⟩ := (h.ok p (by simp)).sl
    refine IxS.rx6 (prs := [p]) (h.own.cells.le hle) (j := 0) (by simp) (a' := a') (l' := l') (c' := c') hv ?_
    refine out6 h4 ?_
    have := k _ p.2 (fin _) (h.part (fin (.cells (rxO p.1.k p.1.S (.slice a' l' c')) T_api_Rx (0, 0))) (by simp))
    rw [hv] at this
    exact this
  · have e1 := one_many kind (l := prs.map (·.1)) (by rw [List.length_map]; omega)
    rw [e1] at k
    have hz : ∀ j, L noS j = 0 := noS_L
    have := k _ (.slice a prs.length c) (fin (.cells (rxO kind noS (.slice a prs.length c)) T_api_Rx (0, 0))) (h.arg (fin _) (by omega) kind noS)
    have key := out6 (k := kind) (S := noS) (a := a) (l := prs.length) (c := c) (e := T_api_Rx) (K := fun y0 y1 y2 y3 y4 ya yl yc m6 => R (.returned (.agg #[.int .i64 y0, .int .u64 y1, .int .u64 y2, .int .u64 y3, .int .u64 y4, .slice ya yl yc])) m6) h4 this
    rw [hz, hz, hz, hz] at key
    exact key
/-- A part of the reader: what it reads, or how it fails. -/
def RdOK (id : FuncId) (f : List UInt8 → Res) (d : Nat) : Prop := ∀ {m : Mem} {r : Nat} {s : ByteArray} {R : Ending → Mem → Prop}, rg m r s d → GlobR m r → s.size ≤ 1000000 →
  (∀ x t, f (lst s) = .ok (x, t) → ∀ m' v s', Chg (fun b => b = r) m m' → rg m' r s' d → lst s' = t → ArgC (newB m m') x v → R (.returned (rxA x.k x.S v)) m') →
  (∀ e, f (lst s) = .error e → ∀ m', Chg (fun b => b = r) m m' → R (pan e) m') → HC P id #[.pointer (some ⟨r, 0, none⟩)] m R
abbrev zRx : Array Value := #[.int .i64 0, .int .u64 0, .int .u64 0, .int .u64 0, .int .u64 0, .slice none 0 0]
theorem atom_ok {n d : Nat} (hd : d ≤ 13) (hA : d < 13 → RdOK regex_reader_alt.id (pAlt n (d + 1)) (d + 1)) : RdOK regex_reader_atom.id (atomF (pAlt n) d) d := by
  intro m r s R hr hG hs k kp
  have hll := lst_len s
  have hrl : m r ≠ none := by rw [hr]; simp
  refine regex_reader_atom.ok _ _ _ ?_
  intro b2 hb2
  have c2 := Cl.mk0 (T := T_api_Rx) (c := zRx) hrl hb2
  have hle1 : Le m (m.set b2 (.cells zRx T_api_Rx (0, 0))) := Le.set hb2 _
  have hl2 : (m.set b2 (.cells zRx T_api_Rx (0, 0))) b2 ≠ none := by rw [set_same]; simp
  generalize m.set b2 (.cells zRx T_api_Rx (0, 0)) = m1 at c2 hle1 hl2 ⊢
  have hr1 : rg m1 r s d := hle1 _ _ hr
  have hup : ∀ b, m b ≠ none → m1 b ≠ none := fun b hb => hle1.live hb
  refine sees_spec (c := 40) hr1 ?_
  dsimp only [Cont]
  refine UnB.mk ?_
  refine Br.mk (fun h => ?_) (fun h => ?_)
  · have hno : hdIs (lst s) 40 = false := by simpa using h
    have hf : atomF (pAlt n) d (lst s) = (match cls (lst s) with
        | some (S, n) => .ok (.mk 1 S [], (lst s).drop n)
        | none => .error 2) := by
      unfold atomF
      split
      · rename_i t e
        exact absurd rfl (hdIs_f hno 40 t e)
      · rfl
    rw [hf] at k kp
    refine LdV.s0 hr1 (UnStr.mk ?_)
    refine Parse_spec (hG.chg c2.ch).glob (by omega) (fun S e hc m3 hle3 => ?_) (fun hc m3 hle3 => ?_)
    · have hcl := cls_len hc
      refine ContP.mk ?_
      refine own4 ?_
      intro b3 m8 hle8 hb3 e3
      have hr8 : rg m8 r s d := hle8 _ _ (hle3 _ _ hr1)
      have c3 := c2.le (hle3.trans hle8)
      have h3r : b3 ≠ r := by rintro rfl; rw [hle3 _ _ hr1] at hb3; cases hb3
      refine BrNf rfl ?_
      refine LdV.s0 hr8 (UnStr.mk ?_)
      refine ⟨by omega, by omega, by omega, ?_⟩
      simp only [Int.toNat_natCast]
      refine St1.to #[.string (s.extract e s.size), .int .i64 (d : Int)] hr8 (by simp) rfl rfl ?_
      have c4 := c3.step (Chg.set m8 r (.cells #[.string (s.extract e s.size), .int .i64 (d : Int)] T_regex_reader (0, 0)))
      refine get4 (by rw [set_other _ _ h3r]; exact e3) ?_
      refine out6 (S := S) c4.at_ ?_
      have c5 := c4.put (rxO 1 S (.slice none 0 0))
      refine k (.mk 1 S []) _ (by rw [hc]) _ (.slice none 0 0) (s.extract e s.size) c5.ch ?_ (lst_extract s e) ArgC.none
      show _ = _
      rw [set_other _ _ c5.ne.symm]; exact set_same _ _ _
    · refine ContP.mk ?_
      refine own4 ?_
      intro b3 m8 hle8 hb3 e3
      refine BrNt (by decide) ?_
      exact kp 2 (by rw [hc]) m8 (c2.le (hle3.trans hle8)).ch
  · have hyes : hdIs (lst s) 40 = true := by simpa using h
    obtain ⟨x0, t, hst, hx0⟩ := hdIs_t hyes
    have : x0 = 40 := u8_of hx0
    subst this
    have hf : atomF (pAlt n) d (lst s) = (if 13 ≤ d then .error 6 else match pAlt n (d + 1) t with
      | .ok (x, 41 :: s'') => .ok (x, s'')
      | .ok _ => .error 2
      | .error e => .error e) := by
      rw [hst]; rfl
    rw [hf] at k kp
    refine LdV.s1 hr1 (UnI.mk ?_)
    rw [wi (by omega) (by omega)]
    refine St1.to #[.string s, .int .i64 ((d + 1 : Nat) : Int)] hr1 (by simp) rfl rfl ?_
    have c3 := c2.step (Chg.set m1 r (.cells #[.string s, .int .i64 ((d + 1 : Nat) : Int)] T_regex_reader (0, 0)))
    have hr3 : rg (m1.set r (.cells #[.string s, .int .i64 ((d + 1 : Nat) : Int)] T_regex_reader (0, 0))) r s (d + 1) := set_same _ _ _
    refine LdV.s1 hr3 (UnI.mk ?_)
    refine BrD (fun hgt => ?_) (fun hle => ?_)
    · exact kp 6 (by rw [if_pos (by omega)]) _ c3.ch
    have hd13 : d < 13 := by omega
    rw [if_neg (by omega)] at k kp
    refine LdV.s0 hr3 (UnStr.mk ?_)
    have hsz : 1 ≤ s.size := by rw [← hll, hst]; simp
    refine ⟨by omega, by omega, by omega, ?_⟩
    refine St1.to #[.string (s.extract 1 s.size), .int .i64 ((d + 1 : Nat) : Int)] hr3 (by simp) rfl (by simp) ?_
    rw [set_set]
    have hr4 : rg (m1.set r (.cells #[.string (s.extract 1 s.size), .int .i64 ((d + 1 : Nat) : Int)] T_regex_reader (0, 0))) r (s.extract 1 s.size) (d + 1) := set_same _ _ _
    have hch4 := Chg.set m1 r (.cells #[.string (s.extract 1 s.size), .int .i64 ((d + 1 : Nat) : Int)] T_regex_reader (0, 0))
    have hlt : lst (s.extract 1 s.size) = t := by rw [lst_extract, hst]; rfl
    have hzt : (s.extract 1 s.size).size ≤ 1000000 := by
      rw [← lst_len, hlt]
      have : t.length + 1 = s.size := by rw [← hll, hst]; simp
      omega
    have hl14 : ∀ b, m1 b ≠ none → (m1.set r (.cells #[.string (s.extract 1 s.size), .int .i64 ((d + 1 : Nat) : Int)] T_regex_reader (0, 0))) b ≠ none := fun b hb => hch4.live b hb
    generalize (m1.set r (.cells #[.string (s.extract 1 s.size), .int .i64 ((d + 1 : Nat) : Int)] T_regex_reader (0, 0))) = m4 at hr4 hch4 hl14 ⊢
    have c4 := c2.step hch4
    refine hA hd13 hr4 (hG.chg c4.ch) hzt (fun x t' hx m5 v s' hch5 hr5 hs' hv => ?_) (fun e he m5 hch5 => ?_)
    rotate_left
    · rw [hlt] at he
      exact kp e (by rw [he]) m5 (c4.step hch5).ch
    rw [hlt] at hx
    rw [hx] at k kp
    have c5 := c4.step hch5
    obtain ⟨a', l', c', rfl⟩ := hv.sl
    refine ContRx.mk ?_
    refine copyRx ?_
    intro b6 m12 hb6 hle12 e6
    have hr12 : rg m12 r s' (d + 1) := hle12 _ _ hr5
    have c6 := c5.le hle12
    refine sees_spec (c := 41) hr12 ?_
    dsimp only [Cont]
    refine UnB.mk ?_
    rw [hs']
    refine Br.mk (fun h41 => ?_) (fun h41 => ?_)
    · have h41 : hdIs t' 41 = false := by simpa using h41
      refine kp 2 ?_ _ c6.ch
      split
      · rename_i x' t'' e
        cases e
        exact absurd rfl (hdIs_f h41 41 _ rfl)
      · rfl
      · rename_i e; cases e
    have h41 : hdIs t' 41 = true := by simpa using h41
    obtain ⟨x1, t2, rfl, hx1⟩ := hdIs_t h41
    have : x1 = 41 := u8_of hx1
    subst this
    have hz' : 1 ≤ s'.size := by rw [← lst_len s', hs']; simp
    have h6r : b6 ≠ r := by rintro rfl; rw [hr5] at hb6; cases hb6
    refine LdV.s0 hr12 (UnStr.mk ?_)
    refine ⟨by omega, by omega, by omega, ?_⟩
    refine St1.to #[.string (s'.extract 1 s'.size), .int .i64 ((d + 1 : Nat) : Int)] hr12 (by simp) rfl (by simp) ?_
    have hr13 : rg (m12.set r (.cells #[.string (s'.extract 1 s'.size), .int .i64 ((d + 1 : Nat) : Int)] T_regex_reader (0, 0))) r (s'.extract 1 s'.size) (d + 1) := set_same _ _ _
    refine LdV.s1 hr13 (UnI.mk ?_)
    rw [wi (n := ((d + 1 : Nat) : Int) - 1) (by omega) (by omega), show ((d + 1 : Nat) : Int) - 1 = (d : Int) by omega]
    refine St1.to #[.string (s'.extract 1 s'.size), .int .i64 (d : Int)] hr13 (by simp) rfl rfl ?_
    rw [set_set]
    have hch14 := Chg.set m12 r (.cells #[.string (s'.extract 1 s'.size), .int .i64 (d : Int)] T_regex_reader (0, 0))
    have hr14 : rg (m12.set r (.cells #[.string (s'.extract 1 s'.size), .int .i64 (d : Int)] T_regex_reader (0, 0))) r (s'.extract 1 s'.size) d := set_same _ _ _
    have e6' : (m12.set r (.cells #[.string (s'.extract 1 s'.size), .int .i64 (d : Int)] T_regex_reader (0, 0))) b6 = _ := (set_other _ _ h6r).trans e6
    generalize (m12.set r (.cells #[.string (s'.extract 1 s'.size), .int .i64 (d : Int)] T_regex_reader (0, 0))) = m14 at hch14 hr14 e6' ⊢
    have c7 := c6.step hch14
    refine get6 e6' ?_
    refine out6 (S := x.S) c7.at_ ?_
    have c8 := c7.put (rxO x.k x.S (.slice a' l' c'))
    refine k x t2 rfl _ (.slice a' l' c') (s'.extract 1 s'.size) c8.ch ?_ (by rw [lst_extract, hs']; rfl) ?_
    · show _ = _
      rw [set_other _ _ c8.ne.symm]; exact hr14
    · have h1 : ArgC (newB m4 m14) x (.slice a' l' c') := hv.le ((newB_le hle12).trans (newB_mono hch14 (fun b e => by rw [show b = r from e, hr4]; simp)))
      have h2 : ArgC (newB m4 (m14.set b2 (.cells (rxO x.k x.S (.slice a' l' c')) T_api_Rx (0, 0)))) x (.slice a' l' c') := h1.le (newB_mono (Chg.set m14 b2 _) (fun b e => by rw [show b = b2 from e]; exact hl14 _ hl2))
      exact h2.le (newB_up fun b hb => hl14 b (hup b hb))
end Go.E.Rg
set_option linter.unusedVariables false
set_option linter.unusedSimpArgs false
set_option maxRecDepth 20000
namespace Go.E.Rg
open Go.H Go.E
attribute [local irreducible] BiN MkS ConvN LookN MapUpN CallV HC limb dbTab
theorem ix_sg : ∀ c, c < 256 → ixB (ByteArray.mk #[42, 43, 63]) c = (match sgI (UInt8.ofNat c) with | some k => k - 4 | none => -1) := by decide +kernel
theorem sgI_in {c : UInt8} {k : Int} (h : sgI c = some k) : 4 ≤ k ∧ k ≤ 6 := by
  unfold sgI at h
  split at h; · cases h; omega
  split at h; · cases h; omega
  split at h
  · cases h; omega
  · cases h
theorem rep_ok {alt : Nat → List UInt8 → Res} {d : Nat} (hA : RdOK regex_reader_atom.id (atomF alt d) d) : RdOK regex_reader_rep.id (repF alt d) d := by
  intro m r s R hr hG hs k kp
  have hrl : m r ≠ none := by rw [hr]; simp
  refine regex_reader_rep.ok _ _ _ ?_
  intro b2 hb2
  have c2 := Cl.mk0 (T := T_api_Rx) (c := zRx) hrl hb2
  have hle1 : Le m (m.set b2 (.cells zRx T_api_Rx (0, 0))) := Le.set hb2 _
  have hl2 : (m.set b2 (.cells zRx T_api_Rx (0, 0))) b2 ≠ none := by rw [set_same]; simp
  generalize m.set b2 (.cells zRx T_api_Rx (0, 0)) = m1 at c2 hle1 hl2 ⊢
  have hr1 : rg m1 r s d := hle1 _ _ hr
  have hrl1 : m1 r ≠ none := by rw [hr1]; simp
  have hup : ∀ b, m b ≠ none → m1 b ≠ none := fun b hb => hle1.live hb
  refine hA hr1 (hG.chg c2.ch) hs (fun x t hx m2 v s' hch2 hr2 hs' hv => ?_) (fun e he m2 hch2 => ?_)
  rotate_left
  · exact kp e (by unfold repF; rw [he]) m2 (c2.step hch2).ch
  have hll := lst_len s'
  obtain ⟨a', l', c', rfl⟩ := hv.sl
  refine ContRx.mk ?_
  refine copyRx ?_
  intro b3 m9 hb3 hle9 e3
  have c9 := (c2.step hch2).le hle9
  have hr9 : rg m9 r s' d := hle9 _ _ hr2
  have h3r : b3 ≠ r := by rintro rfl; rw [hr2] at hb3; cases hb3
  have hv9 := hv.le (newB_le hle9)
  -- the answer x itself
  have plain : ∀ m10, Le m9 m10 → repF alt d (lst s) = .ok (x, t) →
      (LdV m10 b3 0 fun v => UnI v .i64 fun y0 => LdV m10 b3 1 fun v => UnI v .u64 fun y1 => LdV m10 b3 2 fun v => UnI v .u64 fun y2 => LdV m10 b3 3 fun v => UnI v .u64 fun y3 => LdV m10 b3 4 fun v => UnI v .u64 fun y4 => LdV m10 b3 5 fun v => UnS v fun ya yl yc =>
        St1 m10 b2 0 (.int .i64 y0) fun m1 => St1 m1 b2 1 (.int .u64 y1) fun m2 => St1 m2 b2 2 (.int .u64 y2) fun m3 => St1 m3 b2 3 (.int .u64 y3) fun m4 => St1 m4 b2 4 (.int .u64 y4) fun m5 => St1 m5 b2 5 (.slice ya yl yc) fun m6 =>
        LdV m6 b2 0 fun v => UnI v .i64 fun y0 => LdV m6 b2 1 fun v => UnI v .u64 fun y1 => LdV m6 b2 2 fun v => UnI v .u64 fun y2 => LdV m6 b2 3 fun v => UnI v .u64 fun y3 => LdV m6 b2 4 fun v => UnI v .u64 fun y4 => LdV m6 b2 5 fun v => UnS v fun ya yl yc =>
        R (.returned (.agg #[.int .i64 y0, .int .u64 y1, .int .u64 y2, .int .u64 y3, .int .u64 y4, .slice ya yl yc])) m6) := by
    intro m10 hle10 hrep
    have c10 := c9.le hle10
    refine get6 (hle10 _ _ e3) ?_
    refine out6 (S := x.S) c10.at_ ?_
    have c11 := c10.put (rxO x.k x.S (.slice a' l' c'))
    refine k x t hrep _ (.slice a' l' c') s' c11.ch ?_ hs' ?_
    · show _ = _
      rw [set_other _ _ c11.ne.symm]; exact hle10 _ _ hr9
    · exact (hv9.le ((newB_le hle10).trans (newB_mono (Chg.set m10 b2 _) (fun b e => by rw [show b = b2 from e]; exact hl2)))).le (newB_up hup)
  refine LdV.s0 hr9 (UnStr.mk ?_)
  refine BrE (fun h0 => ?_) (fun h0 => ?_)
  · have : t = [] := List.eq_nil_of_length_eq_zero (by rw [← hs', hll]; omega)
    exact plain m9 (Le.refl _) (by unfold repF; rw [hx, this])
  obtain ⟨c, t', ht⟩ : ∃ c t', t = c :: t' := by
    cases t with
    | nil => rw [hs'] at hll; simp at hll; omega
    | cons c t' => exact ⟨c, t', rfl⟩
  refine LdV.s0 hr9 (UnStr.mk ?_)
  refine ⟨by omega, by omega, ?_⟩
  have hb : bt s' 0 = (c.toNat : Int) := by
    show bt s' ((0 : Nat) : Int) = _
    rw [bt_nx (by omega)]
    show ((nx (lst s') 0 : Nat) : Int) = _
    rw [hs', ht, nx_cons0]
  rw [hb]
  have hc := UInt8.toNat_lt c
  refine IndexByte_spec hc ?_
  dsimp only [Cont]
  refine UnI.mk ?_
  rw [ix_sg _ hc, UInt8.ofNat_toNat]
  cases hk : sgI c with
  | none =>
    refine BrDt (by decide) ?_
    exact plain m9 (Le.refl _) (by unfold repF; rw [hx, ht]; dsimp only; rw [hk])
  | some kk =>
    have hkk := sgI_in hk
    refine BrDf (show ¬ (kk - 4 < 0) by omega) ?_
    have hrep : repF alt d (lst s) = .ok (.mk kk noS [x], t') := by unfold repF; rw [hx, ht]; dsimp only; rw [hk]
    refine LdV.s0 hr9 (UnStr.mk ?_)
    refine ⟨by omega, by omega, by omega, ?_⟩
    refine St1.to #[.string (s'.extract 1 s'.size), .int .i64 (d : Int)] hr9 (by simp) rfl (by simp) ?_
    have hch11 := Chg.set m9 r (.cells #[.string (s'.extract 1 s'.size), .int .i64 (d : Int)] T_regex_reader (0, 0))
    have hr11 : rg (m9.set r (.cells #[.string (s'.extract 1 s'.size), .int .i64 (d : Int)] T_regex_reader (0, 0))) r (s'.extract 1 s'.size) d := set_same _ _ _
    have e3' : (m9.set r (.cells #[.string (s'.extract 1 s'.size), .int .i64 (d : Int)] T_regex_reader (0, 0))) b3 = _ := (set_other _ _ h3r).trans e3
    generalize (m9.set r (.cells #[.string (s'.extract 1 s'.size), .int .i64 (d : Int)] T_regex_reader (0, 0))) = m11 at hch11 hr11 e3' ⊢
    have c11 := c9.step hch11
    have hv11 := hv9.le (newB_mono hch11 (fun b e => by rw [show b = r from e]; exact hrl1))
    have hup11 : ∀ b, m1 b ≠ none → m11 b ≠ none := fun b hb => hch11.live b (hle9.live (hch2.live b hb))
    refine get6 e3' ?_
    intro b34 hb34
    have hL := RL.one (m := m1) hb34 hup11 hv11
    have c12 := c11.le (Le.set hb34 (.cells #[.int .i64 x.k, .int .u64 (L x.S 0), .int .u64 (L x.S 1), .int .u64 (L x.S 2), .int .u64 (L x.S 3), .slice a' l' c'] T_api_Rx (0, 0)))
    have hr12 : rg (m11.set b34 (.cells #[.int .i64 x.k, .int .u64 (L x.S 0), .int .u64 (L x.S 1), .int .u64 (L x.S 2), .int .u64 (L x.S 3), .slice a' l' c'] T_api_Rx (0, 0))) r (s'.extract 1 s'.size) d := Le.set hb34 _ _ _ hr11
    generalize (m11.set b34 (.cells #[.int .i64 x.k, .int .u64 (L x.S 0), .int .u64 (L x.S 1), .int .u64 (L x.S 2), .int .u64 (L x.S 3), .slice a' l' c'] T_api_Rx (0, 0))) = m12 at hL c12 hr12 ⊢
    have ekk : IntKind.i64.wrap (4 + (kk - 4)) = kk := by rw [wi (by omega) (by omega)]; omega
    rw [ekk]
    have c13 := c12.put (rxO kk noS (.slice (some ⟨b34, 0, none⟩) 1 1))
    have hL13 := hL.up (Chg.set m12 b2 (.cells (rxO kk noS (.slice (some ⟨b34, 0, none⟩) 1 1)) T_api_Rx (0, 0))) (fun b e => by rw [show b = b2 from e]; exact hl2)
    have hfin := k (.mk kk noS [x]) t' hrep _ (.slice (some ⟨b34, 0, none⟩) 1 1) (s'.extract 1 s'.size) c13.ch (by
      show _ = _
      rw [set_other _ _ c13.ne.symm]; exact hr12) (by rw [lst_extract, hs', ht]; rfl) ((hL13.arg (Le.refl _) (by simp) kk noS).le (newB_up hup))
    have key := out6 (k := kk) (S := noS) (a := some ⟨b34, 0, none⟩) (l := 1) (c := 1) (e := T_api_Rx) (K := fun y0 y1 y2 y3 y4 ya yl yc m6 => R (.returned (.agg #[.int .i64 y0, .int .u64 y1, .int .u64 y2, .int .u64 y3, .int .u64 y4, .slice ya yl yc])) m6) c12.at_ hfin
    rw [noS_L, noS_L, noS_L, noS_L] at key
    exact key
theorem Cl.app {T : TypeId} {m m1 mm m' : Mem} {r b : Nat} {c : Array Value} {a : Option Addr} (h : Cl T m mm r b c) (k : Chg (fun x => blk a = some x) mm m') (hf : Fresh m1 a) (hb : m1 b ≠ none) (hm : ∀ b, m b ≠ none → m1 b ≠ none) : Cl T m m' r b c := by
  refine ⟨k.eq _ _ h.at_ (fun e => hb (hf b e)), h.ne, h.new, ?_⟩
  refine h.ch.trans k (fun x hx e => ?_)
  exact absurd (hf x e) (hm x hx)
/-- The end of a list: what 'one' makes of it is the answer. -/
theorem one_fin {m m1 mm : Mem} {r b2 d : Nat} {kind : Int} {a : Option Addr} {c : Nat} {prs : List (Rx × Value)} {s' : ByteArray} {R : Ending → Mem → Prop} (c2 : Cl T_api_Rx m mm r b2 zRx) (hl2 : m1 b2 ≠ none) (hup : ∀ b, m b ≠ none → m1 b ≠ none)
    (hr : rg mm r s' d) (hL : RL m1 mm a c prs) (hne : prs ≠ []) (hl : prs.length ≤ 1000000000)
    (k : ∀ m' v, Chg (fun b => b = r) m m' → rg m' r s' d → ArgC (newB m m') (one kind (prs.map (·.1))) v → R (.returned (rxA (one kind (prs.map (·.1))).k (one kind (prs.map (·.1))).S v)) m') :
    HC P regex_one.id #[.int .i64 kind, .slice a prs.length c] mm (Cont (fun v m => UnAgg v fun l => UnCons l fun v l => UnI v .i64 fun x0 => UnCons l fun v l => UnI v .u64 fun x1 => UnCons l fun v l => UnI v .u64 fun x2 => UnCons l fun v l => UnI v .u64 fun x3 => UnCons l fun v l => UnI v .u64 fun x4 => UnCons l fun v l => UnS v fun xa xl xc => UnNil l (
      St1 m b2 0 (.int .i64 x0) fun m1 => St1 m1 b2 1 (.int .u64 x1) fun m2 => St1 m2 b2 2 (.int .u64 x2) fun m3 => St1 m3 b2 3 (.int .u64 x3) fun m4 => St1 m4 b2 4 (.int .u64 x4) fun m5 => St1 m5 b2 5 (.slice xa xl xc) fun m6 =>
        LdV m6 b2 0 fun v => UnI v .i64 fun y0 => LdV m6 b2 1 fun v => UnI v .u64 fun y1 => LdV m6 b2 2 fun v => UnI v .u64 fun y2 => LdV m6 b2 3 fun v => UnI v .u64 fun y3 => LdV m6 b2 4 fun v => UnI v .u64 fun y4 => LdV m6 b2 5 fun v => UnS v fun ya yl yc =>
        R (.returned (.agg #[.int .i64 y0, .int .u64 y1, .int .u64 y2, .int .u64 y3, .int .u64 y4, .slice ya yl yc])) m6)) (panicR R)) := by
  refine one_spec hL hne hl ?_
  intro m3 v hle3 hv
  obtain ⟨a', l', c', rfl⟩ := hv.sl
  refine ContRx.mk ?_
  have c3 := c2.le hle3
  refine out6 (S := (one kind (prs.map (·.1))).S) c3.at_ ?_
  have c4 := c3.put (rxO (one kind (prs.map (·.1))).k (one kind (prs.map (·.1))).S (.slice a' l' c'))
  refine k _ (.slice a' l' c') c4.ch ?_ ?_
  · show _ = _
    rw [set_other _ _ c4.ne.symm]; exact hle3 _ _ hr
  · exact (hv.le (newB_mono (Chg.set m3 b2 _) (fun b e => by rw [show b = b2 from e]; exact hl2))).le (newB_up hup)
theorem cat_ok {alt : Nat → List UInt8 → Res} (hsh : Shr alt) {d : Nat} (hA : RdOK regex_reader_rep.id (repF alt d) d) : RdOK regex_reader_cat.id (catF alt d) d := by
  intro m r s R hr hG hs k kp
  have hll := lst_len s
  have hrl : m r ≠ none := by rw [hr]; simp
  refine regex_reader_cat.ok _ _ _ ?_
  intro b2 hb2
  have c2 := Cl.mk0 (T := T_api_Rx) (c := zRx) hrl hb2
  have hle1 : Le m (m.set b2 (.cells zRx T_api_Rx (0, 0))) := Le.set hb2 _
  have hl2 : (m.set b2 (.cells zRx T_api_Rx (0, 0))) b2 ≠ none := by rw [set_same]; simp
  generalize m.set b2 (.cells zRx T_api_Rx (0, 0)) = m1 at c2 hle1 hl2 ⊢
  have hr1 : rg m1 r s d := hle1 _ _ hr
  have hrl1 : m1 r ≠ none := by rw [hr1]; simp
  have hup : ∀ b, m b ≠ none → m1 b ≠ none := fun b hb => hle1.live hb
  refine hA hr1 (hG.chg c2.ch) hs (fun x t hx m2 v s1 hch2 hr2 hs1 hv => ?_) (fun e he m2 hch2 => ?_)
  rotate_left
  · exact kp e (by unfold catF; rw [he]) m2 (c2.step hch2).ch
  obtain ⟨a', l', c', rfl⟩ := hv.sl
  have hlen1 := rep_len hsh hx
  refine ContRx.mk ?_
  intro b6 hb6
  have hup2 : ∀ b, m1 b ≠ none → m2 b ≠ none := fun b hb => hch2.live b hb
  have hL0 := RL.one (m := m1) hb6 hup2 hv
  have c3 := (c2.step hch2).le (Le.set hb6 (.cells #[.int .i64 x.k, .int .u64 (L x.S 0), .int .u64 (L x.S 1), .int .u64 (L x.S 2), .int .u64 (L x.S 3), .slice a' l' c'] T_api_Rx (0, 0)))
  have hr3 : rg (m2.set b6 (.cells #[.int .i64 x.k, .int .u64 (L x.S 0), .int .u64 (L x.S 1), .int .u64 (L x.S 2), .int .u64 (L x.S 3), .slice a' l' c'] T_api_Rx (0, 0))) r s1 d := Le.set hb6 _ _ _ hr2
  have hup3 : ∀ b, m1 b ≠ none → (m2.set b6 (.cells #[.int .i64 x.k, .int .u64 (L x.S 0), .int .u64 (L x.S 1), .int .u64 (L x.S 2), .int .u64 (L x.S 3), .slice a' l' c'] T_api_Rx (0, 0))) b ≠ none := fun b hb => (Le.set hb6 _).live (hup2 b hb)
  generalize (m2.set b6 (.cells #[.int .i64 x.k, .int .u64 (L x.S 0), .int .u64 (L x.S 1), .int .u64 (L x.S 2), .int .u64 (L x.S 3), .slice a' l' c'] T_api_Rx (0, 0))) = m3 at hL0 c3 hr3 hup3 ⊢
  have hcat : catF alt d (lst s) = (match catL alt d (t.length + 1) [x] t with
    | .ok (l, s'') => .ok (one 2 l, s'')
    | .error e => .error e) := by unfold catF; rw [hx]; first | done | rfl
  refine ⟨fun N r0 x2b x2o la ll lc mm => r0 = some ⟨r, 0, none⟩ ∧ x2b = b2 ∧ x2o = 0 ∧ ∃ (prs : List (Rx × Value)) (s' : ByteArray), ll = prs.length ∧ prs ≠ [] ∧ prs.length + (lst s').length ≤ s.size ∧ N = (lst s').length ∧ Cl T_api_Rx m mm r b2 zRx ∧ rg mm r s' d ∧ RL m1 mm la lc prs ∧ (∀ b, m1 b ≠ none → mm b ≠ none) ∧ ∃ n, (lst s').length < n ∧ catL alt d n (prs.map (·.1)) (lst s') = catL alt d (t.length + 1) [x] t,
    t.length, ⟨rfl, rfl, rfl, [(x, .slice a' l' c')], s1, rfl, by simp, by rw [hs1]; simp; omega, by rw [hs1], c3, hr3, hL0, hup3, t.length + 1, by rw [hs1]; omega, by rw [hs1]; rfl⟩, ?_⟩
  rintro N r0 x2b x2o la ll lc mm ⟨rfl, rfl, rfl, prs, s', rfl, hne, hbd, rfl, cm, hrm, hL, hupm, n, hn, hcl⟩
  have hls := lst_len s'
  unfold regex_reader_cat.l1B
  obtain ⟨n, rfl⟩ : ∃ n', n = n' + 1 := ⟨n - 1, by omega⟩
  -- the end
  have stop : catL alt d (n + 1) (prs.map (·.1)) (lst s') = .ok (prs.map (·.1), lst s') → ∀ {R' : Ending → Mem → Prop}, R' = R → HC P regex_one.id #[.int .i64 2, .slice la prs.length lc] mm (Cont (fun v m => UnAgg v fun l => UnCons l fun v l => UnI v .i64 fun x0 => UnCons l fun v l => UnI v .u64 fun x1 => UnCons l fun v l => UnI v .u64 fun x2 => UnCons l fun v l => UnI v .u64 fun x3 => UnCons l fun v l => UnI v .u64 fun x4 => UnCons l fun v l => UnS v fun xa xl xc => UnNil l (
      St1 m x2b 0 (.int .i64 x0) fun m1 => St1 m1 x2b 1 (.int .u64 x1) fun m2 => St1 m2 x2b 2 (.int .u64 x2) fun m3 => St1 m3 x2b 3 (.int .u64 x3) fun m4 => St1 m4 x2b 4 (.int .u64 x4) fun m5 => St1 m5 x2b 5 (.slice xa xl xc) fun m6 =>
        LdV m6 x2b 0 fun v => UnI v .i64 fun y0 => LdV m6 x2b 1 fun v => UnI v .u64 fun y1 => LdV m6 x2b 2 fun v => UnI v .u64 fun y2 => LdV m6 x2b 3 fun v => UnI v .u64 fun y3 => LdV m6 x2b 4 fun v => UnI v .u64 fun y4 => LdV m6 x2b 5 fun v => UnS v fun ya yl yc =>
        R (.returned (.agg #[.int .i64 y0, .int .u64 y1, .int .u64 y2, .int .u64 y3, .int .u64 y4, .slice ya yl yc])) m6)) (panicR R')) := by
    rintro hst R' rfl
    refine one_fin cm hl2 hup hrm hL hne (by omega) ?_
    intro m' v hch hr' hv'
    refine k _ (lst s') ?_ m' v s' hch hr' rfl hv'
    rw [hcat, ← hcl, hst]
  refine LdV.s0 hrm (UnStr.mk ?_)
  refine BrD (fun hpos => ?_) (fun hz => ?_)
  rotate_left
  · have : lst s' = [] := List.eq_nil_of_length_eq_zero (by omega)
    exact stop (by unfold catL; rw [this]) rfl
  obtain ⟨c, t', ht⟩ : ∃ c t', lst s' = c :: t' := by
    cases h : lst s' with
    | nil => rw [h] at hls; simp at hls; omega
    | cons c t' => exact ⟨c, t', rfl⟩
  have hlen' : t'.length + 1 = s'.size := by rw [← hls, ht]; simp
  refine sees_spec (c := 124) hrm ?_
  dsimp only [Cont]
  refine UnB.mk ?_
  refine Br.mk (fun h1 => ?_) (fun h1 => ?_)
  rotate_left
  · have h1 : hdIs (lst s') 124 = true := by simpa using h1
    obtain ⟨c0, t0, e0, hc0⟩ := hdIs_t h1
    have : c0 = 124 := u8_of hc0
    subst this
    exact stop (by unfold catL; rw [e0]; dsimp only; rw [if_pos (.inl rfl)]) rfl
  have h1 : hdIs (lst s') 124 = false := by simpa using h1
  refine sees_spec (c := 41) hrm ?_
  dsimp only [Cont]
  refine UnB.mk ?_
  refine Br.mk (fun h2 => ?_) (fun h2 => ?_)
  rotate_left
  · have h2 : hdIs (lst s') 41 = true := by simpa using h2
    obtain ⟨c0, t0, e0, hc0⟩ := hdIs_t h2
    have : c0 = 41 := u8_of hc0
    subst this
    exact stop (by unfold catL; rw [e0]; dsimp only; rw [if_pos (.inr rfl)]) rfl
  have h2 : hdIs (lst s') 41 = false := by simpa using h2
  have hno : ¬ (c = 124 ∨ c = 41) := by
    rintro (rfl | rfl)
    · exact hdIs_f h1 _ _ ht rfl
    · exact hdIs_f h2 _ _ ht rfl
  have hstep : catL alt d (n + 1) (prs.map (·.1)) (lst s') = (match repF alt d (lst s') with
      | .ok (x, s') => catL alt d n ((prs.map (·.1)) ++ [x]) s'
      | .error e => .error e) := by
    rw [ht]
    conv => lhs; unfold catL
    dsimp only
    rw [if_neg hno]
    first | done | rfl
  rw [hstep] at hcl
  refine hA hrm (hG.chg cm.ch) (by omega) (fun x2 t2 hx2 m5 v2 s2 hch5 hr5 hs2 hv2 => ?_) (fun e he m5 hch5 => ?_)
  rotate_left
  · exact kp e (by rw [hcat, ← hcl, he]) m5 (cm.step hch5).ch
  obtain ⟨a2, l2, c2', rfl⟩ := hv2.sl
  have hlen2 := rep_len hsh hx2
  refine ContRx.mk ?_
  have hL5 := hL.up hch5 (fun b e => by rw [show b = r from e]; exact hrl1)
  have hx5 := hL.in_ hupm hv2
  have hup5 : ∀ b, m1 b ≠ none → m5 b ≠ none := fun b hb => hch5.live b (hupm b hb)
  refine RL.push hL5 (x := x2) rfl hx5 (by omega) hup5 ?_
  intro a6 c6 m6 hch6 hL6
  refine UnS.mk ?_
  have cm6 := (cm.step hch5).app hch6 hL5.fr hl2 hup
  have hr6 : rg m6 r s2 d := hch6.eq _ _ hr5 (fun e => hrl1 (hL5.fr r e))
  rw [hx2] at hcl
  dsimp only at hcl
  rw [hs2.symm] at hlen2 hcl
  have hls2 := lst_len s2
  refine ⟨(lst s2).length, by omega, rfl, rfl, rfl, prs ++ [(x2, .slice a2 l2 c2')], s2, by simp, by simp, by simp; omega, rfl, cm6, hr6, hL6, fun b hb => hch6.live b (hup5 b hb), n, by omega, ?_⟩
  rw [List.map_append]
  exact hcl
end Go.E.Rg
set_option linter.unusedVariables false
set_option linter.unusedSimpArgs false
set_option maxRecDepth 20000
namespace Go.E.Rg
open Go.H Go.E
attribute [local irreducible] BiN MkS ConvN LookN MapUpN CallV HC limb dbTab
theorem alt_ok {alt : Nat → List UInt8 → Res} (hsh : Shr alt) {d : Nat} (hA : RdOK regex_reader_cat.id (catF alt d) d) : RdOK regex_reader_alt.id (altF alt d) d := by
  intro m r s R hr hG hs k kp
  have hll := lst_len s
  have hrl : m r ≠ none := by rw [hr]; simp
  refine regex_reader_alt.ok _ _ _ ?_
  intro b2 hb2
  have c2 := Cl.mk0 (T := T_api_Rx) (c := zRx) hrl hb2
  have hle1 : Le m (m.set b2 (.cells zRx T_api_Rx (0, 0))) := Le.set hb2 _
  have hl2 : (m.set b2 (.cells zRx T_api_Rx (0, 0))) b2 ≠ none := by rw [set_same]; simp
  generalize m.set b2 (.cells zRx T_api_Rx (0, 0)) = m1 at c2 hle1 hl2 ⊢
  have hr1 : rg m1 r s d := hle1 _ _ hr
  have hrl1 : m1 r ≠ none := by rw [hr1]; simp
  have hup : ∀ b, m b ≠ none → m1 b ≠ none := fun b hb => hle1.live hb
  refine hA hr1 (hG.chg c2.ch) hs (fun x t hx m2 v s1 hch2 hr2 hs1 hv => ?_) (fun e he m2 hch2 => ?_)
  rotate_left
  · exact kp e (by unfold altF; rw [he]) m2 (c2.step hch2).ch
  obtain ⟨a', l', c', rfl⟩ := hv.sl
  have hlen1 := cat_len hsh hx
  refine ContRx.mk ?_
  intro b6 hb6
  have hup2 : ∀ b, m1 b ≠ none → m2 b ≠ none := fun b hb => hch2.live b hb
  have hL0 := RL.one (m := m1) hb6 hup2 hv
  have c3 := (c2.step hch2).le (Le.set hb6 (.cells #[.int .i64 x.k, .int .u64 (L x.S 0), .int .u64 (L x.S 1), .int .u64 (L x.S 2), .int .u64 (L x.S 3), .slice a' l' c'] T_api_Rx (0, 0)))
  have hr3 : rg (m2.set b6 (.cells #[.int .i64 x.k, .int .u64 (L x.S 0), .int .u64 (L x.S 1), .int .u64 (L x.S 2), .int .u64 (L x.S 3), .slice a' l' c'] T_api_Rx (0, 0))) r s1 d := Le.set hb6 _ _ _ hr2
  have hup3 : ∀ b, m1 b ≠ none → (m2.set b6 (.cells #[.int .i64 x.k, .int .u64 (L x.S 0), .int .u64 (L x.S 1), .int .u64 (L x.S 2), .int .u64 (L x.S 3), .slice a' l' c'] T_api_Rx (0, 0))) b ≠ none := fun b hb => (Le.set hb6 _).live (hup2 b hb)
  generalize (m2.set b6 (.cells #[.int .i64 x.k, .int .u64 (L x.S 0), .int .u64 (L x.S 1), .int .u64 (L x.S 2), .int .u64 (L x.S 3), .slice a' l' c'] T_api_Rx (0, 0))) = m3 at hL0 c3 hr3 hup3 ⊢
  have hcat : altF alt d (lst s) = (match altL alt d (t.length + 1) [x] t with
    | .ok (l, s'') => .ok (one 3 l, s'')
    | .error e => .error e) := by unfold altF; rw [hx]; first | done | rfl
  refine ⟨fun N r0 x2b x2o la ll lc mm => r0 = some ⟨r, 0, none⟩ ∧ x2b = b2 ∧ x2o = 0 ∧ ∃ (prs : List (Rx × Value)) (s' : ByteArray), ll = prs.length ∧ prs ≠ [] ∧ prs.length + (lst s').length ≤ s.size ∧ N = (lst s').length ∧ Cl T_api_Rx m mm r b2 zRx ∧ rg mm r s' d ∧ RL m1 mm la lc prs ∧ (∀ b, m1 b ≠ none → mm b ≠ none) ∧ ∃ n, (lst s').length < n ∧ altL alt d n (prs.map (·.1)) (lst s') = altL alt d (t.length + 1) [x] t,
    t.length, ⟨rfl, rfl, rfl, [(x, .slice a' l' c')], s1, rfl, by simp, by rw [hs1]; simp; omega, by rw [hs1], c3, hr3, hL0, hup3, t.length + 1, by rw [hs1]; omega, by rw [hs1]; rfl⟩, ?_⟩
  rintro N r0 x2b x2o la ll lc mm ⟨rfl, rfl, rfl, prs, s', rfl, hne, hbd, rfl, cm, hrm, hL, hupm, n, hn, hcl⟩
  have hls := lst_len s'
  unfold regex_reader_alt.l1B
  obtain ⟨n, rfl⟩ : ∃ n', n = n' + 1 := ⟨n - 1, by omega⟩
  refine sees_spec (c := 124) hrm ?_
  dsimp only [Cont]
  refine UnB.mk ?_
  refine Br.mk (fun h1 => ?_) (fun h1 => ?_)
  rotate_left
  · refine one_fin cm hl2 hup hrm hL hne (by omega) ?_
    intro m' v hch hr' hv'
    refine k _ (lst s') ?_ m' v s' hch hr' rfl hv'
    have hst : altL alt d (n + 1) (prs.map (·.1)) (lst s') = .ok (prs.map (·.1), lst s') := by
      unfold altL
      split
      · rename_i t0 e0
        exact absurd rfl (hdIs_f h1 _ _ e0)
      · rfl
    rw [hcat, ← hcl, hst]
  obtain ⟨c0, t', ht, hc0⟩ := hdIs_t h1
  have : c0 = 124 := u8_of hc0
  subst this
  have hlen' : t'.length + 1 = s'.size := by rw [← hls, ht]; simp
  have hstep : altL alt d (n + 1) (prs.map (·.1)) (lst s') = (match catF alt d t' with
      | .ok (x, s') => altL alt d n ((prs.map (·.1)) ++ [x]) s'
      | .error e => .error e) := by
    rw [ht]
    conv => lhs; unfold altL
    rfl
  rw [hstep] at hcl
  refine LdV.s0 hrm (UnStr.mk ?_)
  refine ⟨by omega, by omega, by omega, ?_⟩
  refine St1.to #[.string (s'.extract 1 s'.size), .int .i64 (d : Int)] hrm (by simp) rfl (by simp) ?_
  have hch4 := Chg.set mm r (.cells #[.string (s'.extract 1 s'.size), .int .i64 (d : Int)] T_regex_reader (0, 0))
  have hr4 : rg (mm.set r (.cells #[.string (s'.extract 1 s'.size), .int .i64 (d : Int)] T_regex_reader (0, 0))) r (s'.extract 1 s'.size) d := set_same _ _ _
  generalize mm.set r (.cells #[.string (s'.extract 1 s'.size), .int .i64 (d : Int)] T_regex_reader (0, 0)) = m4 at hch4 hr4 ⊢
  have hlt : lst (s'.extract 1 s'.size) = t' := by rw [lst_extract, ht]; rfl
  have hl4 := lst_len (s'.extract 1 s'.size)
  rw [hlt] at hl4
  have cm4 := cm.step hch4
  have hL4 := hL.up hch4 (fun b e => by rw [show b = r from e]; exact hrl1)
  have hup4 : ∀ b, m1 b ≠ none → m4 b ≠ none := fun b hb => hch4.live b (hupm b hb)
  refine hA hr4 (hG.chg cm4.ch) (by omega) (fun x2 t2 hx2 m5 v2 s2 hch5 hr5 hs2 hv2 => ?_) (fun e he m5 hch5 => ?_)
  rotate_left
  · rw [hlt] at he
    exact kp e (by rw [hcat, ← hcl, he]) m5 (cm4.step hch5).ch
  rw [hlt] at hx2
  obtain ⟨a2, l2, c2', rfl⟩ := hv2.sl
  have hlen2 := cat_len hsh hx2
  refine ContRx.mk ?_
  have hL5 := hL4.up hch5 (fun b e => by rw [show b = r from e]; exact hrl1)
  have hx5 := hL4.in_ hup4 hv2
  have hup5 : ∀ b, m1 b ≠ none → m5 b ≠ none := fun b hb => hch5.live b (hup4 b hb)
  refine RL.push hL5 (x := x2) rfl hx5 (by omega) hup5 ?_
  intro a6 c6 m6 hch6 hL6
  refine UnS.mk ?_
  have cm6 := (cm4.step hch5).app hch6 hL5.fr hl2 hup
  have hr6 : rg m6 r s2 d := hch6.eq _ _ hr5 (fun e => hrl1 (hL5.fr r e))
  rw [hx2] at hcl
  dsimp only at hcl
  rw [hs2.symm] at hlen2 hcl
  have hls2 := lst_len s2
  refine ⟨(lst s2).length, by omega, rfl, rfl, rfl, prs ++ [(x2, .slice a2 l2 c2')], s2, by simp, by simp, by simp; omega, rfl, cm6, hr6, hL6, fun b hb => hch6.live b (hup5 b hb), n, by omega, ?_⟩
  rw [List.map_append]
  exact hcl
theorem alt_all : ∀ (n d : Nat), d ≤ 13 → 14 ≤ n + d → RdOK regex_reader_alt.id (pAlt n d) d
  | 0, d, h, h' => by omega
  | n + 1, d, h, h' => alt_ok (pAlt_len n) (cat_ok (pAlt_len n) (rep_ok (atom_ok h fun h2 => alt_all n (d + 1) (by omega) (by omega))))
abbrev ptr (b : Nat) : Value := .pointer (some ⟨b, 0, none⟩)
/-- A failure ends so. -/
theorem Parse_fail {m mm : Mem} {b2 b3 : Nat} {x0 x1 x2 x3 x4 x5 y : Value} {e : Int} (hle : Le m mm) (n23 : b2 ≠ b3) (w2 : m b2 = none) (w3 : m b3 = none) (a2 : mm b2 = some (.cells #[x0, x1, x2, x3, x4, x5] T_api_Rx (0, 0))) (a3 : mm b3 = some (.cells #[y] T_api_Errno (0, 0))) {R : Ending → Mem → Prop}
    (k : ∀ m', Le m m' → R (.returned (.tuple #[rxA 0 noS (.slice none 0 0), .int .i64 e])) m') : DefR P regex_Parse_1.id #[ptr b2, ptr b3] (regex_Parse.out b2 0 b3 0 R) (pan e) mm := by
  refine ⟨refv e, rfl, regex_Parse_1.df_some _ _ e _ _ ?_⟩
  unfold regex_Parse_1.tsome
  intro bf hbf
  have hbfm : m bf = none := hle.new hbf
  refine St1.to #[.int .i64 e] (set_same _ _ _) (by simp) rfl rfl ?_
  rw [set_set]
  have hle2 := Le.set hbf (.cells #[.int .i64 e] T_regex_refusal (0, 0))
  have hf2 : (mm.set bf (.cells #[.int .i64 e] T_regex_refusal (0, 0))) bf = _ := set_same _ _ _
  have ne2 : bf ≠ b2 := by rintro rfl; rw [a2] at hbf; cases hbf
  have ne3 : bf ≠ b3 := by rintro rfl; rw [a3] at hbf; cases hbf
  have a2' := hle2 _ _ a2
  have a3' := hle2 _ _ a3
  have hle' := hle.trans hle2
  generalize mm.set bf (.cells #[.int .i64 e] T_regex_refusal (0, 0)) = m2 at hf2 a2' a3' hle' ⊢
  refine ⟨m2.wo (fun b => b = b2), wo_le _ _, ?_⟩
  refine LdV.s0 ((wo_in (F := fun b => b = b2) ne2).trans hf2) (UnI.mk ?_)
  have key := put6 (k := 0) (S := noS) (a := none) (l := 0) (c := 0) (e := T_api_Rx) (K := fun m9 => Lk (m2.wo fun b => b = b2) m9 fun r10 => St1 m9 b3 0 (.int .i64 e) fun m11 => regex_Parse.out b2 0 b3 0 R m11) a2' (by
    refine ⟨_, Le.refl _, ?_, ?_⟩
    · intro b o hb
      by_cases eb : b = b2
      · rw [wo_out (F := fun b => b = b2) eb] at hb; cases hb
      · rw [set_other _ _ eb, ← wo_in (m := m2) (F := fun b => b = b2) eb]; exact hb
    have a3'' : (m2.set b2 (.cells (rxO 0 noS (.slice none 0 0)) T_api_Rx (0, 0))) b3 = _ := (set_other _ _ n23.symm).trans a3'
    have hch : Chg (fun b => b = b2) m2 (m2.set b2 (.cells (rxO 0 noS (.slice none 0 0)) T_api_Rx (0, 0))) := Chg.set _ _ _
    have hle3 := hch.to_le hle' (fun b e => by rw [show b = b2 from e]; exact w2)
    have hs2 : (m2.set b2 (.cells (rxO 0 noS (.slice none 0 0)) T_api_Rx (0, 0))) b2 = _ := set_same _ _ _
    generalize m2.set b2 (.cells (rxO 0 noS (.slice none 0 0)) T_api_Rx (0, 0)) = m9 at a3'' hle3 hs2 ⊢
    refine St1.to #[.int .i64 e] a3'' (by simp) rfl rfl ?_
    have hle4 := (Chg.set m9 b3 (.cells #[.int .i64 e] T_api_Errno (0, 0))).to_le hle3 (fun b e => by rw [show b = b3 from e]; exact w3)
    unfold regex_Parse.out
    refine get6 ((set_other _ _ n23).trans hs2) ?_
    refine LdV.s0 (set_same _ _ _) (UnI.mk ?_)
    exact k _ hle4)
  rw [noS_L, noS_L, noS_L, noS_L] at key
  exact key
theorem Parse_ok {s : ByteArray} {m : Mem} (hG : Glob m) (hs : s.size ≤ 1000000) {R : Ending → Mem → Prop}
    (k : ∀ x, parse (lst s) = .ok x → ∀ m' v, Le m m' → ArgC m' x v → R (.returned (.tuple #[rxA x.k x.S v, .int .i64 0])) m')
    (kp : ∀ e, parse (lst s) = .error e → ∀ m', Le m m' → R (.returned (.tuple #[rxA 0 noS (.slice none 0 0), .int .i64 e])) m') : HC P regex_Parse.id #[.string s] m R := by
  refine regex_Parse.ok _ _ _ ?_
  intro b2 h2 b3 h3
  have n32 : b3 ≠ b2 := fun e => by subst e; rw [set_same] at h3; cases h3
  have w3 : m b3 = none := by rw [set_other _ _ n32] at h3; exact h3
  have hle2 : Le m ((m.set b2 (.cells zRx T_api_Rx (0, 0))).set b3 (.cells #[.int .i64 0] T_api_Errno (0, 0))) := (Le.set h2 _).trans (Le.set h3 _)
  have a2 : ((m.set b2 (.cells zRx T_api_Rx (0, 0))).set b3 (.cells #[.int .i64 0] T_api_Errno (0, 0))) b2 = some (.cells zRx T_api_Rx (0, 0)) := by rw [set_other _ _ n32.symm, set_same]
  have a3 : ((m.set b2 (.cells zRx T_api_Rx (0, 0))).set b3 (.cells #[.int .i64 0] T_api_Errno (0, 0))) b3 = some (.cells #[.int .i64 0] T_api_Errno (0, 0)) := set_same _ _ _
  generalize (m.set b2 (.cells zRx T_api_Rx (0, 0))).set b3 (.cells #[.int .i64 0] T_api_Errno (0, 0)) = m2 at hle2 a2 a3
  unfold regex_Parse.rest0 regex_Parse.k1
  intro b9 h9
  have w9 : m b9 = none := hle2.new h9
  have n92 : b9 ≠ b2 := fun e => by subst e; rw [a2] at h9; cases h9
  have n93 : b9 ≠ b3 := fun e => by subst e; rw [a3] at h9; cases h9
  have hle3 := Le.set h9 (.cells #[.string s, .int .i64 0] T_regex_reader (0, 0))
  have hr : rg (m2.set b9 (.cells #[.string s, .int .i64 0] T_regex_reader (0, 0))) b9 s 0 := set_same _ _ _
  have a2' := hle3 _ _ a2
  have a3' := hle3 _ _ a3
  have hl3 := hle2.trans hle3
  have hGR : GlobR (m2.set b9 (.cells #[.string s, .int .i64 0] T_regex_reader (0, 0))) b9 := by
    refine hG.le (le_wo hl3 ?_)
    rintro b rfl; exact w9
  generalize m2.set b9 (.cells #[.string s, .int .i64 0] T_regex_reader (0, 0)) = m3 at hr a2' a3' hl3 hGR ⊢
  have hparse : parse (lst s) = (match pAlt 14 0 (lst s) with
    | .ok (x, []) => if may x = 0 then .ok x else .error (may x)
    | .ok _ => .error 2
    | .error e => .error e) := rfl
  refine alt_all 14 0 (by omega) (by omega) hr hGR hs (fun x t hx m4 v s' hch hr4 hs' hv => ?_) (fun e he m4 hch => ?_)
  rotate_left
  · refine Parse_fail (hch.to_le hl3 (fun b e => by rw [show b = b9 from e]; exact w9)) n32.symm h2 w3 (hch.eq _ _ a2' n92.symm) (hch.eq _ _ a3' n93.symm) ?_
    exact kp e (by rw [hparse, he])
  have hle4 := hch.to_le hl3 (fun b e => by rw [show b = b9 from e]; exact w9)
  have a24 := hch.eq _ _ a2' n92.symm
  have a34 := hch.eq _ _ a3' n93.symm
  obtain ⟨a', l', c', rfl⟩ := hv.sl
  refine ContRx.mk ?_
  refine put6 (S := x.S) a24 ?_
  have hch8 := Chg.set m4 b2 (.cells (rxO x.k x.S (.slice a' l' c')) T_api_Rx (0, 0))
  have a28 : (m4.set b2 (.cells (rxO x.k x.S (.slice a' l' c')) T_api_Rx (0, 0))) b2 = _ := set_same _ _ _
  have a38 := hch8.eq _ _ a34 n32
  have hr8 := hch8.eq _ _ hr4 n92
  have hle8 := hch8.to_le hle4 (fun b e => by rw [show b = b2 from e]; exact h2)
  have hv8 : ArgC (newB m3 (m4.set b2 (.cells (rxO x.k x.S (.slice a' l' c')) T_api_Rx (0, 0)))) x (.slice a' l' c') := hv.le (newB_mono hch8 (fun b e => by rw [show b = b2 from e, a2']; simp))
  generalize m4.set b2 (.cells (rxO x.k x.S (.slice a' l' c')) T_api_Rx (0, 0)) = m8 at hch8 a28 a38 hr8 hle8 hv8 ⊢
  refine LdV.s0 hr8 (UnStr.mk ?_)
  have hmt : ((s'.toList == (ByteArray.mk #[]).toList) = true) ↔ t = [] := by
    rw [beq_iff_eq, ← hs']
    constructor
    · intro h
      rw [ByteArray.toList_eq, ByteArray.toList_eq] at h
      exact h
    · intro h
      have : s' = ByteArray.mk #[] := by rw [← bstr_lst s', h]; rfl
      rw [this]
  refine Br.mk (fun h0 => ?_) (fun h0 => ?_)
  · refine Parse_fail hle8 n32.symm h2 w3 a28 a38 ?_
    refine kp 2 ?_
    rw [hparse, hx]
    cases t with
    | nil => rw [hmt.mpr rfl] at h0; cases h0
    | cons c t => rfl
  have ht : t = [] := hmt.mp (by simpa using h0)
  subst ht
  refine get6 a28 ?_
  have hfew := pAlt_few 14 _ _ _ _ hx
  have hls := lst_len s
  refine May_spec (hv8.le (on_le _ _)) (by omega) ?_
  intro m9 hle9
  dsimp only [Cont]
  refine UnI.mk ?_
  have hle9' := hle8.trans hle9
  have a29 := hle9 _ _ a28
  have a39 := hle9 _ _ a38
  refine BrN (fun hne => ?_) (fun heq => ?_)
  · refine Parse_fail hle9' n32.symm h2 w3 a29 a39 ?_
    refine kp (may x) ?_
    rw [hparse, hx]
    exact if_neg hne
  refine get6 a29 ?_
  refine put6 (S := x.S) a29 ?_
  have hch10 := Chg.set m9 b2 (.cells (rxO x.k x.S (.slice a' l' c')) T_api_Rx (0, 0))
  have a210 : (m9.set b2 (.cells (rxO x.k x.S (.slice a' l' c')) T_api_Rx (0, 0))) b2 = _ := set_same _ _ _
  have a310 := hch10.eq _ _ a39 n32
  have hle10 := hch10.to_le hle9' (fun b e => by rw [show b = b2 from e]; exact h2)
  have hv10 : ArgC (newB m3 (m9.set b2 (.cells (rxO x.k x.S (.slice a' l' c')) T_api_Rx (0, 0)))) x (.slice a' l' c') := hv8.le ((newB_le hle9).trans (newB_mono hch10 (fun b e => by rw [show b = b2 from e, a2']; simp)))
  generalize m9.set b2 (.cells (rxO x.k x.S (.slice a' l' c')) T_api_Rx (0, 0)) = m10 at hch10 a210 a310 hle10 hv10 ⊢
  refine St1.to #[.int .i64 0] a310 (by simp) rfl rfl ?_
  have hch11 := Chg.set m10 b3 (.cells #[.int .i64 0] T_api_Errno (0, 0))
  have a211 := hch11.eq _ _ a210 n32.symm
  have a311 : (m10.set b3 (.cells #[.int .i64 0] T_api_Errno (0, 0))) b3 = _ := set_same _ _ _
  have hle11 := hch11.to_le hle10 (fun b e => by rw [show b = b3 from e]; exact w3)
  have hv11 : ArgC (newB m3 (m10.set b3 (.cells #[.int .i64 0] T_api_Errno (0, 0)))) x (.slice a' l' c') := hv10.le (newB_mono hch11 (fun b e => by rw [show b = b3 from e, a3']; simp))
  generalize m10.set b3 (.cells #[.int .i64 0] T_api_Errno (0, 0)) = m11 at hch11 a211 a311 hle11 hv11 ⊢
  refine regex_Parse_1.df_none _ _ _ _ ?_
  unfold regex_Parse_1.tnone
  intro bf hbf
  refine St1.to #[.int .i64 0] (set_same _ _ _) (by simp) rfl rfl ?_
  rw [set_set]
  have hle12 := Le.set hbf (.cells #[.int .i64 0] T_regex_refusal (0, 0))
  unfold regex_Parse.out
  refine get6 (hle12 _ _ a211) ?_
  refine LdV.s0 (hle12 _ _ a311) (UnI.mk ?_)
  exact k x (by rw [hparse, hx]; exact if_pos heq) _ _ (hle11.trans hle12) ((hv11.le (on_le _ _)).le hle12)
end Go.E.Rg
set_option linter.unusedVariables false
set_option linter.unusedSimpArgs false
set_option maxRecDepth 20000
namespace Go.E.Rg
open Go.H Go.E
attribute [local irreducible] BiN MkS ConvN LookN MapUpN CallV HC limb dbTab
abbrev rb (m : Mem) (r : Nat) (s : ByteArray) (i d : Nat) (e : Int) : Prop := m r = some (.cells #[.string s, .int .i64 (i : Int), .int .i64 (d : Int), .int .i64 e] T_eyotref8_reader (0, 0))
theorem ContU.mk {K : Mem → Prop} {Pn : List PanicEntry → Mem → Prop} {m : Mem} (h : K m) : Cont (fun v m => UnTup v fun us0 => UnNil us0 (K m)) Pn (.returned (.tuple #[])) m := h
theorem k3_spec {m m1 mm : Mem} {r b2 b4 : Nat} {s : ByteArray} {i n d : Nat} {e : Int} {S : Nat → Bool} (hr : rb mm r s i d e) (hn : i + n ≤ 1000000) (c2 : Cl T_api_Rx m mm r b2 zRx) (h4 : mm b4 = some (.cells (cells4 S) T_api_Set (0, 0))) {R : Ending → Mem → Prop}
    (k : ∀ m', Chg (fun b => b = r) m m' → rb m' r s (i + n) d e → R (.returned (rxA 1 S (.slice none 0 0))) m') : eyotref8_reader_atom.k3 (some ⟨r, 0, none⟩) b2 0 b4 0 (n : Int) R mm := by
  unfold eyotref8_reader_atom.k3
  refine LdV.s1 hr (UnI.mk ?_)
  have h4r : b4 ≠ r := by rintro rfl; have e0 := h4.symm.trans hr; cases e0
  rw [wi (by omega) (by omega)]
  refine St1.to #[.string s, .int .i64 ((i + n : Nat) : Int), .int .i64 (d : Int), .int .i64 e] hr (by simp) rfl (by simp) ?_
  have c3 := c2.step (Chg.set mm r (.cells #[.string s, .int .i64 ((i + n : Nat) : Int), .int .i64 (d : Int), .int .i64 e] T_eyotref8_reader (0, 0)))
  refine get4 ((set_other _ _ h4r).trans h4) ?_
  refine out6 (S := S) c3.at_ ?_
  have c4 := c3.put (rxO 1 S (.slice none 0 0))
  refine k _ c4.ch ?_
  show _ = _
  rw [set_other _ _ c4.ne.symm]; exact set_same _ _ _
end Go.E.Rg
set_option linter.unusedVariables false
set_option linter.unusedSimpArgs false
set_option maxRecDepth 20000
namespace Go.E.Rg
open Go.H Go.E
attribute [local irreducible] BiN MkS ConvN LookN MapUpN CallV HC limb dbTab
theorem Empty_spec {S : Nat → Bool} {m : Mem} {R : Ending → Mem → Prop} (k : ∀ m', Le m m' → R (.returned (.bool (emptyS S))) m') : HC P eyotref8_Empty.id #[setv S] m R := by
  refine eyotref8_Empty.ok _ _ _ _ _ _ ?_
  intro b hb
  have e : (m.set b (.cells (cells4 S) T_api_Set (0, 0))) b = _ := set_same _ _ _
  refine get4 e ?_
  rw [eq4_zero]
  exact k _ (Le.set hb _)
theorem form_two {k : Int} {S : Nat → Bool} {ps : List Rx} (h : k = 2 ∨ k = 3) : form (.mk k S ps) = (decide (2 ≤ ps.length) && (formL k ps && emptyS S)) := by
  rw [form_mk, if_neg (by omega)]
  cases hS : emptyS S with
  | false => simp
  | true => rw [if_neg (by simp), if_pos h]; simp
theorem form_sg {k : Int} {S : Nat → Bool} {ps : List Rx} (h4 : 4 ≤ k) (h6 : k ≤ 6) : form (.mk k S ps) = (decide (ps.length = 1) && !(ps.any fun a => sgK a.k) && (formL k ps && emptyS S)) := by
  rw [form_mk, if_neg (by omega)]
  cases hS : emptyS S with
  | false => simp
  | true => rw [if_neg (by simp), if_neg (by omega), if_pos (sgK_iff.mpr ⟨h4, h6⟩)]; simp
theorem form_no {k : Int} {S : Nat → Bool} {ps : List Rx} (h1 : k ≠ 1) (h2 : k ≠ 2) (h3 : k ≠ 3) (h : ¬ (4 ≤ k ∧ k ≤ 6)) : form (.mk k S ps) = false := by
  rw [form_mk, if_neg h1]
  cases hS : emptyS S with
  | false => simp
  | true => rw [if_neg (by simp), if_neg (by omega), if_neg (by rw [sgK_iff]; exact h)]
theorem form_big {a : Rx} (h : form a = true) : a.k ≤ 6 := by
  cases a with
  | mk k S ps =>
    show k ≤ 6
    apply Decidable.byContradiction
    intro hn
    rw [form_no (by omega) (by omega) (by omega) (by omega)] at h; cases h
theorem rform_spec (r : Rx) : ∀ {m : Mem} {v : Value} {R : Ending → Mem → Prop}, ArgC m r v → (∀ m', Le m m' → R (.returned (.bool (form r))) m') → HC P eyotref8_form.id #[rxA r.k r.S v] m R := by
  refine Rx.ind (C := fun r => ∀ {m : Mem} {v : Value} {R : Ending → Mem → Prop}, ArgC m r v → (∀ m', Le m m' → R (.returned (.bool (form r))) m') → HC P eyotref8_form.id #[rxA r.k r.S v] m R) ?_ r
  intro k S ps ih m v R ha hk
  obtain ⟨prs, a, c, rfl, rfl, hl, hb, hc, hp⟩ := ha.inv
  show HC P eyotref8_form.id #[rxA k S (.slice a prs.length c)] m R
  refine eyotref8_form.ok _ _ _ _ _ _ _ _ _ _ ?_
  refine newRx ?_
  intro b1 m1 hb1 hle h1
  have hlen : (prs.map (·.1)).length = prs.length := List.length_map _
  -- the loop over the parts, the set behind it
  have k2 : (∀ m', Le m m' → R (.returned (.bool (formL k (prs.map (·.1)) && emptyS S))) m') → eyotref8_form.k2 b1 0 R m1 := by
    intro hk2
    unfold eyotref8_form.k2
    refine ⟨fun N x1b x1o i mm => x1b = b1 ∧ x1o = 0 ∧ ∃ j : Nat, i = (j : Int) ∧ j ≤ prs.length ∧ N = prs.length - j ∧ Le m1 mm ∧ formL k (prs.map (·.1)) = formL k ((prs.map (·.1)).drop j), prs.length,
      ⟨rfl, rfl, 0, rfl, by omega, by omega, Le.refl _, rfl⟩, ?_⟩
    rintro N x1b x1o i mm ⟨rfl, rfl, j, rfl, hj, rfl, hlm, hfl⟩
    unfold eyotref8_form.l3B
    refine LdV.s5 (hlm _ _ h1) (UnS.mk ?_)
    refine BrD (fun hlt => ?_) (fun hge => ?_)
    · have hjl : j < prs.length := by omega
      have hpm := List.getElem_mem hjl
      obtain ⟨a', l', c', hv⟩ := (hp _ hpm).sl
      have hdrop : (prs.map (·.1)).drop j = prs[j].1 :: (prs.map (·.1)).drop (j + 1) := by
        rw [List.drop_eq_getElem_cons (by rw [hlen]; exact hjl), List.getElem_map]
      rw [hdrop, formL_cons] at hfl
      refine Sub.all ?_
      refine LdV.s5 (hlm _ _ h1) (UnS.mk ?_)
      refine IxS.rx6 (hc.le (hle.trans hlm)) hjl hv ?_
      refine ih prs[j].1 (List.mem_map.mpr ⟨_, hpm, rfl⟩) (m := mm) (v := .slice a' l' c') (by
          have := hp _ hpm
          rw [hv] at this
          exact this.le (hle.trans hlm)) ?_
      intro m2 hle2
      dsimp only [Cont]
      refine UnB.mk ?_
      have hlm2 := hlm.trans hle2
      refine Lk.all hle2 ?_
      refine Br.mk (fun hf => ?_) (fun hf => ?_)
      · have hf : form prs[j].1 = false := by simpa using hf
        have := hk2 m2 (hle.trans hlm2)
        rw [hfl, hf, Bool.and_false, Bool.false_and, Bool.false_and] at this
        exact this
      have hf : form prs[j].1 = true := by simpa using hf
      refine LdV.s5 (hlm2 _ _ h1) (UnS.mk ?_)
      refine IxS.rxk (hc.le (hle.trans hlm2)) hjl ?_
      refine LdV.s0 (hlm2 _ _ h1) (UnI.mk ?_)
      rw [hf, Bool.and_true] at hfl
      refine BrE (fun e => ?_) (fun e => ?_)
      · have := hk2 m2 (hle.trans hlm2)
        rw [hfl] at this
        rw [show decide (prs[j].1.k ≠ k) = false by simpa using e, Bool.false_and, Bool.false_and] at this
        exact this
      · rw [show decide (prs[j].1.k ≠ k) = true by simpa using e, Bool.true_and] at hfl
        refine ⟨prs.length - (j + 1), by omega, rfl, rfl, j + 1, ?_, by omega, rfl, hlm2, hfl⟩
        rw [wi (by omega) (by omega)]; omega
    · have e : (prs.map (·.1)).drop j = [] := List.drop_eq_nil_of_le (by omega)
      rw [e] at hfl
      have e2 : formL k [] = true := by unfold formL; rfl
      rw [e2] at hfl
      rw [hfl, Bool.true_and] at hk2
      unfold eyotref8_form.k4
      have hb' := hlm _ _ h1
      refine LdV.s1 hb' (UnI.mk (LdV.s2 hb' (UnI.mk (LdV.s3 hb' (UnI.mk (LdV.s4 hb' (UnI.mk ?_)))))))
      refine Empty_spec (S := S) ?_
      intro m2 hle2
      exact hk2 m2 (hle.trans (hlm.trans hle2))
  have k5 : ∀ x : Bool, (x = true ↔ (4 ≤ k ∧ k ≤ 6)) → k ≠ 1 → k ≠ 2 → k ≠ 3 → eyotref8_form.k5 b1 0 x R m1 := by
    intro x hx n1 n2 n3
    unfold eyotref8_form.k5
    refine Br.mk (fun h => ?_) (fun h => ?_)
    rotate_left
    · rw [form_no n1 n2 n3 (by rw [← hx, h]; decide)] at hk
      exact hk m1 hle
    obtain ⟨h4, h6⟩ := hx.mp h
    rw [form_sg h4 h6, hlen] at hk
    refine LdV.s5 h1 (UnS.mk ?_)
    refine BrN (fun h1' => ?_) (fun h1' => ?_)
    · have := hk m1 hle
      rw [show decide (prs.length = 1) = false by simp; omega] at this
      simpa using this
    have hl1 : prs.length = 1 := by omega
    refine LdV.s5 h1 (UnS.mk ?_)
    refine IxS.rxk (hc.le hle) (j := 0) (by omega) ?_
    obtain ⟨p, rfl⟩ := List.length_eq_one_iff.mp hl1
    refine BrD (fun hge => ?_) (fun hlt => ?_)
    · have hge : 4 ≤ p.1.k := hge
      have := hk m1 hle
      have e0 : (decide ([p].length = 1) && !([p].map (·.1)).any (fun a => sgK a.k) && (formL k ([p].map (·.1)) && emptyS S)) = false := by
        cases hs : sgK p.1.k with
        | true => simp [hs]
        | false =>
          have : ¬ (4 ≤ p.1.k ∧ p.1.k ≤ 6) := by rw [← sgK_iff, hs]; decide
          have hf : form p.1 = false := by
            cases h : form p.1 with
            | false => rfl
            | true => exact absurd ⟨hge, form_big h⟩ this
          rw [List.map_cons, formL_cons, hf]; simp
      rw [e0] at this
      exact this
    · have hlt : ¬ 4 ≤ p.1.k := hlt
      have hs : sgK p.1.k = false := by
        cases h : sgK p.1.k with
        | false => rfl
        | true => exact absurd (sgK_iff.mp h).1 hlt
      refine k2 ?_
      intro m' hm'
      have := hk m' hm'
      simp [hs] at this ⊢
      exact this
  have k1 : ∀ x : Bool, (x = true ↔ (k = 2 ∨ k = 3)) → k ≠ 1 → eyotref8_form.k1 b1 0 k x R m1 := by
    intro x hx n1
    unfold eyotref8_form.k1
    refine Br.mk (fun h => ?_) (fun h => ?_)
    · have h23 := hx.mp h
      rw [form_two h23, hlen] at hk
      refine LdV.s5 h1 (UnS.mk ?_)
      refine BrD (fun h2 => ?_) (fun h2 => ?_)
      · have := hk m1 hle
        rw [show decide (2 ≤ prs.length) = false by simp; omega] at this
        simpa using this
      · rw [show decide (2 ≤ prs.length) = true by simp; omega] at hk
        exact k2 (by simpa using hk)
    · have h23 : ¬ (k = 2 ∨ k = 3) := by rw [← hx, h]; decide
      refine BrE (fun e => ?_) (fun e => ?_)
      · exact k5 true (by simp; omega) n1 (by omega) (by omega)
      refine BrE (fun e2 => ?_) (fun e2 => ?_)
      · exact k5 true (by simp; omega) n1 (by omega) (by omega)
      · exact k5 _ (by simp; omega) n1 (by omega) (by omega)
  refine LdV.s0 h1 (UnI.mk ?_)
  refine BrE (fun e => ?_) (fun e => ?_)
  · rw [form_mk, if_pos e] at hk
    refine LdV.s5 h1 (UnS.mk ?_)
    refine BrE (fun e2 => ?_) (fun e2 => ?_)
    · have hz : prs = [] := List.eq_nil_of_length_eq_zero (by omega)
      refine LdV.s1 h1 (UnI.mk (LdV.s2 h1 (UnI.mk (LdV.s3 h1 (UnI.mk (LdV.s4 h1 (UnI.mk ?_)))))))
      refine Empty_spec (S := S) ?_
      intro m2 hle2
      have := hk m2 (hle.trans hle2)
      rw [hz] at this
      simpa using this
    · have := hk m1 hle
      have hz : (prs.map (·.1)).isEmpty = false := by
        cases prs with
        | nil => simp at e2
        | cons p qs => rfl
      rw [hz] at this
      simpa using this
  refine BrE (fun e2 => ?_) (fun e2 => ?_)
  · exact k1 true (by simp; omega) e
  · exact k1 _ (by simp; omega) e
theorem rnodes_spec (r : Rx) : ∀ {m : Mem} {v : Value} {R : Ending → Mem → Prop}, ArgC m r v → nodes r ≤ 4000000000000000000 → (∀ m', Le m m' → R (.returned (.int .i64 (nodes r : Nat))) m') → HC P eyotref8_nodes.id #[rxA r.k r.S v] m R := by
  refine Rx.ind (C := fun r => ∀ {m : Mem} {v : Value} {R : Ending → Mem → Prop}, ArgC m r v → nodes r ≤ 4000000000000000000 → (∀ m', Le m m' → R (.returned (.int .i64 (nodes r : Nat))) m') → HC P eyotref8_nodes.id #[rxA r.k r.S v] m R) ?_ r
  intro k S ps ih m v R ha hn hk
  obtain ⟨prs, a, c, rfl, rfl, hl, hb, hc, hp⟩ := ha.inv
  show HC P eyotref8_nodes.id #[rxA k S (.slice a prs.length c)] m R
  refine eyotref8_nodes.ok _ _ _ _ _ _ _ _ _ _ ?_
  refine newRx ?_
  intro b1 m1 hb1 hle h1
  have hlen : (prs.map (·.1)).length = prs.length := List.length_map _
  rw [nodes_mk] at hn hk
  refine ⟨fun N rb ro nd i mm => rb = b1 ∧ ro = 0 ∧ ∃ j : Nat, i = (j : Int) ∧ j ≤ prs.length ∧ N = prs.length - j ∧ Le m1 mm ∧ nd = ((nodesL ((prs.map (·.1)).take j) + 1 : Nat) : Int), prs.length,
    ⟨rfl, rfl, 0, rfl, by omega, by omega, Le.refl _, by unfold nodesL; rfl⟩, ?_⟩
  rintro N rb ro nd i mm ⟨rfl, rfl, j, rfl, hj, rfl, hlm, rfl⟩
  unfold eyotref8_nodes.l1B
  refine LdV.s5 (hlm _ _ h1) (UnS.mk ?_)
  refine BrD (fun hlt => ?_) (fun hge => ?_)
  · have hjl : j < prs.length := by omega
    have hpm := List.getElem_mem hjl
    obtain ⟨a', l', c', hv⟩ := (hp _ hpm).sl
    have hg : (prs.map (·.1))[j]? = some prs[j].1 := by rw [List.getElem?_map, List.getElem?_eq_getElem hjl]; rfl
    obtain ⟨e1, e2, e3⟩ := nodesL_take hg
    refine LdV.s5 (hlm _ _ h1) (UnS.mk ?_)
    refine IxS.rx6 (hc.le (hle.trans hlm)) hjl hv ?_
    refine ih prs[j].1 (List.mem_map.mpr ⟨_, hpm, rfl⟩) (m := mm) (v := .slice a' l' c') (by
        have := hp _ hpm
        rw [hv] at this
        exact this.le (hle.trans hlm)) (by omega) ?_
    intro m2 hle2
    dsimp only [Cont]
    refine UnI.mk ?_
    refine ⟨prs.length - (j + 1), by omega, rfl, rfl, j + 1, ?_, by omega, rfl, hlm.trans hle2, ?_⟩
    · rw [wi (by omega) (by omega)]; omega
    · rw [wi (by omega) (by omega), e1]; omega
  · have e : (prs.map (·.1)).take j = prs.map (·.1) := List.take_of_length_le (by omega)
    rw [e]
    exact hk mm (hle.trans hlm)
theorem rdepth_spec (r : Rx) : ∀ {m : Mem} {v : Value} {R : Ending → Mem → Prop}, ArgC m r v → depth r ≤ 4000000000000000000 → (∀ m', Le m m' → R (.returned (.int .i64 (depth r : Nat))) m') → HC P eyotref8_depth.id #[rxA r.k r.S v] m R := by
  refine Rx.ind (C := fun r => ∀ {m : Mem} {v : Value} {R : Ending → Mem → Prop}, ArgC m r v → depth r ≤ 4000000000000000000 → (∀ m', Le m m' → R (.returned (.int .i64 (depth r : Nat))) m') → HC P eyotref8_depth.id #[rxA r.k r.S v] m R) ?_ r
  intro k S ps ih m v R ha hn hk
  obtain ⟨prs, a, c, rfl, rfl, hl, hb, hc, hp⟩ := ha.inv
  show HC P eyotref8_depth.id #[rxA k S (.slice a prs.length c)] m R
  refine eyotref8_depth.ok _ _ _ _ _ _ _ _ _ _ ?_
  refine newRx ?_
  intro b1 m1 hb1 hle h1
  have hlen : (prs.map (·.1)).length = prs.length := List.length_map _
  rw [depth_mk] at hn hk
  refine ⟨fun N rb ro nd i mm => rb = b1 ∧ ro = 0 ∧ ∃ j : Nat, i = (j : Int) ∧ j ≤ prs.length ∧ N = prs.length - j ∧ Le m1 mm ∧ nd = ((depthL ((prs.map (·.1)).take j) : Nat) : Int), prs.length,
    ⟨rfl, rfl, 0, rfl, by omega, by omega, Le.refl _, by unfold depthL; rfl⟩, ?_⟩
  rintro N rb ro nd i mm ⟨rfl, rfl, j, rfl, hj, rfl, hlm, rfl⟩
  unfold eyotref8_depth.l1B
  refine LdV.s5 (hlm _ _ h1) (UnS.mk ?_)
  refine BrD (fun hlt => ?_) (fun hge => ?_)
  · have hjl : j < prs.length := by omega
    have hpm := List.getElem_mem hjl
    obtain ⟨a', l', c', hv⟩ := (hp _ hpm).sl
    have hg : (prs.map (·.1))[j]? = some prs[j].1 := by rw [List.getElem?_map, List.getElem?_eq_getElem hjl]; rfl
    obtain ⟨e1, e2, e3⟩ := nodesL_take hg
    have hdl := depthL_le (List.mem_map.mpr ⟨_, hpm, rfl⟩ : prs[j].1 ∈ prs.map (·.1))
    refine LdV.s5 (hlm _ _ h1) (UnS.mk ?_)
    refine IxS.rx6 (hc.le (hle.trans hlm)) hjl hv ?_
    refine ih prs[j].1 (List.mem_map.mpr ⟨_, hpm, rfl⟩) (m := mm) (v := .slice a' l' c') (by
        have := hp _ hpm
        rw [hv] at this
        exact this.le (hle.trans hlm)) (by omega) ?_
    intro m2 hle2
    dsimp only [Cont]
    refine UnI.mk ?_
    refine ⟨prs.length - (j + 1), by omega, rfl, rfl, j + 1, ?_, by omega, rfl, hlm.trans hle2, ?_⟩
    · rw [wi (by omega) (by omega)]; omega
    · rw [e2]; split <;> omega
  · have e : (prs.map (·.1)).take j = prs.map (·.1) := List.take_of_length_le (by omega)
    rw [e, wi (by omega) (by omega)]
    exact hk mm (hle.trans hlm)
theorem RMay_spec {r : Rx} {m : Mem} {v : Value} {R : Ending → Mem → Prop} (ha : ArgC m r v) (hn : nodes r ≤ 4000000000000000000) (hk : ∀ m', Le m m' → R (.returned (.int .i64 (may r))) m') : HC P eyotref8_May.id #[rxA r.k r.S v] m R := by
  obtain ⟨a, l, c, rfl⟩ := ha.sl
  refine eyotref8_May.ok _ _ _ _ _ _ _ _ _ _ ?_
  refine newRx ?_
  intro b1 m1 hb1 hle h1
  refine get6 h1 ?_
  refine rform_spec r (ha.le hle) ?_
  intro m2 hle2
  dsimp only [Cont]
  refine UnB.mk ?_
  unfold may at hk
  refine Br.mk (fun hf => ?_) (fun hf => ?_)
  · rw [if_neg (by simpa using hf)] at hk
    exact hk m2 (hle.trans hle2)
  rw [if_pos (by simpa using hf)] at hk
  refine get6 (hle2 _ _ h1) ?_
  refine rnodes_spec r (ha.le (hle.trans hle2)) hn ?_
  intro m3 hle3
  dsimp only [Cont]
  refine UnI.mk ?_
  have hle3' := hle.trans (hle2.trans hle3)
  refine BrD (fun h4 => ?_) (fun h4 => ?_)
  · rw [if_pos (.inl (by omega))] at hk
    exact hk m3 hle3'
  have hdn := depth_nodes r
  refine get6 (hle3 _ _ (hle2 _ _ h1)) ?_
  refine rdepth_spec r (ha.le hle3') (by omega) ?_
  intro m4 hle4
  dsimp only [Cont]
  refine UnI.mk ?_
  refine BrD (fun h5 => ?_) (fun h5 => ?_)
  · rw [if_pos (.inr (by omega))] at hk
    exact hk m4 (hle3'.trans hle4)
  rw [if_neg (by omega)] at hk
  exact hk m4 (hle3'.trans hle4)
theorem sameL_cons {r q : Rx} {rs qs : List Rx} : sameL (r :: rs) (q :: qs) ↔ same r q ∧ sameL rs qs := by
  constructor
  · intro h; unfold sameL at h; exact h
  · intro h; unfold sameL; exact h
theorem same_mk {k k' : Int} {S S' : Nat → Bool} {ps qs : List Rx} : same (.mk k S ps) (.mk k' S' qs) ↔ k = k' ∧ (∀ c, c < 256 → S c = S' c) ∧ sameL ps qs := by
  constructor
  · intro h; unfold same at h; exact h
  · intro h; unfold same; exact h
theorem SameRx_spec (r : Rx) : ∀ {q : Rx} {m : Mem} {v w : Value} {R : Ending → Mem → Prop}, ArgC m r v → ArgC m q w → (∀ m' x, Le m m' → (x = true ↔ same r q) → R (.returned (.bool x)) m') → HC P eyotref8_SameRx.id #[rxA r.k r.S v, rxA q.k q.S w] m R := by
  refine Rx.ind (C := fun r => ∀ {q : Rx} {m : Mem} {v w : Value} {R : Ending → Mem → Prop}, ArgC m r v → ArgC m q w → (∀ m' x, Le m m' → (x = true ↔ same r q) → R (.returned (.bool x)) m') → HC P eyotref8_SameRx.id #[rxA r.k r.S v, rxA q.k q.S w] m R) ?_ r
  intro k S ps ih q m v w R ha hq hk
  obtain ⟨prs, a, c, rfl, rfl, hl, hb, hc, hp⟩ := ha.inv
  cases q with
  | mk k' S' qs =>
  obtain ⟨qrs, a2, c2, rfl, rfl, hl2, hb2', hc2, hq2⟩ := hq.inv
  show HC P eyotref8_SameRx.id #[rxA k S (.slice a prs.length c), rxA k' S' (.slice a2 qrs.length c2)] m R
  refine eyotref8_SameRx.ok _ _ _ _ _ _ _ _ _ _ _ _ _ _ _ _ _ _ ?_
  refine newRx ?_
  intro b2 m1 hb2 hle1 h1
  refine newRx ?_
  intro b3 m2 hb3 hle2 h3
  have h2 := hle2 _ _ h1
  have hle := hle1.trans hle2
  have hlen : (prs.map (·.1)).length = prs.length := List.length_map _
  have hlen2 : (qrs.map (·.1)).length = qrs.length := List.length_map _
  rw [same_mk] at hk
  refine LdV.s0 h2 (UnI.mk (LdV.s0 h3 (UnI.mk ?_)))
  refine BrN (fun hne => ?_) (fun heq => ?_)
  · exact hk m2 false hle ⟨fun h => (Bool.false_ne_true h).elim, fun h => absurd h.1 hne⟩
  refine LdV.s1 h2 (UnI.mk (LdV.s2 h2 (UnI.mk (LdV.s3 h2 (UnI.mk (LdV.s4 h2 (UnI.mk ?_)))))))
  refine LdV.s1 h3 (UnI.mk (LdV.s2 h3 (UnI.mk (LdV.s3 h3 (UnI.mk (LdV.s4 h3 (UnI.mk ?_)))))))
  have he4 := eq4 S S'
  refine Br.mk (fun hS => ?_) (fun hS => ?_)
  · have hS : eqL [.int .u64 (L S 0), .int .u64 (L S 1), .int .u64 (L S 2), .int .u64 (L S 3)] [.int .u64 (L S' 0), .int .u64 (L S' 1), .int .u64 (L S' 2), .int .u64 (L S' 3)] = false := by simpa using hS
    exact hk m2 false hle ⟨fun h => (Bool.false_ne_true h).elim, fun h => by rw [he4.mpr h.2.1] at hS; cases hS⟩
  have hS : ∀ c, c < 256 → S c = S' c := he4.mp (by simpa using hS)
  refine LdV.s5 h2 (UnS.mk (LdV.s5 h3 (UnS.mk ?_)))
  refine BrN (fun hne => ?_) (fun hll => ?_)
  · refine hk m2 false hle ⟨fun h => (Bool.false_ne_true h).elim, fun h => ?_⟩
    have := sameL_len h.2.2
    omega
  have hll : prs.length = qrs.length := by omega
  refine ⟨fun N ab ao bb bo i mm => ab = b2 ∧ ao = 0 ∧ bb = b3 ∧ bo = 0 ∧ ∃ j : Nat, i = (j : Int) ∧ j ≤ prs.length ∧ N = prs.length - j ∧ Le m2 mm ∧ (sameL (prs.map (·.1)) (qrs.map (·.1)) ↔ sameL ((prs.map (·.1)).drop j) ((qrs.map (·.1)).drop j)), prs.length,
    ⟨rfl, rfl, rfl, rfl, 0, rfl, by omega, by omega, Le.refl _, Iff.rfl⟩, ?_⟩
  rintro N ab ao bb bo i mm ⟨rfl, rfl, rfl, rfl, j, rfl, hj, rfl, hlm, hsm⟩
  unfold eyotref8_SameRx.l1B
  refine LdV.s5 (hlm _ _ h2) (UnS.mk ?_)
  refine BrD (fun hlt => ?_) (fun hge => ?_)
  · have hjl : j < prs.length := by omega
    have hjl2 : j < qrs.length := by omega
    have hpm := List.getElem_mem hjl
    have hqm := List.getElem_mem hjl2
    obtain ⟨a', l', c', hv⟩ := (hp _ hpm).sl
    obtain ⟨a'', l'', c'', hw⟩ := (hq2 _ hqm).sl
    have hdrop : (prs.map (·.1)).drop j = prs[j].1 :: (prs.map (·.1)).drop (j + 1) := by
      rw [List.drop_eq_getElem_cons (by rw [hlen]; exact hjl), List.getElem_map]
    have hdrop2 : (qrs.map (·.1)).drop j = qrs[j].1 :: (qrs.map (·.1)).drop (j + 1) := by
      rw [List.drop_eq_getElem_cons (by rw [hlen2]; exact hjl2), List.getElem_map]
    rw [hdrop, hdrop2, sameL_cons] at hsm
    have hlm' := hle.trans hlm
    refine Sub.all ?_
    refine LdV.s5 (hlm _ _ h2) (UnS.mk ?_)
    refine IxS.rx6 (hc.le hlm') hjl hv ?_
    refine LdV.s5 (hlm _ _ h3) (UnS.mk ?_)
    refine IxS.rx6 (hc2.le hlm') hjl2 hw ?_
    refine ih prs[j].1 (List.mem_map.mpr ⟨_, hpm, rfl⟩) (q := qrs[j].1) (m := mm) (v := .slice a' l' c') (w := .slice a'' l'' c'') (by
        have := hp _ hpm
        rw [hv] at this
        exact this.le hlm') (by
        have := hq2 _ hqm
        rw [hw] at this
        exact this.le hlm') ?_
    intro m5 x hle5 hx
    dsimp only [Cont]
    refine UnB.mk ?_
    refine Br.mk (fun h => ?_) (fun h => ?_)
    · have h : x = false := by simpa using h
      refine hk m5 false (hlm'.trans hle5) ⟨fun h => (Bool.false_ne_true h).elim, fun h' => ?_⟩
      have := hx.mpr (hsm.mp h'.2.2).1
      rw [h] at this; exact this
    · have h : x = true := by simpa using h
      refine ⟨prs.length - (j + 1), by omega, rfl, rfl, rfl, rfl, j + 1, ?_, by omega, rfl, hlm.trans hle5, ?_⟩
      · rw [wi (by omega) (by omega)]; omega
      · rw [hsm]
        exact ⟨fun h' => h'.2, fun h' => ⟨hx.mp h, h'⟩⟩
  · have e1 : (prs.map (·.1)).drop j = [] := List.drop_eq_nil_of_le (by omega)
    have e2 : (qrs.map (·.1)).drop j = [] := List.drop_eq_nil_of_le (by omega)
    rw [e1, e2] at hsm
    refine hk mm true (hle.trans hlm) ⟨fun _ => ⟨heq, hS, hsm.mpr (by unfold sameL; trivial)⟩, fun _ => rfl⟩
end Go.E.Rg
set_option linter.unusedVariables false
set_option linter.unusedSimpArgs false
set_option maxRecDepth 20000
namespace Go.E.Rg
open Go.H Go.E
attribute [local irreducible] BiN MkS ConvN LookN MapUpN CallV HC limb dbTab
abbrev rowA (n : Nat) (f : Nat → Bool) : Array Value := ((List.range n).map fun k => Value.bool (f k)).toArray
abbrev tblA (n q : Nat) (rb : Nat → Nat) : Array Value := ((List.range n).map fun i => if i < q then Value.slice (some ⟨rb i, 0, none⟩) n n else Value.slice none 0 0).toArray
/-- A table as it lies there. -/
structure Tb (m : Mem) (n b0 : Nat) (rb : Nat → Nat) (f : Nat → Nat → Bool) : Prop where
  c0 : m b0 = some (.cells (tblA n n rb) T_sl_bool (0, 0))
  row : ∀ i, i < n → m (rb i) = some (.cells (rowA n (f i)) T_bool (0, 0))
theorem Tb.le {m m' : Mem} {n b0 : Nat} {rb : Nat → Nat} {f : Nat → Nat → Bool} (h : Tb m n b0 rb f) (k : Le m m') : Tb m' n b0 rb f := ⟨k _ _ h.c0, fun i hi => k _ _ (h.row i hi)⟩
theorem range_get {α : Type} {n i : Nat} (g : Nat → α) (h : i < n) : ((List.range n).map g)[i]? = some (g i) := by
  rw [List.getElem?_map, List.getElem?_range h]; rfl
theorem IxS.blk {m : Mem} {b n i : Nat} {vs : List Value} {e : TypeId} {fr : Nat × Nat} {v : Value} (h : m b = some (.cells vs.toArray e fr)) (hi : i < n) (hv : vs[i]? = some v) {K : Value → Prop} (k : K v) : IxS (some ⟨b, 0, none⟩) n (i : Int) 1 fun b o => LdV m b o K := by
  refine ⟨by omega, by omega, ?_⟩
  refine LdV.mk (v := v) ?_ k
  refine cell_of h ?_
  rw [show (0 + (i : Int).toNat * 1) = i by omega]
  simpa using hv
section
variable {m : Mem} {n b0 i k : Nat} {rb : Nat → Nat} {f : Nat → Nat → Bool}
theorem Tb.rd (h : Tb m n b0 rb f) (hi : i < n) {K : Option Addr → Nat → Nat → Prop} (q : K (some ⟨rb i, 0, none⟩) n n) : IxS (some ⟨b0, 0, none⟩) n (i : Int) 1 fun b o => LdV m b o fun v => UnS v K := by
  refine IxS.blk h.c0 hi (range_get _ hi) ?_
  rw [if_pos hi]
  exact q
theorem Tb.cell (h : Tb m n b0 rb f) (hi : i < n) (hk : k < n) {K : Bool → Prop} (q : K (f i k)) : IxS (some ⟨rb i, 0, none⟩) n (k : Int) 1 fun b o => LdV m b o fun v => UnB v K :=
  IxS.blk (h.row i hi) hk (range_get _ hk) q
end
/-- A table of one's own, q rows of it made. -/
structure TbP (m0 mm : Mem) (n q b0 : Nat) (rb : Nat → Nat) (f : Nat → Nat → Bool) : Prop where
  le : Le m0 mm
  c0 : mm b0 = some (.cells (tblA n q rb) T_sl_bool (0, 0))
  w0 : m0 b0 = none
  row : ∀ i, i < q → mm (rb i) = some (.cells (rowA n (f i)) T_bool (0, 0))
  inj : ∀ i j, i < q → j < q → rb i = rb j → i = j
  ne : ∀ i, i < q → rb i ≠ b0
  wr : ∀ i, i < q → m0 (rb i) = none
theorem TbP.tb {m0 mm : Mem} {n b0 : Nat} {rb : Nat → Nat} {f : Nat → Nat → Bool} (h : TbP m0 mm n n b0 rb f) : Tb mm n b0 rb f := ⟨h.c0, h.row⟩
theorem TbP.up {m0 mm m' : Mem} {n q b0 : Nat} {rb : Nat → Nat} {f : Nat → Nat → Bool} (h : TbP m0 mm n q b0 rb f) (k : Le mm m') : TbP m0 m' n q b0 rb f :=
  ⟨h.le.trans k, k _ _ h.c0, h.w0, fun i hi => k _ _ (h.row i hi), h.inj, h.ne, h.wr⟩
theorem rowA_congr {n : Nat} {f g : Nat → Bool} (h : ∀ k, k < n → f k = g k) : rowA n f = rowA n g := by
  unfold rowA
  congr 1
  refine List.map_congr_left fun k hk => ?_
  rw [h k (by simpa using hk)]
theorem TbP.congr {m0 mm : Mem} {n b0 : Nat} {rb : Nat → Nat} {f g : Nat → Nat → Bool} (h : TbP m0 mm n n b0 rb f) (k : ∀ i, i < n → ∀ k, k < n → f i k = g i k) : TbP m0 mm n n b0 rb g :=
  ⟨h.le, h.c0, h.w0, fun i hi => by rw [← rowA_congr (k i hi)]; exact h.row i hi, h.inj, h.ne, h.wr⟩
/-- One cell turned. -/
def updF (f : Nat → Nat → Bool) (i k : Nat) (y : Bool) : Nat → Nat → Bool := fun i' k' => if i' = i ∧ k' = k then y else f i' k'
theorem map_range_set {α : Type} (n k : Nat) (g : Nat → α) (y : α) : ((List.range n).map g).toArray.setIfInBounds k y = ((List.range n).map fun j => if j = k then y else g j).toArray := by
  rw [List.setIfInBounds_toArray]
  congr 1
  apply List.ext_getElem
  · simp
  · intro j h1 h2
    rw [List.getElem_set, List.getElem_map, List.getElem_map, List.getElem_range]
    by_cases e : k = j
    · rw [if_pos e, if_pos e.symm]
    · rw [if_neg e, if_neg (fun x => e x.symm)]
theorem rowA_set {n : Nat} {f : Nat → Bool} {k : Nat} (y : Bool) : (rowA n f).setIfInBounds k (.bool y) = rowA n (fun k' => if k' = k then y else f k') := by
  unfold rowA
  rw [map_range_set]
  congr 1
  refine List.map_congr_left fun j _ => ?_
  show (if j = k then Value.bool y else Value.bool (f j)) = Value.bool (if j = k then y else f j)
  by_cases e : j = k
  · rw [if_pos e, if_pos e]
  · rw [if_neg e, if_neg e]
theorem TbP.st {m0 mm : Mem} {n b0 i k : Nat} {rb : Nat → Nat} {f : Nat → Nat → Bool} (h : TbP m0 mm n n b0 rb f) (hi : i < n) (hk : k < n) {y : Bool} {K : Mem → Prop} (q : ∀ m', Chg (fun b => b = rb i) mm m' → TbP m0 m' n n b0 rb (updF f i k y) → K m') :
    IxS (some ⟨rb i, 0, none⟩) n (k : Int) 1 fun b o => St1 mm b o (.bool y) K := by
  refine ⟨by omega, by omega, ?_⟩
  have e : 0 + (k : Int).toNat * 1 = k := by omega
  refine St1.of (by exact h.row i hi) (by simp; omega) rfl ?_
  rw [e, rowA_set]
  refine q _ (Chg.set _ _ _) ⟨?_, ?_, h.w0, ?_, h.inj, h.ne, h.wr⟩
  · exact (Chg.set mm (rb i) _).to_le h.le (fun b e => by rw [show b = rb i from e]; exact h.wr i hi)
  · rw [set_other _ _ (h.ne i hi).symm]; exact h.c0
  · intro i' hi'
    by_cases e2 : i' = i
    · subst e2
      rw [set_same]
      congr 2
      refine rowA_congr fun k' _ => ?_
      unfold updF
      by_cases e3 : k' = k
      · subst e3; simp
      · simp [e3]
    · rw [set_other _ _ (fun x => e2 (h.inj _ _ hi' hi x)), h.row i' hi']
      congr 2
      refine rowA_congr fun k' _ => ?_
      unfold updF
      rw [if_neg (fun x => e2 x.1)]
end Go.E.Rg
set_option linter.unusedVariables false
set_option linter.unusedSimpArgs false
set_option maxRecDepth 20000
namespace Go.E.Rg
open Go.H Go.E
attribute [local irreducible] BiN MkS ConvN LookN MapUpN CallV HC limb dbTab
theorem joinBar_snoc : ∀ (l : List (List UInt8)) (x : List UInt8), joinBar (l ++ [x]) = if l = [] then x else joinBar l ++ 124 :: x
  | [], x => rfl
  | y :: l, x => by
    rw [List.cons_append, joinBar_flat, joinBar_flat, if_neg (by simp), List.map_append, List.flatten_append]
    simp
theorem joinBar_take_len : ∀ (l : List (List UInt8)) (j : Nat), (joinBar (l.take j)).length ≤ (joinBar l).length
  | [], j => by simp
  | y :: l, 0 => by simp [joinBar]
  | y :: l, j + 1 => by
    rw [List.take_succ_cons, joinBar_flat, joinBar_flat, List.length_append, List.length_append]
    have : (((l.take j).map fun y => 124 :: y).flatten).length ≤ ((l.map fun y => 124 :: y).flatten).length := by
      rw [List.map_take]
      conv => rhs; rw [← List.take_append_drop j (l.map fun y => 124 :: y), List.flatten_append, List.length_append]
      omega
    omega
theorem flat_take_len (l : List (List UInt8)) (j : Nat) : ((l.take j).flatten).length ≤ (l.flatten).length := by
  conv => rhs; rw [← List.take_append_drop j l, List.flatten_append, List.length_append]
  omega
theorem rank3 {k : Int} : rank k < 3 ↔ k ≠ 1 := by unfold rank; split <;> (try split) <;> (try split) <;> omega
theorem rank2 {k : Int} (h : k ≠ 2) : rank k < 2 ↔ k = 3 := by unfold rank; split <;> (try split) <;> (try split) <;> omega
theorem rank1 {k : Int} (h : k ≠ 3) : ¬ rank k < 1 := by unfold rank; split <;> (try split) <;> (try split) <;> omega
theorem CatB_ls {a b : List UInt8} (h : a.length + b.length ≤ 1000000000) {A : Prop} (k : A) : CatB (bstr a) (bstr b) A := ⟨by rw [bstr_size, bstr_size]; omega, k⟩
def RShowOK (r : Rx) : Prop := ∀ {m : Mem} {v : Value} {R : Ending → Mem → Prop}, ArgC m r v → form r = true → (shw r).length ≤ 100000000 → (∀ m', Le m m' → R (.returned (.string (bstr (shw r)))) m') → HC P eyotref8_Show.id #[rxA r.k r.S v] m R
theorem RShow_ok (r : Rx) : RShowOK r := by
  refine Rx.ind (C := RShowOK) ?_ r
  intro k S ps ih m v R ha hf hlen hk
  obtain ⟨prs, a, c, rfl, rfl, hl, hb, hc, hp⟩ := ha.inv
  show HC P eyotref8_Show.id #[rxA k S (.slice a prs.length c)] m R
  refine eyotref8_Show.ok _ _ _ _ _ _ _ _ _ _ ?_
  refine newRx ?_
  intro b1 m1 hb1 hle h1
  have hpl : (prs.map (·.1)).length = prs.length := List.length_map _
  refine LdV.s0 h1 (UnI.mk ?_)
  refine BrE (fun e => ?_) (fun e => ?_)
  · rw [shw_mk, if_pos e] at hk
    refine LdV.s1 h1 (UnI.mk (LdV.s2 h1 (UnI.mk (LdV.s3 h1 (UnI.mk (LdV.s4 h1 (UnI.mk ?_)))))))
    refine ShowClass_spec ?_
    intro m2 hle2
    dsimp only [Cont]
    exact UnStr.mk (hk m2 (hle.trans hle2))
  have hkid := kid_len (k := k) (S := S) (ps := prs.map (·.1)) e
  obtain ⟨hall, hsh⟩ : (∀ a ∈ prs.map (·.1), a.k ≠ k ∧ form a = true) ∧ (((k = 2 ∨ k = 3) ∧ 2 ≤ (prs.map (·.1)).length) ∨ (4 ≤ k ∧ k ≤ 6 ∧ ∃ x, prs.map (·.1) = [x] ∧ sgK x.k = false)) := by
    rcases form_cases hf with ⟨h, _⟩ | ⟨_, h1, h2⟩
    · exact absurd h e
    · exact ⟨h1, h2⟩
  -- one of the parts
  have part : ∀ (j : Nat) (hj : j < prs.length) {mm : Mem} {a' : Option Addr} {l' c' : Nat} {R' : Ending → Mem → Prop}, Le m mm → prs[j].2 = .slice a' l' c' → (∀ m', Le mm m' → R' (.returned (.string (bstr (shw prs[j].1)))) m') → HC P eyotref8_Show.id #[rxA prs[j].1.k prs[j].1.S (.slice a' l' c')] mm R' := by
    intro j hj mm a' l' c' R' hlm hv hk'
    have hpm := List.getElem_mem hj
    have hmem : prs[j].1 ∈ prs.map (·.1) := List.mem_map.mpr ⟨_, hpm, rfl⟩
    refine ih prs[j].1 hmem (m := mm) (v := .slice a' l' c') (by
      have := hp _ hpm
      rw [hv] at this
      exact this.le hlm) (hall _ hmem).2 (Nat.le_trans (hkid _ hmem) hlen) hk'
  -- what stands side by side, alternatives
  have k1t : (k = 2 ∨ k = 3) → eyotref8_Show.k1 b1 0 (bstr []) true R m1 := by
    intro h23
    unfold eyotref8_Show.k1
    refine Br.t rfl ?_
    obtain ⟨xs, hxs⟩ : ∃ xs, xs = (prs.map (·.1)).map (wt (rank k + 1)) := ⟨_, rfl⟩
    have hxl : xs.length = prs.length := by rw [hxs, List.length_map, hpl]
    let acc : Nat → List UInt8 := fun j => if k = 3 then joinBar (xs.take j) else (xs.take j).flatten
    have hacc : ∀ j, acc j = if k = 3 then joinBar (xs.take j) else (xs.take j).flatten := fun _ => rfl
    have hshw : shw (.mk k S (prs.map (·.1))) = acc prs.length := by
      rw [hacc, List.take_of_length_le (by omega), shw_mk, if_neg e, ← hxs]
      rcases h23 with rfl | rfl
      · rw [if_neg (by decide), if_neg (by decide), if_neg (by decide)]
      · rw [if_pos rfl, if_pos rfl]
    have hal : ∀ j, (acc j).length ≤ (shw (.mk k S (prs.map (·.1)))).length := by
      intro j
      rw [hshw, hacc, hacc, List.take_of_length_le (i := prs.length) (by omega)]
      split
      · exact joinBar_take_len _ _
      · exact flat_take_len _ _
    refine ⟨fun N xb xo x3 i mm => xb = b1 ∧ xo = 0 ∧ Le m1 mm ∧ ∃ j : Nat, i = (j : Int) ∧ j ≤ prs.length ∧ N = prs.length - j ∧ x3 = bstr (acc j), prs.length,
      ⟨rfl, rfl, Le.refl _, 0, rfl, by omega, by omega, by rw [hacc]; simp [joinBar]⟩, ?_⟩
    rintro N xb xo x3 i mm ⟨rfl, rfl, hlm, j, rfl, hj, rfl, rfl⟩
    unfold eyotref8_Show.l2B
    refine LdV.s5 (hlm _ _ h1) (UnS.mk ?_)
    refine BrD (fun hlt => ?_) (fun hge => ?_)
    rotate_left
    · have : j = prs.length := by omega
      rw [this, ← hshw]
      exact hk mm (hle.trans hlm)
    have hjl : j < prs.length := by omega
    have hpm := List.getElem_mem hjl
    have hmem : prs[j].1 ∈ prs.map (·.1) := List.mem_map.mpr ⟨_, hpm, rfl⟩
    obtain ⟨a', l', c', hv⟩ := (hp _ hpm).sl
    refine LdV.s5 (hlm _ _ h1) (UnS.mk ?_)
    refine IxS.rx6 (hc.le (hle.trans hlm)) hjl hv ?_
    refine part j hjl (hle.trans hlm) hv ?_
    intro m2 hle2
    dsimp only [Cont]
    refine UnStr.mk ?_
    have hlm2 := hlm.trans hle2
    have hxj : xs[j]? = some (wt (rank k + 1) prs[j].1) := by
      rw [hxs, List.getElem?_map, List.getElem?_map, List.getElem?_eq_getElem hjl]; rfl
    have htk : xs.take (j + 1) = xs.take j ++ [wt (rank k + 1) prs[j].1] := by rw [List.take_add_one, hxj]; rfl
    have hne := (hall _ hmem).1
    have hkl := Nat.le_trans (hkid _ hmem) hlen
    have ha0 := Nat.le_trans (hal j) hlen
    have ha1 := Nat.le_trans (hal (j + 1)) hlen
    have nxt : ∀ y, y = acc (j + 1) → ∃ N1, N1 < prs.length - j ∧ (xb = xb ∧ (0 : Nat) = 0 ∧ Le m1 m2 ∧ ∃ j' : Nat, IntKind.i64.wrap ((j : Int) + 1) = (j' : Int) ∧ j' ≤ prs.length ∧ N1 = prs.length - j' ∧ bstr y = bstr (acc j')) := by
      intro y hy
      refine ⟨prs.length - (j + 1), by omega, rfl, rfl, hlm2, j + 1, ?_, by omega, rfl, by rw [hy]⟩
      rw [wi (by omega) (by omega)]; omega
    refine LdV.s0 (hlm2 _ _ h1) (UnI.mk ?_)
    rcases h23 with rfl | rfl
    · -- side by side
      refine BrEf (by decide) ?_
      have hacc1 : acc (j + 1) = acc j ++ wt 2 prs[j].1 := by
        rw [hacc, hacc, if_neg (by decide), if_neg (by decide), htk, List.flatten_append]
        simp [show rank 2 + 1 = 2 from rfl]
      unfold eyotref8_Show.k3
      refine LdV.s0 (hlm2 _ _ h1) (UnI.mk ?_)
      refine BrEt rfl ?_
      refine LdV.s5 (hlm2 _ _ h1) (UnS.mk ?_)
      refine IxS.rxk (hc.le (hle.trans hlm2)) hjl ?_
      unfold eyotref8_Show.k4
      refine BrE (fun h3 => ?_) (fun h3 => ?_)
      · have hw : wt 2 prs[j].1 = 40 :: shw prs[j].1 ++ [41] := by unfold wt; rw [if_pos ((rank2 hne).mpr h3)]
        rw [hw] at hacc1
        have e1 : ByteArray.mk #[40] ++ bstr (shw prs[j].1) = bstr (40 :: shw prs[j].1) := bstr_append [40] _
        have e2 : bstr (40 :: shw prs[j].1) ++ ByteArray.mk #[41] = bstr (40 :: shw prs[j].1 ++ [41]) := bstr_append _ [41]
        refine ⟨by rw [bstr_size]; show 1 + _ ≤ _; omega, ?_⟩
        rw [e1]
        refine ⟨by rw [bstr_size]; show _ + 1 ≤ _; simp; omega, ?_⟩
        rw [e2]
        refine CatB_ls (by simp; omega) ?_
        rw [bstr_append]
        exact nxt _ hacc1.symm
      · have hw : wt 2 prs[j].1 = shw prs[j].1 := by unfold wt; rw [if_neg (fun h => h3 ((rank2 hne).mp h))]
        rw [hw] at hacc1
        refine CatB_ls (by omega) ?_
        rw [bstr_append]
        exact nxt _ hacc1.symm
    · -- alternatives
      refine BrEt rfl ?_
      have hw : wt 1 prs[j].1 = shw prs[j].1 := by unfold wt; rw [if_neg (rank1 hne)]
      have hacc1 : acc (j + 1) = (if j = 0 then shw prs[j].1 else acc j ++ 124 :: shw prs[j].1) := by
        rw [hacc, if_pos rfl, htk, joinBar_snoc]
        have : rank 3 + 1 = 1 := rfl
        rw [this, hw]
        by_cases h0 : j = 0
        · subst h0; simp
        · rw [if_neg h0, hacc, if_pos rfl, if_neg]
          intro h
          have := congrArg List.length h
          rw [List.length_take, List.length_nil] at this
          omega
      have tail : ∀ z : List UInt8, z.length ≤ 200000000 → z ++ shw prs[j].1 = acc (j + 1) → eyotref8_Show.k3 (fun x1b x1o x3 x4 m => ∃ N1, N1 < prs.length - j ∧ (x1b = xb ∧ x1o = 0 ∧ Le m1 m ∧ ∃ j' : Nat, x4 = (j' : Int) ∧ j' ≤ prs.length ∧ N1 = prs.length - j' ∧ x3 = bstr (acc j'))) xb 0 (bstr z) (j : Int) (bstr (shw prs[j].1)) R m2 := by
        intro z hz hza
        unfold eyotref8_Show.k3
        refine LdV.s0 (hlm2 _ _ h1) (UnI.mk ?_)
        refine BrEf (by decide) ?_
        unfold eyotref8_Show.k4
        refine Br.f rfl ?_
        refine CatB_ls (by omega) ?_
        rw [bstr_append]
        exact nxt _ hza
      refine BrD (fun h0 => ?_) (fun h0 => ?_)
      · rw [if_neg (show ¬ j = 0 by omega)] at hacc1
        refine ⟨by rw [bstr_size]; show _ + 1 ≤ _; omega, ?_⟩
        have e2 : bstr (acc j) ++ ByteArray.mk #[124] = bstr (acc j ++ [124]) := bstr_append _ [124]
        rw [e2]
        exact tail _ (by simp; omega) (by rw [hacc1]; simp)
      · have h0 : j = 0 := by omega
        subst h0
        rw [if_pos rfl] at hacc1
        have hz : acc 0 = [] := by rw [hacc, if_pos rfl]; rfl
        rw [hz]
        exact tail [] (by simp) (by rw [hacc1]; rfl)
  refine BrE (fun e2 => k1t (.inl e2)) (fun e2 => ?_)
  by_cases e3 : k = 3
  · have : (k == 3) = true := by simpa using e3
    rw [this]
    exact k1t (.inr e3)
  have hk3 : (k == 3) = false := by simpa using e3
  rw [hk3]
  obtain ⟨h4, h6, x, hx, _⟩ : 4 ≤ k ∧ k ≤ 6 ∧ ∃ x, prs.map (·.1) = [x] ∧ sgK x.k = false := by
    rcases hsh with ⟨h | h, _⟩ | h
    · exact absurd h e2
    · exact absurd h e3
    · exact h
  obtain ⟨p, rfl⟩ : ∃ p, prs = [p] := List.length_eq_one_iff.mp (by rw [← hpl, hx]; rfl)
  unfold eyotref8_Show.k1
  refine Br.f rfl ?_
  obtain ⟨a', l', c', hv⟩ := (hp p (by simp)).sl
  refine LdV.s5 h1 (UnS.mk ?_)
  refine IxS.rx6 (prs := [p]) (hc.le hle) (j := 0) (by simp) hv ?_
  refine part 0 (by simp) hle hv ?_
  intro m2 hle2
  dsimp only [Cont]
  refine UnStr.mk ?_
  have hle2' := hle.trans hle2
  refine LdV.s5 (hle2 _ _ h1) (UnS.mk ?_)
  refine IxS.rxk (prs := [p]) (hc.le hle2') (j := 0) (by simp) ?_
  simp only [List.getElem_cons_zero]
  have hsg : shw (.mk k S ([p].map (·.1))) = wt 3 p.1 ++ [sgB k] := shw_sign h4 h6
  rw [hsg] at hk hlen
  have k6 : eyotref8_Show.k6 b1 0 (bstr (wt 3 p.1)) R m2 := by
    unfold eyotref8_Show.k6
    intro b hb
    have hle3 := Le.set hb (.cells #[.string (ByteArray.mk #[42]), .string (ByteArray.mk #[43]), .string (ByteArray.mk #[63])] T_string (0, 0))
    have hbs : (m2.set b (.cells #[.string (ByteArray.mk #[42]), .string (ByteArray.mk #[43]), .string (ByteArray.mk #[63])] T_string (0, 0))) b = _ := set_same _ _ _
    refine LdV.s0 (hle3 _ _ (hle2 _ _ h1)) (UnI.mk ?_)
    rw [wi (by omega) (by omega)]
    have fin := hk _ (hle2'.trans hle3)
    simp only [List.length_append, List.length_cons, List.length_nil] at hlen
    rcases (by omega : k = 4 ∨ k = 5 ∨ k = 6) with rfl | rfl | rfl
    · refine ⟨by decide, by decide, ?_⟩
      refine LdV.s0 hbs (UnStr.mk ?_)
      refine ⟨by rw [bstr_size]; show _ + 1 ≤ _; omega, ?_⟩
      rw [← bstr_append] at fin
      exact fin
    · refine ⟨by decide, by decide, ?_⟩
      refine LdV.s1 hbs (UnStr.mk ?_)
      refine ⟨by rw [bstr_size]; show _ + 1 ≤ _; omega, ?_⟩
      rw [← bstr_append] at fin
      exact fin
    · refine ⟨by decide, by decide, ?_⟩
      refine LdV.s2 hbs (UnStr.mk ?_)
      refine ⟨by rw [bstr_size]; show _ + 1 ≤ _; omega, ?_⟩
      rw [← bstr_append] at fin
      exact fin
  have hpl1 : (shw p.1).length ≤ (wt 3 p.1).length := by
    unfold wt
    split
    · simp; omega
    · exact Nat.le_refl _
  simp only [List.length_append, List.length_cons, List.length_nil] at hlen
  refine BrN (fun h1' => ?_) (fun h1' => ?_)
  · have hw : wt 3 p.1 = 40 :: shw p.1 ++ [41] := by unfold wt; rw [if_pos (rank3.mpr h1')]
    rw [hw] at k6
    have e1 : ByteArray.mk #[40] ++ bstr (shw p.1) = bstr (40 :: shw p.1) := bstr_append [40] _
    have e2 : bstr (40 :: shw p.1) ++ ByteArray.mk #[41] = bstr (40 :: shw p.1 ++ [41]) := bstr_append _ [41]
    refine ⟨by rw [bstr_size]; show 1 + _ ≤ _; omega, ?_⟩
    show CatB (ByteArray.mk #[40] ++ bstr (shw p.1)) _ _
    rw [e1]
    refine ⟨by rw [bstr_size]; show _ + 1 ≤ _; simp; omega, ?_⟩
    show eyotref8_Show.k6 b1 0 (ByteArray.mk #[40] ++ bstr (shw p.1) ++ ByteArray.mk #[41]) R m2
    rw [e1, e2]
    exact k6
  · have hw : wt 3 p.1 = shw p.1 := by unfold wt; rw [if_neg (fun h => rank3.mp h h1')]
    rw [hw] at k6
    exact k6
end Go.E.Rg
set_option linter.unusedVariables false
set_option linter.unusedSimpArgs false
set_option maxRecDepth 20000
namespace Go.E.Rg
open Go.H Go.E
attribute [local irreducible] BiN MkS ConvN LookN MapUpN CallV HC limb dbTab
theorem wo_chg {m m' : Mem} {r : Nat} (k : Chg (fun b => b = r) m m') : Le (m.wo fun b => b = r) (m'.wo fun b => b = r) := fun b o hb => by
  by_cases e : b = r
  · rw [wo_out (F := fun b => b = r) e] at hb; cases hb
  · rw [wo_in (F := fun b => b = r) e] at hb ⊢
    exact k.eq b o hb e
/-- Numbers, some of them left; where they lie nothing turns (B). -/
def Pk (B m : Mem) (r : Nat) (l : List UInt8) : Prop := ∃ (la : Option Addr) (cap : Nat) (ps : List UInt8) (n : Nat), m r = some (.cells #[.slice la ps.length cap, .int .i64 (n : Int)] T_eyotplay_Picks (0, 0)) ∧ CellsAt B la (u8s ps) ∧ Le B (m.wo fun b => b = r) ∧ n ≤ ps.length ∧ ps.length ≤ 1000000 ∧ ps.drop n = l
section
variable {B m m' : Mem} {r b : Nat} {l : List UInt8}
theorem Pk.le (h : Pk B m r l) (k : Le m m') : Pk B m' r l := by
  obtain ⟨la, cap, ps, n, h1, h2, h3, h4⟩ := h
  exact ⟨la, cap, ps, n, k _ _ h1, h2, h3.trans (wo_chg (k.chg _)), h4⟩
theorem Pk.live (h : Pk B m r l) : m r ≠ none := by
  obtain ⟨la, cap, ps, n, h1, _⟩ := h
  rw [h1]; simp
theorem Pk.base (h : Pk B m r l) : Le B m := by
  obtain ⟨la, cap, ps, n, h1, h2, h3, h4⟩ := h
  exact h3.trans (wo_le _ _)
/-- Something new is written elsewhere. -/
theorem Pk.oth (h : Pk B m r l) (hb : b ≠ r) (hB : B b = none) (o : Obj) : Pk B (m.set b o) r l := by
  obtain ⟨la, cap, ps, n, h1, h2, h3, h4⟩ := h
  refine ⟨la, cap, ps, n, (set_other _ _ hb.symm).trans h1, h2, fun x o' hx => ?_, h4⟩
  have := h3 x o' hx
  by_cases e : x = r
  · rw [wo_out (F := fun b => b = r) e] at this; cases this
  · rw [wo_in (F := fun b => b = r) e] at this ⊢
    rw [set_other _ _ (fun e2 => by subst e2; rw [hB] at hx; cases hx)]; exact this
end
theorem Num_spec {B m : Mem} {r k : Nat} {l : List UInt8} (hp : Pk B m r l) (hk : 0 < k) {R : Ending → Mem → Prop} (h : ∀ m', Chg (fun b => b = r) m m' → Pk B m' r l.tail → R (.returned (.int .i64 (num l k : Nat))) m') :
    HC P eyotplay_Picks_Num.id #[.pointer (some ⟨r, 0, none⟩), .int .i64 (k : Int)] m R := by
  obtain ⟨la, cap, ps, n, h1, hB, h2, hn, hl, rfl⟩ := hp
  refine eyotplay_Picks_Num.ok _ _ _ _ ?_
  refine Sub.all ?_
  refine LdV.s1 h1 (UnI.mk ?_)
  refine LdV.s0 h1 (UnS.mk ?_)
  refine BrD (fun hge => ?_) (fun hlt => ?_)
  · have hz : ps.drop n = [] := List.drop_eq_nil_of_le (by omega)
    have := h m (Chg.refl _ _) ⟨la, cap, ps, n, h1, hB, h2, hn, hl, by rw [hz]; rfl⟩
    rw [hz] at this
    exact this
  have hnl : n < ps.length := by omega
  refine LdV.s1 h1 (UnI.mk ?_)
  rw [wi (n := (n : Int) + 1) (by omega) (by omega)]
  refine St1.to #[.slice la ps.length cap, .int .i64 ((n + 1 : Nat) : Int)] h1 (by simp) rfl rfl ?_
  have hch := Chg.set m r (.cells #[.slice la ps.length cap, .int .i64 ((n + 1 : Nat) : Int)] T_eyotplay_Picks (0, 0))
  have h1' : (m.set r (.cells #[.slice la ps.length cap, .int .i64 ((n + 1 : Nat) : Int)] T_eyotplay_Picks (0, 0))) r = _ := set_same _ _ _
  generalize m.set r (.cells #[.slice la ps.length cap, .int .i64 ((n + 1 : Nat) : Int)] T_eyotplay_Picks (0, 0)) = m2 at hch h1' ⊢
  have h2' := h2.trans (wo_chg hch)
  refine Sub.all ?_
  refine LdV.s0 h1' (UnS.mk ?_)
  refine LdV.s1 h1' (UnI.mk ?_)
  rw [wi (n := ((n + 1 : Nat) : Int) - 1) (by omega) (by omega), show ((n + 1 : Nat) : Int) - 1 = (n : Int) by omega]
  refine IxS.u8s (hB.le (h2'.trans (wo_le _ _))) rfl (by omega) (by omega) ?_
  intro x hx
  rw [Int.toNat_natCast] at hx
  refine UnI.mk ?_
  have hd : ps.drop n = x :: ps.drop (n + 1) := by
    rw [List.drop_eq_getElem_cons hnl]
    rw [List.getElem?_eq_getElem hnl] at hx
    cases hx; rfl
  have hxl := UInt8.toNat_lt x
  refine NzI.mk (by omega) ?_
  rw [wi (by omega) (by omega)]
  have := h m2 hch ⟨la, cap, ps, n + 1, h1', hB, h2', by omega, hl, by rw [hd]; rfl⟩
  rw [hd] at this
  have e : Int.tmod ((x.toNat : Nat) : Int) (k : Int) = ((num (x :: ps.drop (n + 1)) k : Nat) : Int) := by
    unfold num
    rw [Int.tmod_eq_emod_of_nonneg (by omega)]
    exact (Int.natCast_emod _ _).symm
  rw [e]
  exact this
/-- A row of bytes of one's own. -/
theorem new_row {m : Mem} {bs : List UInt8} {K : Nat → Mem → Prop} (h : ∀ b m', Le m m' → CellsAt m' (some ⟨b, 0, none⟩) (u8s bs) → K b m') : NewC m (u8s bs).toArray T_uint8 K := fun b hb =>
  h b _ (Le.set hb _) (cells_at (set_same _ _ _) (by simp))
theorem Set_spec {B m : Mem} {r : Nat} {l : List UInt8} (hp : Pk B m r l) {R : Ending → Mem → Prop} (h : ∀ m', Chg (fun b => b = r) m m' → Pk B m' r (psR l) → R (.returned (setv (psS l))) m') :
    HC P eyotplay_Picks_Set.id #[.pointer (some ⟨r, 0, none⟩)] m R := by
  refine eyotplay_Picks_Set.ok _ _ _ ?_
  intro b2 hb2
  have c2 := Cl.mk0 (T := T_api_Set) (c := z4) hp.live hb2
  have hBb : B b2 = none := hp.base.new hb2
  have hp1 := hp.le (Le.set hb2 (.cells z4 T_api_Set (0, 0)))
  generalize m.set b2 (.cells z4 T_api_Set (0, 0)) = m1 at c2 hp1 ⊢
  refine Num_spec (k := 7) hp1 (by decide) ?_
  intro m2 hch2 hp2
  have c3 := c2.step hch2
  dsimp only [Cont]
  refine UnI.mk ?_
  have h7 := num_lt l (m := 7) (by decide)
  -- the end: this set is told
  have fin : ∀ (S : Nat → Bool) (mm : Mem), Chg (fun b => b = r) m2 mm → Pk B mm r (psR l) → S = psS l →
      St1 mm b2 0 (.int .u64 (L S 0)) fun m1 => St1 m1 b2 1 (.int .u64 (L S 1)) fun m2 => St1 m2 b2 2 (.int .u64 (L S 2)) fun m3 => St1 m3 b2 3 (.int .u64 (L S 3)) fun m4 =>
        LdV m4 b2 0 fun v => UnI v .u64 fun x0 => LdV m4 b2 1 fun v => UnI v .u64 fun x1 => LdV m4 b2 2 fun v => UnI v .u64 fun x2 => LdV m4 b2 3 fun v => UnI v .u64 fun x3 => R (.returned (.agg #[.int .u64 x0, .int .u64 x1, .int .u64 x2, .int .u64 x3])) m4 := by
    rintro S mm hch hpm rfl
    have c4 := c3.step hch
    refine out4 c4.at_ ?_
    refine h _ (c4.put _).ch ?_
    exact hpm.oth c4.ne hBb _
  have hR : ∀ c, num l 7 = c → c ≤ 3 → psR l = l.tail := fun c h h' => by unfold psR; rw [if_pos (by omega)]
  refine BrE (fun e => ?_) (fun e => ?_)
  · have e : num l 7 = 0 := by omega
    refine new_row (bs := [97, 98]) ?_
    intro b m3 hle3 hc
    refine ROf_spec hc rfl (by decide) ?_
    intro m4 hle4
    refine ContSet.mk ?_
    exact fin _ m4 ((hle3.trans hle4).chg _) (by rw [hR 0 e (by decide)]; exact hp2.le (hle3.trans hle4)) (by unfold psS; rw [if_pos e])
  have e : num l 7 ≠ 0 := by omega
  refine BrE (fun e1 => ?_) (fun e1 => ?_)
  · have e1 : num l 7 = 1 := by omega
    refine new_row (bs := [98, 99, 100]) ?_
    intro b m3 hle3 hc
    refine ROf_spec hc rfl (by decide) ?_
    intro m4 hle4
    refine ContSet.mk ?_
    exact fin _ m4 ((hle3.trans hle4).chg _) (by rw [hR 1 e1 (by decide)]; exact hp2.le (hle3.trans hle4)) (by unfold psS; rw [if_neg e, if_pos e1])
  have e1 : num l 7 ≠ 1 := by omega
  refine BrE (fun e2 => ?_) (fun e2 => ?_)
  · have e2 : num l 7 = 2 := by omega
    refine new_row (bs := [97, 10]) ?_
    intro b m3 hle3 hc
    refine ROf_spec hc rfl (by decide) ?_
    intro m4 hle4
    refine ContSet.mk ?_
    refine RNot_spec ?_
    intro m5 hle5
    refine ContSet.mk ?_
    have hle := (hle3.trans hle4).trans hle5
    exact fin _ m5 (hle.chg _) (by rw [hR 2 e2 (by decide)]; exact hp2.le hle) (by unfold psS; rw [if_neg e, if_neg e1, if_pos e2])
  have e2 : num l 7 ≠ 2 := by omega
  refine BrE (fun e3 => ?_) (fun e3 => ?_)
  · have e3 : num l 7 = 3 := by omega
    refine new_row (bs := [48, 49, 50]) ?_
    intro b m3 hle3 hc
    refine ROf_spec hc rfl (by decide) ?_
    intro m4 hle4
    refine ContSet.mk ?_
    exact fin _ m4 ((hle3.trans hle4).chg _) (by rw [hR 3 e3 (by decide)]; exact hp2.le (hle3.trans hle4)) (by unfold psS; rw [if_neg e, if_neg e1, if_neg e2, if_pos e3])
  have e3 : num l 7 ≠ 3 := by omega
  refine Num_spec (k := 6) hp2 (by decide) ?_
  intro m3 hch3 hp3
  dsimp only [Cont]
  refine UnI.mk ?_
  have h6 := num_lt l.tail (m := 6) (by decide)
  have hsz : (ByteArray.mk #[97, 98, 49, 10, 32, 45]).size = 6 := rfl
  refine ⟨by omega, by omega, ?_⟩
  have hbt : bt (ByteArray.mk #[97, 98, 49, 10, 32, 45]) (num l.tail 6 : Nat) = (((few.getD (num l.tail 6) 0).toNat : Nat) : Int) := by
    generalize num l.tail 6 = q at h6
    have : q = 0 ∨ q = 1 ∨ q = 2 ∨ q = 3 ∨ q = 4 ∨ q = 5 := by omega
    rcases this with rfl | rfl | rfl | rfl | rfl | rfl <;> rfl
  rw [hbt]
  refine new_row (bs := [few.getD (num l.tail 6) 0]) ?_
  intro b m4 hle4 hc
  refine ROf_spec hc rfl (by simp) ?_
  intro m5 hle5
  refine ContSet.mk ?_
  have hle := hle4.trans hle5
  refine fin _ m5 (hch3.trans (hle.chg _) (fun _ _ e => e)) ?_ ?_
  · have : psR l = l.tail.tail := by unfold psR; rw [if_neg (by omega)]
    rw [this]; exact hp3.le hle
  · unfold psS; rw [if_neg e, if_neg e1, if_neg e2, if_neg e3]
end Go.E.Rg
set_option linter.unusedVariables false
set_option linter.unusedSimpArgs false
set_option maxRecDepth 20000
namespace Go.E.Rg
open Go.H Go.E
attribute [local irreducible] BiN MkS ConvN LookN MapUpN CallV HC limb dbTab
theorem Pk.chg {B m m' : Mem} {r : Nat} {l : List UInt8} {S : Nat → Prop} (h : Pk B m r l) (k : Chg S m m') (hs : ∀ b, S b → b ≠ r ∧ B b = none) : Pk B m' r l := by
  obtain ⟨la, cap, ps, n, h1, h2, h3, h4⟩ := h
  refine ⟨la, cap, ps, n, k.eq _ _ h1 (fun hS => (hs r hS).1 rfl), h2, fun x o' hx => ?_, h4⟩
  have := h3 x o' hx
  by_cases e : x = r
  · rw [wo_out (F := fun b => b = r) e] at this; cases this
  · rw [wo_in (F := fun b => b = r) e] at this ⊢
    exact k.eq x o' this (fun hS => by rw [(hs x hS).2] at hx; cases hx)
theorem Cl.with {T : TypeId} {m mm : Mem} {r b b' : Nat} {c : Array Value} (h : Cl T m mm r b c) (hne : b ≠ b') (o : Obj) (hm : m b' = none) : Cl T m (mm.set b' o) r b c := by
  refine ⟨(set_other _ _ hne).trans h.at_, h.ne, h.new, ?_⟩
  refine h.ch.trans (Chg.set mm b' o) (fun x hx e => ?_)
  rw [show x = b' from e, hm] at hx; exact absurd rfl hx
def PrxOK (d : Nat) : Prop := ∀ {B m : Mem} {r : Nat} {l : List UInt8} {R : Ending → Mem → Prop}, Pk B m r l → (∀ m' v, Chg (fun b => b = r) m m' → Pk B m' r (prx d l).2 → ArgC (newB m m') (prx d l).1 v → R (.returned (rxA (prx d l).1.k (prx d l).1.S v)) m') → HC P eyotplay_Picks_Rx.id #[.pointer (some ⟨r, 0, none⟩), .int .i64 (d : Int)] m R
section
variable {B m m1 : Mem} {r b4 b8 : Nat} {d n : Nat} {kind : Int} {l0 : List UInt8} {R : Ending → Mem → Prop}
/-- One more part is put on. -/
theorem k5_spec {K3 : Option Addr → Int → Nat → Nat → Int → Int → Nat → Nat → Int → Mem → Prop} {x0 : Option Addr} {x1 : Int} {x4o : Nat} {i : Nat} {mm : Mem} {b10 : Nat} {a : Option Addr} {c : Nat} {prs : List (Rx × Value)} {y : Rx} {a' : Option Addr} {l' c' : Nat} {lr : List UInt8}
    (hle1 : Le B m1) (hrl1 : m1 r ≠ none) (hl4 : m1 b4 ≠ none) (hl8 : m1 b8 ≠ none) (hup : ∀ b, m b ≠ none → m1 b ≠ none) (h48 : b4 ≠ b8) (hm8 : m b8 = none)
    (c4 : Cl T_api_Rx m mm r b4 zRx) (c8 : Cl T_api_Rx m mm r b8 (rxO kind noS (.slice a prs.length c))) (hL : RL m1 mm a c prs) (hp : Pk B mm r lr) (hupm : ∀ b, m1 b ≠ none → mm b ≠ none)
    (h10 : mm b10 = some (.cells (rxO y.k y.S (.slice a' l' c')) T_api_Rx (0, 0))) (hy : ArgC (on mm fun b => m1 b = none ∧ blk a ≠ some b) y (.slice a' l' c')) (hlen : prs.length ≤ 100) (hi : i ≤ 100) (hB8 : B b8 = none)
    (hK : ∀ m' a2 c2, Cl T_api_Rx m m' r b4 zRx → Cl T_api_Rx m m' r b8 (rxO kind noS (.slice a2 (prs.length + 1) c2)) → RL m1 m' a2 c2 (prs ++ [(y, .slice a' l' c')]) → Pk B m' r lr → (∀ b, m1 b ≠ none → m' b ≠ none) → K3 x0 x1 b4 x4o kind (n : Int) b8 0 ((i + 1 : Nat) : Int) m') :
    eyotplay_Picks_Rx.k5 K3 x0 x1 b4 x4o kind (n : Int) b8 0 (i : Int) b10 0 R mm := by
  unfold eyotplay_Picks_Rx.k5
  refine LdV.s5 c8.at_ (UnS.mk ?_)
  refine get6 h10 ?_
  refine RL.push hL (x := y) rfl hy (by omega) hupm ?_
  intro a2 c2 m5 hch5 hL5
  refine UnS.mk ?_
  have c45 := c4.app hch5 hL.fr hl4 hup
  have c85 := c8.app hch5 hL.fr hl8 hup
  have hp5 := hp.chg hch5 (fun b hb => ⟨fun e => by subst e; exact hrl1 (hL.fr b hb), hle1.new (hL.fr b hb)⟩)
  have hup5 : ∀ b, m1 b ≠ none → m5 b ≠ none := fun b hb => hch5.live b (hupm b hb)
  refine St1.to (rxO kind noS (.slice a2 (prs.length + 1) c2)) c85.at_ (by simp [rxO]) rfl (by simp [rxO]) ?_
  rw [show IntKind.i64.wrap ((i : Int) + 1) = ((i + 1 : Nat) : Int) by rw [wi (by omega) (by omega)]; omega]
  refine hK _ a2 c2 (c45.with h48 _ hm8) (c85.put _) (hL5.up (Chg.set m5 b8 _) (fun b e => by rw [show b = b8 from e]; exact hl8)) (hp5.oth c85.ne hB8 _) (fun b hb => (Chg.set m5 b8 _).live b (hup5 b hb))
end
theorem prx_spec : ∀ d, d ≤ 1000 → PrxOK d := by
  intro d
  induction d with
  | zero =>
    intro hd B m r l R hp k
    refine eyotplay_Picks_Rx.ok _ _ _ _ ?_
    intro b4 hb4
    have c4 := Cl.mk0 (T := T_api_Rx) (c := zRx) hp.live hb4
    have hB4 : B b4 = none := hp.base.new hb4
    have hp1 := hp.le (Le.set hb4 (.cells zRx T_api_Rx (0, 0)))
    generalize m.set b4 (.cells zRx T_api_Rx (0, 0)) = m1 at c4 hp1 ⊢
    refine Num_spec (k := 9) hp1 (by decide) ?_
    intro m2 hch2 hp2
    dsimp only [Cont]
    refine UnI.mk ?_
    refine BrDt (by omega) ?_
    unfold eyotplay_Picks_Rx.k1
    refine Br.t rfl ?_
    refine Set_spec hp2 ?_
    intro m3 hch3 hp3
    refine ContSet.mk ?_
    have c5 := (c4.step hch2).step hch3
    refine out6 (S := psS l.tail) c5.at_ ?_
    exact k _ (.slice none 0 0) (c5.put _).ch (hp3.oth c5.ne hB4 _) ArgC.none
  | succ d ih =>
    intro hd B m r l R hp k
    refine eyotplay_Picks_Rx.ok _ _ _ _ ?_
    intro b4 hb4
    have c4 := Cl.mk0 (T := T_api_Rx) (c := zRx) hp.live hb4
    have hB4 : B b4 = none := hp.base.new hb4
    have hle0 : Le m (m.set b4 (.cells zRx T_api_Rx (0, 0))) := Le.set hb4 _
    have hp1 := hp.le hle0
    have hl40 : (m.set b4 (.cells zRx T_api_Rx (0, 0))) b4 ≠ none := by rw [set_same]; simp
    generalize m.set b4 (.cells zRx T_api_Rx (0, 0)) = m0 at c4 hp1 hle0 hl40 ⊢
    refine Num_spec (k := 9) hp1 (by decide) ?_
    intro m2 hch2 hp2
    dsimp only [Cont]
    refine UnI.mk ?_
    have c42 := c4.step hch2
    have hl42 : m2 b4 ≠ none := hch2.live _ hl40
    have hup2 : ∀ b, m b ≠ none → m2 b ≠ none := fun b hb => hch2.live b (hle0.live hb)
    refine BrDf (by omega) ?_
    have h9 := num_lt l (m := 9) (by decide)
    have hprx : prx (d + 1) l = (if num l 9 < 4 then (st (psS l.tail), psR l.tail)
      else if kindOf (num l 9) ≤ 3 then (.mk (kindOf (num l 9)) noS (kidsF (prx d) (kindOf (num l 9)) (2 + num l.tail 2) l.tail.tail).1, (kidsF (prx d) (kindOf (num l 9)) (2 + num l.tail 2) l.tail.tail).2)
      else (.mk (kindOf (num l 9)) noS (kidsF (prx d) (kindOf (num l 9)) 1 l.tail).1, (kidsF (prx d) (kindOf (num l 9)) 1 l.tail).2)) := rfl
    unfold eyotplay_Picks_Rx.k1
    refine BrD (fun hlt => ?_) (fun hge => ?_)
    · rw [hprx, if_pos (by omega)] at k
      refine Set_spec hp2 ?_
      intro m3 hch3 hp3
      refine ContSet.mk ?_
      have c5 := c42.step hch3
      refine out6 (S := psS l.tail) c5.at_ ?_
      exact k _ (.slice none 0 0) (c5.put _).ch (hp3.oth c5.ne hB4 _) ArgC.none
    rw [hprx, if_neg (by omega)] at k
    have hki : kindOf (num l 9) = 2 + (((num l 9 + 1) % 5 : Nat) : Int) := rfl
    have ekind : IntKind.i64.wrap (2 + (Int.tmod (IntKind.i64.wrap (((num l 9 : Nat) : Int) + 1)) 5)) = kindOf (num l 9) := by
      rw [wi (n := ((num l 9 : Nat) : Int) + 1) (by omega) (by omega)]
      have : Int.tmod (((num l 9 : Nat) : Int) + 1) 5 = (((num l 9 + 1) % 5 : Nat) : Int) := by
        rw [Int.tmod_eq_emod_of_nonneg (by omega)]; omega
      rw [this, hki, wi (by omega) (by omega)]
    rw [ekind]
    have hkin := kindOf_in (num l 9)
    generalize kindOf (num l 9) = kind at k hkin ⊢
    -- so many parts
    have parts : ∀ (n : Nat) (l0 : List UInt8) (m3 : Mem), n ≤ 3 → Chg (fun b => b = r) m2 m3 → Pk B m3 r l0 →
        (∀ m' v, Chg (fun b => b = r) m m' → Pk B m' r (kidsF (prx d) kind n l0).2 → ArgC (newB m m') (.mk kind noS (kidsF (prx d) kind n l0).1) v → R (.returned (rxA kind noS v)) m') →
        eyotplay_Picks_Rx.k2 (some ⟨r, 0, none⟩) ((d + 1 : Nat) : Int) b4 0 kind (n : Int) R m3 := by
      intro n l0 m3 hn hch3 hp3 hk
      unfold eyotplay_Picks_Rx.k2
      intro b8 hb8
      have c43 := c42.step hch3
      have hm8 : m b8 = none := c43.ch.new hb8
      have hB8 : B b8 = none := hp3.base.new hb8
      have h48 : b4 ≠ b8 := by rintro rfl; rw [c43.at_] at hb8; cases hb8
      have h8r : b8 ≠ r := by rintro rfl; exact hp3.live hb8
      have key := put6 (m := m3.set b8 (.cells zRx T_api_Rx (0, 0))) (b := b8) (k := kind) (S := noS) (a := none) (l := 0) (c := 0) (e := T_api_Rx) (K := fun m7 => eyotplay_Picks_Rx.l3 (some ⟨r, 0, none⟩) ((d + 1 : Nat) : Int) b4 0 kind (n : Int) b8 0 0 R m7) (set_same _ _ _) (by
        rw [set_set]
        have c44 : Cl T_api_Rx m (m3.set b8 (.cells (rxO kind noS (.slice none 0 0)) T_api_Rx (0, 0))) r b4 zRx := c43.le (Le.set hb8 _)
        have c84 : Cl T_api_Rx m (m3.set b8 (.cells (rxO kind noS (.slice none 0 0)) T_api_Rx (0, 0))) r b8 (rxO kind noS (.slice none 0 0)) := Cl.mkAt c43.ch hp.live hb8
        have hp4 := hp3.le (Le.set hb8 (.cells (rxO kind noS (.slice none 0 0)) T_api_Rx (0, 0)))
        have hl8 : (m3.set b8 (.cells (rxO kind noS (.slice none 0 0)) T_api_Rx (0, 0))) b8 ≠ none := by rw [set_same]; simp
        have hl4 : (m3.set b8 (.cells (rxO kind noS (.slice none 0 0)) T_api_Rx (0, 0))) b4 ≠ none := (Le.set hb8 _).live (hch3.live _ hl42)
        have hup : ∀ b, m b ≠ none → (m3.set b8 (.cells (rxO kind noS (.slice none 0 0)) T_api_Rx (0, 0))) b ≠ none := fun b hb => (Le.set hb8 _).live (hch3.live b (hup2 b hb))
        generalize m3.set b8 (.cells (rxO kind noS (.slice none 0 0)) T_api_Rx (0, 0)) = m1 at c44 c84 hp4 hl8 hl4 hup ⊢
        have hrl1 := hp4.live
        have hle1 := hp4.base
        refine ⟨fun N x0 x1 x4b x4o x6 x7 x8b x8o i mm => x0 = some ⟨r, 0, none⟩ ∧ x1 = ((d + 1 : Nat) : Int) ∧ x4b = b4 ∧ x4o = 0 ∧ x6 = kind ∧ x7 = (n : Int) ∧ x8b = b8 ∧ x8o = 0 ∧ ∃ (j : Nat) (a : Option Addr) (c : Nat) (prs : List (Rx × Value)) (l' : List UInt8), i = (j : Int) ∧ j ≤ n ∧ N = n - j ∧ prs.length = j ∧ Cl T_api_Rx m mm r b4 zRx ∧ Cl T_api_Rx m mm r b8 (rxO kind noS (.slice a prs.length c)) ∧ RL m1 mm a c prs ∧ Pk B mm r l' ∧ (∀ b, m1 b ≠ none → mm b ≠ none) ∧
            kidsF (prx d) kind n l0 = (prs.map (·.1) ++ (kidsF (prx d) kind (n - j) l').1, (kidsF (prx d) kind (n - j) l').2), n,
          ⟨rfl, rfl, rfl, rfl, rfl, rfl, rfl, rfl, 0, none, 0, [], l0, rfl, by omega, by omega, rfl, c44, c84, ⟨Own.nil _ _ _, Fresh.none _, fun p hp => by cases hp⟩, hp4, fun b hb => hb, by simp⟩, ?_⟩
        rintro N x0 x1 x4b x4o x6 x7 x8b x8o i mm ⟨g0, g1, g2, g3, g4, g5, g6, g7, j, a, c, prs, l', rfl, hj, rfl, hpj, cm4, cm8, hL, hpm, hupm, hkids⟩
        subst x0 x1 x4b x4o x6 x7 x8b x8o
        unfold eyotplay_Picks_Rx.l3B
        refine BrD (fun hlt => ?_) (fun hge => ?_)
        rotate_left
        · have hz : n - j = 0 := by omega
          rw [hz] at hkids
          have e0 : kidsF (prx d) kind 0 l' = ([], l') := rfl
          rw [e0, List.append_nil] at hkids
          refine get6 cm8.at_ ?_
          refine out6 (S := noS) cm4.at_ ?_
          have c5 := cm4.put (rxO kind noS (.slice a prs.length c))
          have hL5 := hL.up (Chg.set mm b4 (.cells (rxO kind noS (.slice a prs.length c)) T_api_Rx (0, 0))) (fun b e => by rw [show b = b4 from e]; exact hl4)
          rw [hkids] at hk
          exact hk _ (.slice a prs.length c) c5.ch (hpm.oth cm4.ne hB4 _) ((hL5.arg (Le.refl _) (by omega) kind noS).le (newB_up hup))
        have ed : IntKind.i64.wrap (((d + 1 : Nat) : Int) - 1) = (d : Int) := by rw [wi (by omega) (by omega)]; omega
        rw [ed]
        refine ih (by omega) hpm ?_
        intro m4 v hch4 hp5 hv
        obtain ⟨a', l'', c', rfl⟩ := hv.sl
        refine ContRx.mk ?_
        refine copyRx ?_
        intro b10 m8 hb10 hle8 h10
        have cm4' := (cm4.step hch4).le hle8
        have cm8' := (cm8.step hch4).le hle8
        have hL8 := (hL.up hch4 (fun b e => by rw [show b = r from e]; exact hrl1)).up (hle8.chg fun _ => False) (fun _ h => h.elim)
        have hp8 := hp5.le hle8
        have hup8 : ∀ b, m1 b ≠ none → m8 b ≠ none := fun b hb => hle8.live (hch4.live b (hupm b hb))
        have hin : ∀ {y : Rx} {w : Value} {m9 : Mem}, ArgC (newB mm m9) y w → ArgC (on m9 fun b => m1 b = none ∧ blk a ≠ some b) y w := fun h => hL.in_ hupm h
        have hx : ArgC (newB mm m8) (prx d l').1 (.slice a' l'' c') := hv.le (newB_le hle8)
        obtain ⟨q, hq⟩ : ∃ q, n - j = q + 1 := ⟨n - j - 1, by omega⟩
        have hq' : n - (j + 1) = q := by omega
        have hks : kidsF (prx d) kind (n - j) l' = ((kidF (prx d) kind l').1 :: (kidsF (prx d) kind q (kidF (prx d) kind l').2).1, (kidsF (prx d) kind q (kidF (prx d) kind l').2).2) := by rw [hq]; rfl
        rw [hks] at hkids
        -- this part, or a set in its place
        have k4 : ∀ z : Bool, (z = true ↔ ((prx d l').1.k = kind ∨ (4 ≤ kind ∧ 4 ≤ (prx d l').1.k))) → eyotplay_Picks_Rx.k4 (fun x0 x1 x4b x4o x6 x7 x8b x8o i mm => ∃ N1, N1 < n - j ∧ (x0 = some ⟨r, 0, none⟩ ∧ x1 = ((d + 1 : Nat) : Int) ∧ x4b = b4 ∧ x4o = 0 ∧ x6 = kind ∧ x7 = (n : Int) ∧ x8b = b8 ∧ x8o = 0 ∧ ∃ (j : Nat) (a : Option Addr) (c : Nat) (prs : List (Rx × Value)) (l' : List UInt8), i = (j : Int) ∧ j ≤ n ∧ N1 = n - j ∧ prs.length = j ∧ Cl T_api_Rx m mm r b4 zRx ∧ Cl T_api_Rx m mm r b8 (rxO kind noS (.slice a prs.length c)) ∧ RL m1 mm a c prs ∧ Pk B mm r l' ∧ (∀ b, m1 b ≠ none → mm b ≠ none) ∧
            kidsF (prx d) kind n l0 = (prs.map (·.1) ++ (kidsF (prx d) kind (n - j) l').1, (kidsF (prx d) kind (n - j) l').2))) (some ⟨r, 0, none⟩) ((d + 1 : Nat) : Int) b4 0 kind (n : Int) b8 0 (j : Int) b10 0 z R m8 := by
          intro z hz
          have goOn : ∀ {m9 : Mem} {y : Rx} {ay : Option Addr} {ly cy : Nat} {lr : List UInt8}, kidF (prx d) kind l' = (y, lr) → Cl T_api_Rx m m9 r b4 zRx → Cl T_api_Rx m m9 r b8 (rxO kind noS (.slice a prs.length c)) → RL m1 m9 a c prs → Pk B m9 r lr → (∀ b, m1 b ≠ none → m9 b ≠ none) → m9 b10 = some (.cells (rxO y.k y.S (.slice ay ly cy)) T_api_Rx (0, 0)) → ArgC (on m9 fun b => m1 b = none ∧ blk a ≠ some b) y (.slice ay ly cy) →
              eyotplay_Picks_Rx.k5 (fun x0 x1 x4b x4o x6 x7 x8b x8o i mm => ∃ N1, N1 < n - j ∧ (x0 = some ⟨r, 0, none⟩ ∧ x1 = ((d + 1 : Nat) : Int) ∧ x4b = b4 ∧ x4o = 0 ∧ x6 = kind ∧ x7 = (n : Int) ∧ x8b = b8 ∧ x8o = 0 ∧ ∃ (j : Nat) (a : Option Addr) (c : Nat) (prs : List (Rx × Value)) (l' : List UInt8), i = (j : Int) ∧ j ≤ n ∧ N1 = n - j ∧ prs.length = j ∧ Cl T_api_Rx m mm r b4 zRx ∧ Cl T_api_Rx m mm r b8 (rxO kind noS (.slice a prs.length c)) ∧ RL m1 mm a c prs ∧ Pk B mm r l' ∧ (∀ b, m1 b ≠ none → mm b ≠ none) ∧
                kidsF (prx d) kind n l0 = (prs.map (·.1) ++ (kidsF (prx d) kind (n - j) l').1, (kidsF (prx d) kind (n - j) l').2))) (some ⟨r, 0, none⟩) ((d + 1 : Nat) : Int) b4 0 kind (n : Int) b8 0 (j : Int) b10 0 R m9 := by
            intro m9 y ay ly cy lr hkf d4 d8 dL dp dup d10 dy
            refine k5_spec (m := m) (m1 := m1) hle1 hrl1 hl4 hl8 hup h48 hm8 d4 d8 dL dp dup d10 dy (by omega) (by omega) hB8 ?_
            intro m' a2 c2 e4 e8 eL ep eup
            refine ⟨n - (j + 1), by omega, rfl, rfl, rfl, rfl, rfl, rfl, rfl, rfl, j + 1, a2, c2, prs ++ [(y, .slice ay ly cy)], lr, rfl, by omega, rfl, by simp [hpj], e4, by rw [List.length_append]; exact e8, eL, ep, eup, ?_⟩
            rw [hq', hkids, hkf]
            simp
          unfold eyotplay_Picks_Rx.k4
          refine Br.mk (fun ht => ?_) (fun hf => ?_)
          · have hc := hz.mp ht
            have hkf : kidF (prx d) kind l' = (st (psS (prx d l').2), psR (prx d l').2) := by unfold kidF; rw [if_pos hc]
            refine Set_spec hp8 ?_
            intro m9 hch9 hp9
            refine ContSet.mk ?_
            have h10r : b10 ≠ r := by rintro rfl; exact hp5.live hb10
            have h109 := hch9.eq _ _ h10 h10r
            refine put6 (S := psS (prx d l').2) h109 ?_
            have hb10m1 : m1 b10 = none := by
              cases h : m1 b10 with
              | none => rfl
              | some o => exact absurd hb10 (hch4.live _ (hupm _ (by rw [h]; simp)))
            have hne4 : b4 ≠ b10 := by rintro rfl; exact hl4 hb10m1
            have hne8 : b8 ≠ b10 := by rintro rfl; exact hl8 hb10m1
            have hm10 : m b10 = none := by
              cases h : m b10 with
              | none => rfl
              | some o => exact absurd hb10m1 (hup _ (by rw [h]; simp))
            refine goOn hkf ((cm4'.step hch9).with hne4 _ hm10) ((cm8'.step hch9).with hne8 _ hm10) ?_ (hp9.oth h10r (hle1.new hb10m1) _) (fun b hb => (Chg.set m9 b10 _).live b (hch9.live b (hup8 b hb))) (set_same _ _ _) ArgC.none
            have hL9 := hL8.up hch9 (fun b e => by rw [show b = r from e]; exact hrl1)
            have hab : blk a ≠ some b10 := fun e => by
              have := (hL.up hch4 (fun b e => by rw [show b = r from e]; exact hrl1)).own.live b10 e
              exact this hb10
            have hchS := Chg.set m9 b10 (.cells (rxO 1 (psS (prx d l').2) (.slice none 0 0)) T_api_Rx (0, 0))
            refine ⟨hL9.own.chg hchS (fun b hb e => hab (by rw [hb]; rw [show b = b10 from e])), hL9.fr, fun p hpp => ?_⟩
            -- what the parts have lies elsewhere: it is older than b10
            have h0 := (hL.up hch4 (fun b e => by rw [show b = r from e]; exact hrl1)).ok p hpp
            refine h0.le ?_
            intro b o hb
            obtain ⟨g1, g2⟩ := on_live hb
            have hbne : b ≠ b10 := by rintro rfl; rw [hb10] at g2; cases g2
            have hbr : b ≠ r := fun e => hrl1 (e ▸ g1.1)
            rw [on_in (G := fun b => m1 b = none ∧ blk a ≠ some b) g1, set_other _ _ hbne]
            exact hch9.eq _ _ (hle8 _ _ g2) hbr
          · have hc : ¬ ((prx d l').1.k = kind ∨ (4 ≤ kind ∧ 4 ≤ (prx d l').1.k)) := by rw [← hz, hf]; decide
            have hkf : kidF (prx d) kind l' = ((prx d l').1, (prx d l').2) := by unfold kidF; rw [if_neg hc]
            exact goOn hkf cm4' cm8' hL8 hp8 hup8 h10 (hin hx)
        refine LdV.s0 h10 (UnI.mk ?_)
        refine BrE (fun e => ?_) (fun e => ?_)
        · exact k4 true (by simp [e])
        refine BrD (fun h4 => ?_) (fun h4 => ?_)
        · refine LdV.s0 h10 (UnI.mk ?_)
          refine k4 _ ?_
          simp only [ge_iff_le, decide_eq_true_eq]
          exact ⟨fun h => .inr ⟨by omega, h⟩, fun h => by rcases h with h | h; exact absurd h e; exact h.2⟩
        · refine k4 false ⟨fun h => (by cases h), fun h => ?_⟩
          rcases h with h | h
          · exact absurd h e
          · omega)
      rw [noS_L, noS_L, noS_L, noS_L] at key
      exact key
    refine BrD (fun h3 => ?_) (fun h3 => ?_)
    · rw [if_pos (by omega)] at k
      refine Num_spec (k := 2) hp2 (by decide) ?_
      intro m3 hch3 hp3
      dsimp only [Cont]
      refine UnI.mk ?_
      have h2 := num_lt l.tail (m := 2) (by decide)
      have e2 : IntKind.i64.wrap (2 + ((num l.tail 2 : Nat) : Int)) = ((2 + num l.tail 2 : Nat) : Int) := by rw [wi (by omega) (by omega)]; omega
      rw [e2]
      exact parts _ _ m3 (by omega) hch3 hp3 k
    · rw [if_neg (by omega)] at k
      exact parts 1 _ m2 (by omega) (Chg.refl _ _) hp2 k
end Go.E.Rg
set_option linter.unusedVariables false
set_option linter.unusedSimpArgs false
set_option maxRecDepth 20000
namespace Go.E.Rg
open Go.H Go.E
theorem shW_len (f : Nat → Bool) : (shW f).length ≤ 2306 := by
  have h1 := run_len f 256
  have hb : ∀ rs : List (Nat × Nat), rs.length ≤ 256 → (brk rs).length ≤ 2306 := by
    intro rs h
    have := joinR_len rs
    unfold brk
    simp only [List.length_append, List.length_cons, List.length_nil]
    omega
  unfold shW
  split
  · simp
  split
  · simp
  split
  · rename_i a b hr
    split
    · have := sgT_len a; omega
    · exact hb _ (by simp)
  · exact hb _ h1
theorem shw_len (r : Rx) : (shw r).length + 3 ≤ 2400 * nodes r := by
  refine Rx.rec (motive_1 := fun r => (shw r).length + 3 ≤ 2400 * nodes r) (motive_2 := fun ps => ∀ l, (joinBar (ps.map (wt l))).length ≤ 2400 * nodesL ps ∧ ((ps.map (wt l)).flatten).length ≤ 2400 * nodesL ps ∧ (((ps.map (wt l)).map fun y => 124 :: y).flatten).length ≤ 2400 * nodesL ps) ?_ ?_ ?_ r
  · intro k S ps ih
    have h := ih (rank k + 1)
    rw [nodes_mk']
    conv => lhs; arg 1; unfold shw
    rw [shwL_map]
    split
    · have := shW_len S; omega
    split
    · omega
    split
    · rw [List.length_append]; simp only [List.length_cons, List.length_nil]; omega
    · omega
  · intro l
    rw [nodesL_nil]
    simp [joinBar]
  · intro r rs h1 h2 l
    have h := h2 l
    have hw : (wt l r).length ≤ (shw r).length + 2 := by
      unfold wt
      split
      · simp
      · omega
    rw [nodesL_cons', List.map_cons, joinBar_flat, List.flatten_cons, List.map_cons, List.flatten_cons]
    simp only [List.length_append, List.length_cons]
    omega
theorem may_len {r : Rx} (h : may r = 0) : (shw r).length ≤ 100000 ∧ nodes r ≤ 40 := by
  have h1 := shw_len r
  have h2 := (may_form h).2.1
  omega
theorem kid_nodes {f : List UInt8 → Rx × List UInt8} {D : Nat} (hD : 1 ≤ D) (hf : ∀ l, nodes (f l).1 ≤ D) (kind : Int) (l : List UInt8) : nodes (kidF f kind l).1 ≤ D := by
  unfold kidF
  split
  · show nodes (st _) ≤ D
    unfold st
    rw [nodes_mk', nodesL_nil]; omega
  · exact hf l
theorem kids_nodes {f : List UInt8 → Rx × List UInt8} {D : Nat} (hD : 1 ≤ D) (hf : ∀ l, nodes (f l).1 ≤ D) (kind : Int) : ∀ (n : Nat) (l : List UInt8), nodesL (kidsF f kind n l).1 ≤ n * D
  | 0, l => by show nodesL [] ≤ _; rw [nodesL_nil]; omega
  | n + 1, l => by
    show nodesL ((kidF f kind l).1 :: _) ≤ _
    rw [nodesL_cons', Nat.add_mul, Nat.one_mul]
    have h1 := kid_nodes hD hf kind l
    have h2 := kids_nodes hD hf kind n (kidF f kind l).2
    omega
theorem prx_nodes : ∀ (d : Nat) (l : List UInt8), nodes (prx d l).1 ≤ 4 ^ d
  | 0, l => by
    show nodes (st _) ≤ _
    unfold st
    rw [nodes_mk', nodesL_nil]; simp
  | d + 1, l => by
    have hD : 1 ≤ 4 ^ d := Nat.pow_pos (by decide)
    have hs : ∀ S, nodes (st S) = 1 := fun S => by unfold st; rw [nodes_mk', nodesL_nil]
    unfold prx
    have h2 := num_lt l.tail (m := 2) (by decide)
    rw [Nat.pow_succ]
    split
    · show nodes (st _) ≤ _
      rw [hs]; omega
    split
    · show nodes (Rx.mk _ _ _) ≤ _
      rw [nodes_mk']
      have := kids_nodes hD (prx_nodes d) (kindOf (num l 9)) (2 + num l.tail 2) l.tail.tail
      have h3 : (2 + num l.tail 2) * 4 ^ d ≤ 3 * 4 ^ d := Nat.mul_le_mul_right _ (by omega)
      omega
    · show nodes (Rx.mk _ _ _) ≤ _
      rw [nodes_mk']
      have := kids_nodes hD (prx_nodes d) (kindOf (num l 9)) 1 l.tail
      omega
end Go.E.Rg
set_option linter.unusedVariables false
set_option linter.unusedSimpArgs false
set_option maxRecDepth 20000
namespace Go.E.Rg
open Go.H Go.E
attribute [local irreducible] BiN MkS ConvN LookN MapUpN CallV HC limb dbTab
theorem conv_bytes {P : Program} {t e : TypeId} (ht : P.underlying t = some (.slice e)) (he : P.underlying e = some (.int .u8)) {m : Mem} {b l c : Nat} {cur : Array Value} (hb : m b = some (.cells cur e (0, 0))) {K : Value → Mem → Prop} {Pn : List PanicEntry → Mem → Prop}
    (k : K (.slice (some ⟨b, 0, none⟩) l c) (m.set b (.cells cur e (cur.size, cur.size + 1)))) : ConvN P t t (.slice (some ⟨b, 0, none⟩) l c) m K Pn := by
  unfold ConvN
  rw [pt_bind]
  unfold convert
  rw [pt_bind, pt_under ht, pt_bind, pt_under ht]
  simp only [beq_self_eq_true]
  rw [pt_bind, pt_under he]
  simp only []
  rw [pt_bind]
  unfold markStringish
  rw [pt_bind]
  refine ⟨_, hb, ?_⟩
  simp only [shapeOf]
  show ∃ o, _
  refine ⟨_, hb, ?_⟩
  simp only [freezeObj]
  exact k
/-- The bytes of a text that is written in the program. -/
theorem lit_bytes {m : Mem} {bs : List UInt8} {K : Option Addr → Nat → Nat → Mem → Prop} {Pn : List PanicEntry → Mem → Prop} (h : ∀ b m', Le m m' → CellsAt m' (some ⟨b, 0, none⟩) (u8s bs) → K (some ⟨b, 0, none⟩) bs.length bs.length m') :
    NewC m (u8s bs).toArray T_uint8 fun b m1 => ConvN P T_sl_uint8 T_sl_uint8 (.slice (some ⟨b, 0, none⟩) bs.length bs.length) m1 (fun w m2 => UnS w fun a l c => K a l c m2) Pn := by
  intro b hb
  refine conv_bytes (by kernel_rfl) (by kernel_rfl) (set_same _ _ _) ?_
  refine UnS.mk ?_
  rw [set_set]
  exact h b _ (Le.set hb _) (cells_at (set_same _ _ _) (by simp))
/-- What Parse answers. -/
theorem ContPR.mk {k u0 u1 u2 u3 e : Int} {a : Option Addr} {l c : Nat} {K : Int → Int → Int → Int → Int → Option Addr → Nat → Nat → Int → Mem → Prop} {Pn : List PanicEntry → Mem → Prop} {m : Mem} (h : K k u0 u1 u2 u3 a l c e m) :
    Cont (fun v m => UnTup v fun us0 => UnCons us0 fun w us1 => UnAgg w fun l => UnCons l fun v l => UnI v .i64 fun x0 => UnCons l fun v l => UnI v .u64 fun x1 => UnCons l fun v l => UnI v .u64 fun x2 => UnCons l fun v l => UnI v .u64 fun x3 => UnCons l fun v l => UnI v .u64 fun x4 => UnCons l fun v l => UnS v fun xa xl xc => UnNil l (
      UnCons us1 fun w us2 => UnI w .i64 fun e => UnNil us2 (K x0 x1 x2 x3 x4 xa xl xc e m))) Pn
      (.returned (.tuple #[.agg #[.int .i64 k, .int .u64 u0, .int .u64 u1, .int .u64 u2, .int .u64 u3, .slice a l c], .int .i64 e])) m := h
/-- Parse told at once: what it answers, as an expression with a word why not. -/
def prs (l : List UInt8) : Rx × Int := match parse l with | .ok x => (x, 0) | .error e => (rx0, e)
theorem Parse_any {s : ByteArray} {m : Mem} (hG : Glob m) (hs : s.size ≤ 1000000) {R : Ending → Mem → Prop} (k : ∀ m' a l c, Le m m' → ArgC m' (prs (lst s)).1 (.slice a l c) → R (.returned (.tuple #[rxA (prs (lst s)).1.k (prs (lst s)).1.S (.slice a l c), .int .i64 (prs (lst s)).2])) m') : HC P regex_Parse.id #[.string s] m R := by
  unfold prs at k
  refine Parse_ok hG hs (fun x hx m' v hle hv => ?_) (fun e he m' hle => ?_)
  · obtain ⟨a, l, c, rfl⟩ := hv.sl
    rw [hx] at k
    exact k m' a l c hle hv
  · rw [he] at k
    exact k m' none 0 0 hle ArgC.none
theorem bstr_beq (a b : List UInt8) : ((bstr a).toList == (bstr b).toList) = (a == b) := by
  rw [Bool.eq_iff_iff, beq_iff_eq, beq_iff_eq, ByteArray.toList_eq, ByteArray.toList_eq]
  exact Iff.rfl
theorem Made_spec {B m : Mem} {la : Option Addr} {cap : Nat} {ps : List UInt8} (hB : Le B m) (hc : CellsAt B la (u8s ps)) (hl : ps.length ≤ 1000000) {R : Ending → Mem → Prop} (h : ∀ m' r, Le m m' → m r = none → Pk B m' r ps → R (.returned (.pointer (some ⟨r, 0, none⟩))) m') :
    HC P eyotplay_Made.id #[.slice la ps.length cap] m R := by
  refine eyotplay_Made.ok _ _ _ _ _ ?_
  intro r hr
  refine h _ r (Le.set hr _) hr ⟨la, cap, ps, 0, set_same _ _ _, hc, le_wo (hB.trans (Le.set hr _)) (fun b e => by rw [show b = r from e]; exact hB.new hr), by omega, hl, by simp⟩
/-- An expression made of numbers. -/
theorem made_rx {B m : Mem} {la : Option Addr} {cap d : Nat} {ps : List UInt8} (hB : Le B m) (hc : CellsAt B la (u8s ps)) (hl : ps.length ≤ 1000000) (hd : d ≤ 1000) {R : Ending → Mem → Prop} {Pn : List PanicEntry → Mem → Prop}
    (h : ∀ m' a l c, Le m m' → ArgC m' (prx d ps).1 (.slice a l c) → R (.returned (rxA (prx d ps).1.k (prx d ps).1.S (.slice a l c))) m') :
    HC P eyotplay_Made.id #[.slice la ps.length cap] m (Cont (fun v m2 => UnP v fun x => HC P eyotplay_Picks_Rx.id #[.pointer x, .int .i64 (d : Int)] m2 R) Pn) := by
  refine Made_spec hB hc hl ?_
  intro m1 r hle1 hr hp
  dsimp only [Cont]
  refine UnP.mk ?_
  refine prx_spec d hd hp ?_
  intro m2 v hch hp2 hv
  obtain ⟨a, l, c, rfl⟩ := hv.sl
  exact h m2 a l c (hch.to_le hle1 (fun b e => by rw [show b = r from e]; exact hr)) (hv.le (on_le _ _))
/-- A result in a place of its own. -/
theorem own6 {m : Mem} {k : Int} {S : Nat → Bool} {a : Option Addr} {l c : Nat} {x0 x1 x2 x3 x4 x5 : Value} {K : Nat → Mem → Prop}
    (h : ∀ b m1, m b = none → Le m m1 → m1 b = some (.cells (rxO k S (.slice a l c)) T_api_Rx (0, 0)) → K b m1) :
    NewC m #[x0, x1, x2, x3, x4, x5] T_api_Rx fun b m1 => St1 m1 b 0 (.int .i64 k) fun m2 => St1 m2 b 1 (.int .u64 (L S 0)) fun m3 => St1 m3 b 2 (.int .u64 (L S 1)) fun m4 => St1 m4 b 3 (.int .u64 (L S 2)) fun m5 => St1 m5 b 4 (.int .u64 (L S 3)) fun m6 => St1 m6 b 5 (.slice a l c) fun m7 => K b m7 := copyRx h
theorem begun_spec {m : Mem} (hG : Glob m) {R : Ending → Mem → Prop} (k : ∀ m', Le m m' → R (.returned (.bool true)) m') : HC P eyotlaw9_begun.id #[] m R := by
  refine eyotlaw9_begun.ok _ _ ?_
  have hl : lst (ByteArray.mk #[97, 40, 98, 124, 99, 41, 42]) = bgT := rfl
  refine Parse_ok hG (by decide) (fun x hx m1 v hle1 hv => ?_) (fun e he => by rw [hl, bg_parse] at he; cases he)
  rw [hl, bg_parse] at hx
  cases hx
  obtain ⟨a, l, c, rfl⟩ := hv.sl
  refine ContPR.mk ?_
  refine own6 ?_
  intro b m8 hb hle8 h8
  have hv8 := hv.le hle8
  refine BrEt rfl ?_
  refine get6 h8 ?_
  have hnod : nodes bgR ≤ 1000 := by decide +kernel
  refine Show_ok bgR hv8 (by omega) (by rw [bg_show]; decide) ?_
  intro m9 hle9
  dsimp only [Cont]
  refine UnStr.mk ?_
  rw [bg_show]
  refine Br.t (by show ((bstr bgT).toList == (bstr bgT).toList) = true; rw [bstr_beq]; simp) ?_
  have h9 := hle9 _ _ h8
  refine get6 h9 ?_
  refine May_spec (hv8.le hle9) (by omega) ?_
  intro m10 hle10
  dsimp only [Cont]
  refine UnI.mk ?_
  refine BrEt bg_may ?_
  have h10 := hle10 _ _ h9
  have hv10 := (hv8.le hle9).le hle10
  refine get6 h10 ?_
  refine Null_spec bgR hv10 ?_
  intro m11 hle11
  dsimp only [Cont]
  refine UnB.mk ?_
  rw [bg_null]
  refine Br.t rfl ?_
  have h11 := hle11 _ _ h10
  have hv11 := hv10.le hle11
  refine get6 h11 ?_
  refine lit_bytes (bs := [97, 98, 99]) ?_
  intro bb m13 hle13 hc13
  refine In_spec (w := [97, 98, 99]) (hv11.le hle13) (by omega) hc13 (by decide) ?_
  intro m14 hle14
  dsimp only [Cont]
  refine UnB.mk ?_
  rw [bg_in.1]
  refine Br.t rfl ?_
  have h14 := hle14 _ _ (hle13 _ _ h11)
  have hv14 := (hv11.le hle13).le hle14
  refine get6 h14 ?_
  refine lit_bytes (bs := [98]) ?_
  intro bb m16 hle16 hc16
  refine In_spec (w := [98]) (hv14.le hle16) (by omega) hc16 (by decide) ?_
  intro m17 hle17
  dsimp only [Cont]
  refine UnB.mk ?_
  rw [bg_in.2]
  exact k m17 (((((hle1.trans hle8).trans (hle9.trans hle10)).trans (hle11.trans hle13)).trans (hle14.trans hle16)).trans hle17)
end Go.E.Rg
set_option linter.unusedVariables false
set_option linter.unusedSimpArgs false
set_option maxRecDepth 20000
namespace Go.E.Rg
open Go.H Go.E
attribute [local irreducible] BiN MkS ConvN LookN MapUpN CallV HC limb dbTab
theorem own6z {m : Mem} {k : Int} {a : Option Addr} {l c : Nat} {x0 x1 x2 x3 x4 x5 : Value} {K : Nat → Mem → Prop}
    (h : ∀ b m1, m b = none → Le m m1 → m1 b = some (.cells (rxO k noS (.slice a l c)) T_api_Rx (0, 0)) → K b m1) :
    NewC m #[x0, x1, x2, x3, x4, x5] T_api_Rx fun b m1 => St1 m1 b 0 (.int .i64 k) fun m2 => St1 m2 b 1 (.int .u64 0) fun m3 => St1 m3 b 2 (.int .u64 0) fun m4 => St1 m4 b 3 (.int .u64 0) fun m5 => St1 m5 b 4 (.int .u64 0) fun m6 => St1 m6 b 5 (.slice a l c) fun m7 => K b m7 := by
  have key := own6 (m := m) (k := k) (S := noS) (a := a) (l := l) (c := c) (x0 := x0) (x1 := x1) (x2 := x2) (x3 := x3) (x4 := x4) (x5 := x5) h
  rw [noS_L, noS_L, noS_L, noS_L] at key
  exact key
end Go.E.Rg
set_option linter.unusedVariables false
set_option linter.unusedSimpArgs false
set_option maxRecDepth 20000
namespace Go.E.Rg
open Go.H Go.E
attribute [local irreducible] BiN MkS ConvN LookN MapUpN CallV HC limb dbTab
theorem Le.step {m mm m' : Mem} {a : Option Addr} (h : Le m mm) (k : Chg (fun b => blk a = some b) mm m') (hf : Fresh m a) : Le m m' := k.to_le h (fun b e => hf b e)
end Go.E.Rg
set_option linter.unusedVariables false
set_option linter.unusedSimpArgs false
set_option maxRecDepth 20000
namespace Go.E.Rg
open Go.H Go.E
attribute [local irreducible] BiN MkS ConvN LookN MapUpN CallV HC limb dbTab
theorem newBox2 {m : Mem} {x y : Rx} {a a2 : Option Addr} {l c l2 c2 : Nat} {K : Nat → Mem → Prop} (h : ∀ b m1, m b = none → Le m m1 → m1 b = some (.cells #[.int .i64 x.k, .int .u64 (L x.S 0), .int .u64 (L x.S 1), .int .u64 (L x.S 2), .int .u64 (L x.S 3), .slice a l c, .int .i64 y.k, .int .u64 (L y.S 0), .int .u64 (L y.S 1), .int .u64 (L y.S 2), .int .u64 (L y.S 3), .slice a2 l2 c2] T_api_Rx (0, 0)) → K b m1) :
    NewC m #[.int .i64 x.k, .int .u64 (L x.S 0), .int .u64 (L x.S 1), .int .u64 (L x.S 2), .int .u64 (L x.S 3), .slice a l c, .int .i64 y.k, .int .u64 (L y.S 0), .int .u64 (L y.S 1), .int .u64 (L y.S 2), .int .u64 (L y.S 3), .slice a2 l2 c2] T_api_Rx K := fun b hb => h b _ hb (Le.set hb _) (set_same _ _ _)
section
variable {S T : Nat → Bool} {v w : List UInt8} {m0 m : Mem} {b13 b14 b15 : Nat} {ca aa sa : Option Addr} {cc ac sc : Nat}
def catR (S T : Nat → Bool) : Rx := .mk 2 noS [st S, st T]
def altR (S T : Nat → Bool) : Rx := .mk 3 noS [st S, st T]
def starR (S : Nat → Bool) : Rx := .mk 4 noS [st S]
/-- What is at hand while the answers are put together. -/
structure Sp (S T : Nat → Bool) (m0 m : Mem) (b13 b14 b15 : Nat) (ca aa sa : Option Addr) (cc ac sc : Nat) : Prop where
  le : Le m0 m
  h13 : m b13 = some (.cells (rxO 2 noS (.slice ca 2 cc)) T_api_Rx (0, 0))
  h14 : m b14 = some (.cells (rxO 3 noS (.slice aa 2 ac)) T_api_Rx (0, 0))
  h15 : m b15 = some (.cells (rxO 4 noS (.slice sa 1 sc)) T_api_Rx (0, 0))
  c : ArgC m (catR S T) (.slice ca 2 cc)
  a : ArgC m (altR S T) (.slice aa 2 ac)
  s : ArgC m (starR S) (.slice sa 1 sc)
theorem Sp.up {m' : Mem} (h : Sp S T m0 m b13 b14 b15 ca aa sa cc ac sc) (k : Le m m') : Sp S T m0 m' b13 b14 b15 ca aa sa cc ac sc :=
  ⟨h.le.trans k, k _ _ h.h13, k _ _ h.h14, k _ _ h.h15, h.c.le k, h.a.le k, h.s.le k⟩
variable {wa va : Option Addr} {wc vc : Nat}
end
end Go.E.Rg
set_option linter.unusedVariables false
set_option maxRecDepth 100000
namespace Go.E
open Go.H
noncomputable section
/-! ### eyot/eyotlaw9.RegexGroups -/
namespace eyotlaw9_RegexGroups
noncomputable def fn : Func := Go.Proofs.Tryd.f11
noncomputable def body : Code := fn.body.getD .skip
def od : Nat → Ord := fun | 18 => ordL [(0, 3), (1, 1), (2, 3), (3, 3), (4, 3), (5, 3), (6, 0), (7, 2), (8, 3), (9, 2)] .done | 19 => ordL [(0, 3), (1, 1), (2, 3), (3, 3), (4, 3), (5, 0), (6, 0), (7, 2), (8, 3), (9, 2)] .done | _ => .done
def tb : Nat → Tab := fun | 18 => (640, [0, 1, 0, 0, 12, 28, 60, 127, 255, 511], [(0, 16384, 85), (1, 19342813113834066795298816, 86), (0, 32768, 87), (0, 65536, 88), (12, 232113757366008801543585792, 89), (16, 309485009821345068724781056, 90), (32, 618970019642690137449562112, 91), (66, 1276625665513048408489721856, 92), (255, 16384, 93), (511, 7427640235712281649394745344, 0)]) | 19 => (640, [0, 1, 0, 0, 12, 28, 60, 127, 255, 511], [(0, 16384, 94), (1, 9903520314283042199192993792, 95), (0, 32768, 96), (0, 65536, 97), (12, 118842243771396506390315925504, 98), (16, 158456325028528675187087900672, 99), (32, 316912650057057350374175801344, 100), (66, 653632340742680785146737590272, 101), (255, 16384, 102), (511, 3802951800684688204490109616128, 0)]) | _ => (0, [], [])
def k4E (K : Nat → Nat → ByteArray → Nat → Nat → Int → Nat → Nat → Int → Nat → Nat → Int → Nat → Nat → Mem → Prop) : Env → Mem → Prop := fun ρ m => UnPA (ρ 5) fun x5b x5o => UnStr (ρ 7) fun x7 => UnPA (ρ 8) fun x8b x8o => UnI (ρ 9) .i64 fun x9 => UnPA (ρ 10) fun x10b x10o => UnI (ρ 11) .i64 fun x11 => UnPA (ρ 12) fun x12b x12o => UnI (ρ 13) .i64 fun x13 => UnPA (ρ 14) fun x14b x14o => K x5b x5o x7 x8b x8o x9 x10b x10o x11 x12b x12o x13 x14b x14o m
def k4  (x5b : Nat) (x5o : Nat) (x7 : ByteArray) (x8b : Nat) (x8o : Nat) (x9 : Int) (x10b : Nat) (x10o : Nat) (x11 : Int) (x12b : Nat) (x12o : Nat) (x13 : Int) (x14b : Nat) (x14o : Nat) (R : Ending → Mem → Prop) (m : Mem) : Prop :=
 CatB (ByteArray.mk #[40]) x7 (
  HC P regex_Parse.id #[.string ((ByteArray.mk #[40]) ++ x7)] m (Cont (fun v m1 =>
    UnTup v fun us0 =>
    UnCons us0 fun w us1 =>
    UnAgg w fun l =>
    UnCons l fun v l =>
    UnI v .i64 fun x105_0_0 =>
    UnCons l fun v l =>
    UnI v .u64 fun x105_0_1 =>
    UnCons l fun v l =>
    UnI v .u64 fun x105_0_2 =>
    UnCons l fun v l =>
    UnI v .u64 fun x105_0_3 =>
    UnCons l fun v l =>
    UnI v .u64 fun x105_0_4 =>
    UnCons l fun v l =>
    UnS v fun x105_0_5a x105_0_5l x105_0_5c =>
    UnNil l (
     UnCons us1 fun w us2 =>
     UnI w .i64 fun x105_1 =>
     UnNil us2 (
      NewC m1 #[.int .i64 0, .int .u64 0, .int .u64 0, .int .u64 0, .int .u64 0, .slice none 0 0] T_api_Rx fun b17 m2 =>
      St1 m2 b17 0 (.int .i64 x105_0_0) fun m3 =>
      St1 m3 b17 1 (.int .u64 x105_0_1) fun m4 =>
      St1 m4 b17 2 (.int .u64 x105_0_2) fun m5 =>
      St1 m5 b17 3 (.int .u64 x105_0_3) fun m6 =>
      St1 m6 b17 4 (.int .u64 x105_0_4) fun m7 =>
      St1 m7 b17 5 (.slice x105_0_5a x105_0_5l x105_0_5c) fun m8 =>
      CatB x7 (ByteArray.mk #[41]) (
       HC P regex_Parse.id #[.string (x7 ++ (ByteArray.mk #[41]))] m8 (Cont (fun v m9 =>
        UnTup v fun us0 =>
        UnCons us0 fun w us1 =>
        UnAgg w fun l =>
        UnCons l fun v l =>
        UnI v .i64 fun x111_0_0 =>
        UnCons l fun v l =>
        UnI v .u64 fun x111_0_1 =>
        UnCons l fun v l =>
        UnI v .u64 fun x111_0_2 =>
        UnCons l fun v l =>
        UnI v .u64 fun x111_0_3 =>
        UnCons l fun v l =>
        UnI v .u64 fun x111_0_4 =>
        UnCons l fun v l =>
        UnS v fun x111_0_5a x111_0_5l x111_0_5c =>
        UnNil l (
        UnCons us1 fun w us2 =>
        UnI w .i64 fun x111_1 =>
        UnNil us2 (
        NewC m9 #[.int .i64 0, .int .u64 0, .int .u64 0, .int .u64 0, .int .u64 0, .slice none 0 0] T_api_Rx fun b19 m10 =>
        St1 m10 b19 0 (.int .i64 x111_0_0) fun m11 =>
        St1 m11 b19 1 (.int .u64 x111_0_1) fun m12 =>
        St1 m12 b19 2 (.int .u64 x111_0_2) fun m13 =>
        St1 m13 b19 3 (.int .u64 x111_0_3) fun m14 =>
        St1 m14 b19 4 (.int .u64 x111_0_4) fun m15 =>
        St1 m15 b19 5 (.slice x111_0_5a x111_0_5l x111_0_5c) fun m16 =>
        Br (x9 == 0) (
        LdV m16 x8b x8o fun v =>
        UnI v .i64 fun x117_0 =>
        LdV m16 x8b (x8o + 1) fun v =>
        UnI v .u64 fun x117_1 =>
        LdV m16 x8b (x8o + 2) fun v =>
        UnI v .u64 fun x117_2 =>
        LdV m16 x8b (x8o + 3) fun v =>
        UnI v .u64 fun x117_3 =>
        LdV m16 x8b (x8o + 4) fun v =>
        UnI v .u64 fun x117_4 =>
        LdV m16 x8b (x8o + 5) fun v =>
        UnS v fun x117_5a x117_5l x117_5c =>
        LdV m16 x5b x5o fun v =>
        UnI v .i64 fun x118_0 =>
        LdV m16 x5b (x5o + 1) fun v =>
        UnI v .u64 fun x118_1 =>
        LdV m16 x5b (x5o + 2) fun v =>
        UnI v .u64 fun x118_2 =>
        LdV m16 x5b (x5o + 3) fun v =>
        UnI v .u64 fun x118_3 =>
        LdV m16 x5b (x5o + 4) fun v =>
        UnI v .u64 fun x118_4 =>
        LdV m16 x5b (x5o + 5) fun v =>
        UnS v fun x118_5a x118_5l x118_5c =>
        HC P eyotref8_SameRx.id #[.agg #[.int .i64 x117_0, .int .u64 x117_1, .int .u64 x117_2, .int .u64 x117_3, .int .u64 x117_4, .slice x117_5a x117_5l x117_5c], .agg #[.int .i64 x118_0, .int .u64 x118_1, .int .u64 x118_2, .int .u64 x118_3, .int .u64 x118_4, .slice x118_5a x118_5l x118_5c]] m16 (Cont (fun v m17 =>
        UnB v fun x119 =>
        Br x119 (
        Br (x11 == 0) (
        LdV m17 x10b x10o fun v =>
        UnI v .i64 fun x126_0 =>
        LdV m17 x10b (x10o + 1) fun v =>
        UnI v .u64 fun x126_1 =>
        LdV m17 x10b (x10o + 2) fun v =>
        UnI v .u64 fun x126_2 =>
        LdV m17 x10b (x10o + 3) fun v =>
        UnI v .u64 fun x126_3 =>
        LdV m17 x10b (x10o + 4) fun v =>
        UnI v .u64 fun x126_4 =>
        LdV m17 x10b (x10o + 5) fun v =>
        UnS v fun x126_5a x126_5l x126_5c =>
        LdV m17 x5b x5o fun v =>
        UnI v .i64 fun x127_0 =>
        LdV m17 x5b (x5o + 1) fun v =>
        UnI v .u64 fun x127_1 =>
        LdV m17 x5b (x5o + 2) fun v =>
        UnI v .u64 fun x127_2 =>
        LdV m17 x5b (x5o + 3) fun v =>
        UnI v .u64 fun x127_3 =>
        LdV m17 x5b (x5o + 4) fun v =>
        UnI v .u64 fun x127_4 =>
        LdV m17 x5b (x5o + 5) fun v =>
        UnS v fun x127_5a x127_5l x127_5c =>
        HC P eyotref8_SameRx.id #[.agg #[.int .i64 x126_0, .int .u64 x126_1, .int .u64 x126_2, .int .u64 x126_3, .int .u64 x126_4, .slice x126_5a x126_5l x126_5c], .agg #[.int .i64 x127_0, .int .u64 x127_1, .int .u64 x127_2, .int .u64 x127_3, .int .u64 x127_4, .slice x127_5a x127_5l x127_5c]] m17 (Cont (fun v m18 =>
        UnB v fun x128 =>
        Br x128 (
        Br (x13 == 6) (
        Br (x105_1 == 2) (
        R (.returned (.bool (x111_1 == 2))) m18) (
        R (.returned (.bool false)) m18)) (
        Br (x13 == 0) (
        LdV m18 x12b x12o fun v =>
        UnI v .i64 fun x137_0 =>
        LdV m18 x12b (x12o + 1) fun v =>
        UnI v .u64 fun x137_1 =>
        LdV m18 x12b (x12o + 2) fun v =>
        UnI v .u64 fun x137_2 =>
        LdV m18 x12b (x12o + 3) fun v =>
        UnI v .u64 fun x137_3 =>
        LdV m18 x12b (x12o + 4) fun v =>
        UnI v .u64 fun x137_4 =>
        LdV m18 x12b (x12o + 5) fun v =>
        UnS v fun x137_5a x137_5l x137_5c =>
        LdV m18 x14b x14o fun v =>
        UnI v .i64 fun x138_0 =>
        LdV m18 x14b (x14o + 1) fun v =>
        UnI v .u64 fun x138_1 =>
        LdV m18 x14b (x14o + 2) fun v =>
        UnI v .u64 fun x138_2 =>
        LdV m18 x14b (x14o + 3) fun v =>
        UnI v .u64 fun x138_3 =>
        LdV m18 x14b (x14o + 4) fun v =>
        UnI v .u64 fun x138_4 =>
        LdV m18 x14b (x14o + 5) fun v =>
        UnS v fun x138_5a x138_5l x138_5c =>
        HC P eyotref8_SameRx.id #[.agg #[.int .i64 x137_0, .int .u64 x137_1, .int .u64 x137_2, .int .u64 x137_3, .int .u64 x137_4, .slice x137_5a x137_5l x137_5c], .agg #[.int .i64 x138_0, .int .u64 x138_1, .int .u64 x138_2, .int .u64 x138_3, .int .u64 x138_4, .slice x138_5a x138_5l x138_5c]] m18 (Cont (fun v m19 =>
        UnB v fun x139 =>
        Br x139 (
        Br (x105_1 == 2) (
        R (.returned (.bool (x111_1 == 2))) m19) (
        R (.returned (.bool false)) m19)) (
        R (.returned (.bool false)) m19)) (panicR R))) (
        R (.returned (.bool false)) m18))) (
        R (.returned (.bool false)) m18)) (panicR R))) (
        R (.returned (.bool false)) m17)) (
        R (.returned (.bool false)) m17)) (panicR R))) (
        R (.returned (.bool false)) m16)))) (panicR R)))))) (panicR R)))
noncomputable def k4A  (R : Ending → Mem → Prop) : ACode := (.code (sR (sR (sR (sR (sR (sR (sR (sR (sR (sR (sR (sR (body))))))))))))))
def l3E (K : Nat → Nat → ByteArray → Nat → Nat → Int → Nat → Nat → Int → Nat → Nat → Int → Nat → Nat → Option Addr → Nat → Nat → Int → Mem → Prop) : Env → Mem → Prop := fun ρ m => UnPA (ρ 5) fun x5b x5o => UnStr (ρ 7) fun x7 => UnPA (ρ 8) fun x8b x8o => UnI (ρ 9) .i64 fun x9 => UnPA (ρ 10) fun x10b x10o => UnI (ρ 11) .i64 fun x11 => UnPA (ρ 12) fun x12b x12o => UnI (ρ 13) .i64 fun x13 => UnPA (ρ 14) fun x14b x14o => UnS (ρ 15) fun x15a x15l x15c => UnI (ρ 16) .i64 fun x16 => K x5b x5o x7 x8b x8o x9 x10b x10o x11 x12b x12o x13 x14b x14o x15a x15l x15c x16 m
def l3B  (K3 : Nat → Nat → ByteArray → Nat → Nat → Int → Nat → Nat → Int → Nat → Nat → Int → Nat → Nat → Option Addr → Nat → Nat → Int → Mem → Prop) (x5b : Nat) (x5o : Nat) (x7 : ByteArray) (x8b : Nat) (x8o : Nat) (x9 : Int) (x10b : Nat) (x10o : Nat) (x11 : Int) (x12b : Nat) (x12o : Nat) (x13 : Int) (x14b : Nat) (x14o : Nat) (x15a : Option Addr) (x15l : Nat) (x15c : Nat) (x16 : Int) (R : Ending → Mem → Prop) (m : Mem) : Prop :=
 Br (decide (x16 < 2)) (
  IxS x15a x15l x16 6 fun x80b x80o =>
  LdV m x80b x80o fun v =>
  UnI v .i64 fun x82 =>
  Br (x82 == 3) (
   Sub m fun r1 =>
   LdV r1 x14b (x14o + 5) fun v =>
   UnS v fun x85a x85l x85c =>
   IxS x15a x15l x16 6 fun x88b x88o =>
   LdV m x88b (x88o + 5) fun v =>
   UnS v fun x90a x90l x90c =>
   BiN P .append #[T_sl_api_Rx, T_sl_api_Rx] T_sl_api_Rx #[false, false] #[.slice x85a x85l x85c, .slice x90a x90l x90c] m (fun w m2 =>
    UnS w fun x91a x91l x91c =>
    St1 m2 x14b (x14o + 5) (.slice x91a x91l x91c) fun m3 =>
    K3 x5b x5o x7 x8b x8o x9 x10b x10o x11 x12b x12o x13 x14b x14o x15a x15l x15c (IntKind.i64.wrap (x16 + 1)) m3) (panicR R)) (
   Sub m fun r1 =>
   LdV r1 x14b (x14o + 5) fun v =>
   UnS v fun x94a x94l x94c =>
   IxS x15a x15l x16 6 fun x97b x97o =>
   LdV m x97b x97o fun v =>
   UnI v .i64 fun x98_0 =>
   LdV m x97b (x97o + 1) fun v =>
   UnI v .u64 fun x98_1 =>
   LdV m x97b (x97o + 2) fun v =>
   UnI v .u64 fun x98_2 =>
   LdV m x97b (x97o + 3) fun v =>
   UnI v .u64 fun x98_3 =>
   LdV m x97b (x97o + 4) fun v =>
   UnI v .u64 fun x98_4 =>
   LdV m x97b (x97o + 5) fun v =>
   UnS v fun x98_5a x98_5l x98_5c =>
   NewC m #[.int .i64 x98_0, .int .u64 x98_1, .int .u64 x98_2, .int .u64 x98_3, .int .u64 x98_4, .slice x98_5a x98_5l x98_5c] T_api_Rx fun b99 m2 =>
   Lk r1 m2 fun r3 =>
   BiN P .append #[T_sl_api_Rx, T_sl_api_Rx] T_sl_api_Rx #[false, false] #[.slice x94a x94l x94c, .slice (some ⟨b99, 0, none⟩) 1 1] m2 (fun w m4 =>
    UnS w fun x100a x100l x100c =>
    St1 m4 x14b (x14o + 5) (.slice x100a x100l x100c) fun m5 =>
    K3 x5b x5o x7 x8b x8o x9 x10b x10o x11 x12b x12o x13 x14b x14o x15a x15l x15c (IntKind.i64.wrap (x16 + 1)) m5) (panicR R))) (
  k4  x5b x5o x7 x8b x8o x9 x10b x10o x11 x12b x12o x13 x14b x14o R m)
def l3  (x5b : Nat) (x5o : Nat) (x7 : ByteArray) (x8b : Nat) (x8o : Nat) (x9 : Int) (x10b : Nat) (x10o : Nat) (x11 : Int) (x12b : Nat) (x12o : Nat) (x13 : Int) (x14b : Nat) (x14o : Nat) (x15a : Option Addr) (x15l : Nat) (x15c : Nat) (x16 : Int) (R : Ending → Mem → Prop) (m : Mem) : Prop :=
  ∃ (I : Nat → Nat → Nat → ByteArray → Nat → Nat → Int → Nat → Nat → Int → Nat → Nat → Int → Nat → Nat → Option Addr → Nat → Nat → Int → Mem → Prop) (N : Nat), I N x5b x5o x7 x8b x8o x9 x10b x10o x11 x12b x12o x13 x14b x14o x15a x15l x15c x16 m ∧ ∀ N x5b x5o x7 x8b x8o x9 x10b x10o x11 x12b x12o x13 x14b x14o x15a x15l x15c x16 m, I N x5b x5o x7 x8b x8o x9 x10b x10o x11 x12b x12o x13 x14b x14o x15a x15l x15c x16 m → l3B  (fun x5b x5o x7 x8b x8o x9 x10b x10o x11 x12b x12o x13 x14b x14o x15a x15l x15c x16 m => ∃ N1, N1 < N ∧ I N1 x5b x5o x7 x8b x8o x9 x10b x10o x11 x12b x12o x13 x14b x14o x15a x15l x15c x16 m) x5b x5o x7 x8b x8o x9 x10b x10o x11 x12b x12o x13 x14b x14o x15a x15l x15c x16 R m
noncomputable def l3A  (K3 : Nat → Nat → ByteArray → Nat → Nat → Int → Nat → Nat → Int → Nat → Nat → Int → Nat → Nat → Option Addr → Nat → Nat → Int → Mem → Prop) (R : Ending → Mem → Prop) : ACode := (.code (lP (bB (sR (sL (sR (sR (sR (sR (sR (sR (sR (sR (sR (sR (sR (body)))))))))))))))))
def k2E (K : Nat → Nat → Nat → Nat → ByteArray → Nat → Nat → Int → Mem → Prop) : Env → Mem → Prop := fun ρ m => UnPA (ρ 5) fun x5b x5o => UnPA (ρ 6) fun x6b x6o => UnStr (ρ 7) fun x7 => UnPA (ρ 8) fun x8b x8o => UnI (ρ 9) .i64 fun x9 => K x5b x5o x6b x6o x7 x8b x8o x9 m
def k2  (x5b : Nat) (x5o : Nat) (x6b : Nat) (x6o : Nat) (x7 : ByteArray) (x8b : Nat) (x8o : Nat) (x9 : Int) (R : Ending → Mem → Prop) (m : Mem) : Prop :=
 CatB (ByteArray.mk #[40, 40]) x7 (
  CatB ((ByteArray.mk #[40, 40]) ++ x7) (ByteArray.mk #[41, 41]) (
   HC P regex_Parse.id #[.string (((ByteArray.mk #[40, 40]) ++ x7) ++ (ByteArray.mk #[41, 41]))] m (Cont (fun v m1 =>
     UnTup v fun us0 =>
     UnCons us0 fun w us1 =>
     UnAgg w fun l =>
     UnCons l fun v l =>
     UnI v .i64 fun x58_0_0 =>
     UnCons l fun v l =>
     UnI v .u64 fun x58_0_1 =>
     UnCons l fun v l =>
     UnI v .u64 fun x58_0_2 =>
     UnCons l fun v l =>
     UnI v .u64 fun x58_0_3 =>
     UnCons l fun v l =>
     UnI v .u64 fun x58_0_4 =>
     UnCons l fun v l =>
     UnS v fun x58_0_5a x58_0_5l x58_0_5c =>
     UnNil l (
      UnCons us1 fun w us2 =>
      UnI w .i64 fun x58_1 =>
      UnNil us2 (
       NewC m1 #[.int .i64 0, .int .u64 0, .int .u64 0, .int .u64 0, .int .u64 0, .slice none 0 0] T_api_Rx fun b10 m2 =>
       St1 m2 b10 0 (.int .i64 x58_0_0) fun m3 =>
       St1 m3 b10 1 (.int .u64 x58_0_1) fun m4 =>
       St1 m4 b10 2 (.int .u64 x58_0_2) fun m5 =>
       St1 m5 b10 3 (.int .u64 x58_0_3) fun m6 =>
       St1 m6 b10 4 (.int .u64 x58_0_4) fun m7 =>
       St1 m7 b10 5 (.slice x58_0_5a x58_0_5l x58_0_5c) fun m8 =>
       CatB x7 (ByteArray.mk #[124]) (
        LdV m8 x6b x6o fun v =>
        UnI v .i64 fun x64_0 =>
        LdV m8 x6b (x6o + 1) fun v =>
        UnI v .u64 fun x64_1 =>
        LdV m8 x6b (x6o + 2) fun v =>
        UnI v .u64 fun x64_2 =>
        LdV m8 x6b (x6o + 3) fun v =>
        UnI v .u64 fun x64_3 =>
        LdV m8 x6b (x6o + 4) fun v =>
        UnI v .u64 fun x64_4 =>
        LdV m8 x6b (x6o + 5) fun v =>
        UnS v fun x64_5a x64_5l x64_5c =>
        HC P eyotref8_Show.id #[.agg #[.int .i64 x64_0, .int .u64 x64_1, .int .u64 x64_2, .int .u64 x64_3, .int .u64 x64_4, .slice x64_5a x64_5l x64_5c]] m8 (Cont (fun v m9 =>
        UnStr v fun x65 =>
        CatB (x7 ++ (ByteArray.mk #[124])) x65 (
        HC P regex_Parse.id #[.string ((x7 ++ (ByteArray.mk #[124])) ++ x65)] m9 (Cont (fun v m10 =>
        UnTup v fun us0 =>
        UnCons us0 fun w us1 =>
        UnAgg w fun l =>
        UnCons l fun v l =>
        UnI v .i64 fun x67_0_0 =>
        UnCons l fun v l =>
        UnI v .u64 fun x67_0_1 =>
        UnCons l fun v l =>
        UnI v .u64 fun x67_0_2 =>
        UnCons l fun v l =>
        UnI v .u64 fun x67_0_3 =>
        UnCons l fun v l =>
        UnI v .u64 fun x67_0_4 =>
        UnCons l fun v l =>
        UnS v fun x67_0_5a x67_0_5l x67_0_5c =>
        UnNil l (
        UnCons us1 fun w us2 =>
        UnI w .i64 fun x67_1 =>
        UnNil us2 (
        NewC m10 #[.int .i64 0, .int .u64 0, .int .u64 0, .int .u64 0, .int .u64 0, .slice none 0 0] T_api_Rx fun b12 m11 =>
        St1 m11 b12 0 (.int .i64 x67_0_0) fun m12 =>
        St1 m12 b12 1 (.int .u64 x67_0_1) fun m13 =>
        St1 m13 b12 2 (.int .u64 x67_0_2) fun m14 =>
        St1 m14 b12 3 (.int .u64 x67_0_3) fun m15 =>
        St1 m15 b12 4 (.int .u64 x67_0_4) fun m16 =>
        St1 m16 b12 5 (.slice x67_0_5a x67_0_5l x67_0_5c) fun m17 =>
        NewC m17 #[.int .i64 0, .int .u64 0, .int .u64 0, .int .u64 0, .int .u64 0, .slice none 0 0] T_api_Rx fun b14 m18 =>
        St1 m18 b14 0 (.int .i64 3) fun m19 =>
        St1 m19 b14 1 (.int .u64 0) fun m20 =>
        St1 m20 b14 2 (.int .u64 0) fun m21 =>
        St1 m21 b14 3 (.int .u64 0) fun m22 =>
        St1 m22 b14 4 (.int .u64 0) fun m23 =>
        St1 m23 b14 5 (.slice none 0 0) fun m24 =>
        LdV m24 x5b x5o fun v =>
        UnI v .i64 fun x71_0 =>
        LdV m24 x5b (x5o + 1) fun v =>
        UnI v .u64 fun x71_1 =>
        LdV m24 x5b (x5o + 2) fun v =>
        UnI v .u64 fun x71_2 =>
        LdV m24 x5b (x5o + 3) fun v =>
        UnI v .u64 fun x71_3 =>
        LdV m24 x5b (x5o + 4) fun v =>
        UnI v .u64 fun x71_4 =>
        LdV m24 x5b (x5o + 5) fun v =>
        UnS v fun x71_5a x71_5l x71_5c =>
        LdV m24 x6b x6o fun v =>
        UnI v .i64 fun x72_0 =>
        LdV m24 x6b (x6o + 1) fun v =>
        UnI v .u64 fun x72_1 =>
        LdV m24 x6b (x6o + 2) fun v =>
        UnI v .u64 fun x72_2 =>
        LdV m24 x6b (x6o + 3) fun v =>
        UnI v .u64 fun x72_3 =>
        LdV m24 x6b (x6o + 4) fun v =>
        UnI v .u64 fun x72_4 =>
        LdV m24 x6b (x6o + 5) fun v =>
        UnS v fun x72_5a x72_5l x72_5c =>
        NewC m24 #[.int .i64 x71_0, .int .u64 x71_1, .int .u64 x71_2, .int .u64 x71_3, .int .u64 x71_4, .slice x71_5a x71_5l x71_5c, .int .i64 x72_0, .int .u64 x72_1, .int .u64 x72_2, .int .u64 x72_3, .int .u64 x72_4, .slice x72_5a x72_5l x72_5c] T_api_Rx fun b73 m25 =>
        l3  x5b x5o x7 x8b x8o x9 b10 0 x58_1 b12 0 x67_1 b14 0 (some ⟨b73, 0, none⟩) 2 2 0 R m25))) (panicR R)))) (panicR R)))))) (panicR R))))
noncomputable def k2A  (R : Ending → Mem → Prop) : ACode := (.seq (.code (sL (sR (sR (sR (sR (sR (sR (sR (body)))))))))) (.seq (.code (sL (sR (sR (sR (sR (sR (sR (sR (sR (body))))))))))) (.seq (.code (sL (sR (sR (sR (sR (sR (sR (sR (sR (sR (body)))))))))))) (.seq (.code (sL (sR (sR (sR (sR (sR (sR (sR (sR (sR (sR (body))))))))))))) (.seq (.seq (.code (sL (sL (sR (sR (sR (sR (sR (sR (sR (sR (sR (sR (sR (body))))))))))))))) (.block 0 (.cut (l3E fun x5b x5o x7 x8b x8o x9 x10b x10o x11 x12b x12o x13 x14b x14o x15a x15l x15c x16 m => l3  x5b x5o x7 x8b x8o x9 x10b x10o x11 x12b x12o x13 x14b x14o x15a x15l x15c x16 R m) (.loop (lP (bB (sR (sL (sR (sR (sR (sR (sR (sR (sR (sR (sR (sR (sR (body)))))))))))))))))))) (.cut (k4E fun x5b x5o x7 x8b x8o x9 x10b x10o x11 x12b x12o x13 x14b x14o m => k4  x5b x5o x7 x8b x8o x9 x10b x10o x11 x12b x12o x13 x14b x14o R m) (sR (sR (sR (sR (sR (sR (sR (sR (sR (sR (sR (sR (body)))))))))))))))))))
def k1E (K : Nat → Nat → Nat → Nat → Mem → Prop) : Env → Mem → Prop := fun ρ m => UnPA (ρ 5) fun x5b x5o => UnPA (ρ 6) fun x6b x6o => K x5b x5o x6b x6o m
def k1  (x5b : Nat) (x5o : Nat) (x6b : Nat) (x6o : Nat) (R : Ending → Mem → Prop) (m : Mem) : Prop :=
 LdV m x5b x5o fun v =>
 UnI v .i64 fun x37_0 =>
 LdV m x5b (x5o + 1) fun v =>
 UnI v .u64 fun x37_1 =>
 LdV m x5b (x5o + 2) fun v =>
 UnI v .u64 fun x37_2 =>
 LdV m x5b (x5o + 3) fun v =>
 UnI v .u64 fun x37_3 =>
 LdV m x5b (x5o + 4) fun v =>
 UnI v .u64 fun x37_4 =>
 LdV m x5b (x5o + 5) fun v =>
 UnS v fun x37_5a x37_5l x37_5c =>
 HC P eyotref8_May.id #[.agg #[.int .i64 x37_0, .int .u64 x37_1, .int .u64 x37_2, .int .u64 x37_3, .int .u64 x37_4, .slice x37_5a x37_5l x37_5c]] m (Cont (fun v m1 =>
   UnI v .i64 fun x38 =>
   Br (x38 != 0) (
    R (.returned (.bool true)) m1) (
    LdV m1 x6b x6o fun v =>
    UnI v .i64 fun x41_0 =>
    LdV m1 x6b (x6o + 1) fun v =>
    UnI v .u64 fun x41_1 =>
    LdV m1 x6b (x6o + 2) fun v =>
    UnI v .u64 fun x41_2 =>
    LdV m1 x6b (x6o + 3) fun v =>
    UnI v .u64 fun x41_3 =>
    LdV m1 x6b (x6o + 4) fun v =>
    UnI v .u64 fun x41_4 =>
    LdV m1 x6b (x6o + 5) fun v =>
    UnS v fun x41_5a x41_5l x41_5c =>
    HC P eyotref8_May.id #[.agg #[.int .i64 x41_0, .int .u64 x41_1, .int .u64 x41_2, .int .u64 x41_3, .int .u64 x41_4, .slice x41_5a x41_5l x41_5c]] m1 (Cont (fun v m2 =>
      UnI v .i64 fun x42 =>
      Br (x42 != 0) (
       R (.returned (.bool true)) m2) (
       LdV m2 x5b x5o fun v =>
       UnI v .i64 fun x45_0 =>
       LdV m2 x5b (x5o + 1) fun v =>
       UnI v .u64 fun x45_1 =>
       LdV m2 x5b (x5o + 2) fun v =>
       UnI v .u64 fun x45_2 =>
       LdV m2 x5b (x5o + 3) fun v =>
       UnI v .u64 fun x45_3 =>
       LdV m2 x5b (x5o + 4) fun v =>
       UnI v .u64 fun x45_4 =>
       LdV m2 x5b (x5o + 5) fun v =>
       UnS v fun x45_5a x45_5l x45_5c =>
       HC P eyotref8_Show.id #[.agg #[.int .i64 x45_0, .int .u64 x45_1, .int .u64 x45_2, .int .u64 x45_3, .int .u64 x45_4, .slice x45_5a x45_5l x45_5c]] m2 (Cont (fun v m3 =>
        UnStr v fun x46 =>
        CatB (ByteArray.mk #[40]) x46 (
        CatB ((ByteArray.mk #[40]) ++ x46) (ByteArray.mk #[41]) (
        HC P regex_Parse.id #[.string (((ByteArray.mk #[40]) ++ x46) ++ (ByteArray.mk #[41]))] m3 (Cont (fun v m4 =>
        UnTup v fun us0 =>
        UnCons us0 fun w us1 =>
        UnAgg w fun l =>
        UnCons l fun v l =>
        UnI v .i64 fun x51_0_0 =>
        UnCons l fun v l =>
        UnI v .u64 fun x51_0_1 =>
        UnCons l fun v l =>
        UnI v .u64 fun x51_0_2 =>
        UnCons l fun v l =>
        UnI v .u64 fun x51_0_3 =>
        UnCons l fun v l =>
        UnI v .u64 fun x51_0_4 =>
        UnCons l fun v l =>
        UnS v fun x51_0_5a x51_0_5l x51_0_5c =>
        UnNil l (
        UnCons us1 fun w us2 =>
        UnI w .i64 fun x51_1 =>
        UnNil us2 (
        NewC m4 #[.int .i64 0, .int .u64 0, .int .u64 0, .int .u64 0, .int .u64 0, .slice none 0 0] T_api_Rx fun b8 m5 =>
        St1 m5 b8 0 (.int .i64 x51_0_0) fun m6 =>
        St1 m6 b8 1 (.int .u64 x51_0_1) fun m7 =>
        St1 m7 b8 2 (.int .u64 x51_0_2) fun m8 =>
        St1 m8 b8 3 (.int .u64 x51_0_3) fun m9 =>
        St1 m9 b8 4 (.int .u64 x51_0_4) fun m10 =>
        St1 m10 b8 5 (.slice x51_0_5a x51_0_5l x51_0_5c) fun m11 =>
        k2  x5b x5o x6b x6o x46 b8 0 x51_1 R m11))) (panicR R))))) (panicR R)))) (panicR R)))) (panicR R))
noncomputable def k1A  (R : Ending → Mem → Prop) : ACode := (.seq (.code (sL (sR (sR (sR (sR (body))))))) (.seq (.code (sL (sR (sR (sR (sR (sR (body)))))))) (.seq (.code (sL (sR (sR (sR (sR (sR (sR (body))))))))) (.cut (k2E fun x5b x5o x6b x6o x7 x8b x8o x9 m => k2  x5b x5o x6b x6o x7 x8b x8o x9 R m) (sR (sR (sR (sR (sR (sR (sR (body))))))))))))
def e0 (a0a : Option Addr) (a0l : Nat) (a0c : Nat) (a1a : Option Addr) (a1l : Nat) (a1c : Nat) (R : Ending → Mem → Prop) (m : Mem) : Prop :=
 HC P eyotlaw9_begun.id #[] m (Cont (fun v m1 =>
   UnB v fun x21 =>
   Br (!x21) (
    R (.returned (.bool false)) m1) (
    Br (decide (((a0l : Nat) : Int) > 20)) (
     R (.returned (.bool true)) m1) (
     Br (decide (((a1l : Nat) : Int) > 20)) (
      R (.returned (.bool true)) m1) (
      HC P eyotplay_Made.id #[.slice a0a a0l a0c] m1 (Cont (fun v m2 =>
        UnP v fun x32 =>
        HC P eyotplay_Picks_Rx.id #[.pointer x32, .int .i64 2] m2 (Cont (fun v m3 =>
        UnAgg v fun l =>
        UnCons l fun v l =>
        UnI v .i64 fun x33_0 =>
        UnCons l fun v l =>
        UnI v .u64 fun x33_1 =>
        UnCons l fun v l =>
        UnI v .u64 fun x33_2 =>
        UnCons l fun v l =>
        UnI v .u64 fun x33_3 =>
        UnCons l fun v l =>
        UnI v .u64 fun x33_4 =>
        UnCons l fun v l =>
        UnS v fun x33_5a x33_5l x33_5c =>
        UnNil l (
        HC P eyotplay_Made.id #[.slice a1a a1l a1c] m3 (Cont (fun v m4 =>
        UnP v fun x35 =>
        HC P eyotplay_Picks_Rx.id #[.pointer x35, .int .i64 2] m4 (Cont (fun v m5 =>
        UnAgg v fun l =>
        UnCons l fun v l =>
        UnI v .i64 fun x36_0 =>
        UnCons l fun v l =>
        UnI v .u64 fun x36_1 =>
        UnCons l fun v l =>
        UnI v .u64 fun x36_2 =>
        UnCons l fun v l =>
        UnI v .u64 fun x36_3 =>
        UnCons l fun v l =>
        UnI v .u64 fun x36_4 =>
        UnCons l fun v l =>
        UnS v fun x36_5a x36_5l x36_5c =>
        UnNil l (
        NewC m5 #[.int .i64 0, .int .u64 0, .int .u64 0, .int .u64 0, .int .u64 0, .slice none 0 0] T_api_Rx fun b5 m6 =>
        NewC m6 #[.int .i64 0, .int .u64 0, .int .u64 0, .int .u64 0, .int .u64 0, .slice none 0 0] T_api_Rx fun b6 m7 =>
        St1 m7 b5 0 (.int .i64 x33_0) fun m8 =>
        St1 m8 b5 1 (.int .u64 x33_1) fun m9 =>
        St1 m9 b5 2 (.int .u64 x33_2) fun m10 =>
        St1 m10 b5 3 (.int .u64 x33_3) fun m11 =>
        St1 m11 b5 4 (.int .u64 x33_4) fun m12 =>
        St1 m12 b5 5 (.slice x33_5a x33_5l x33_5c) fun m13 =>
        St1 m13 b6 0 (.int .i64 x36_0) fun m14 =>
        St1 m14 b6 1 (.int .u64 x36_1) fun m15 =>
        St1 m15 b6 2 (.int .u64 x36_2) fun m16 =>
        St1 m16 b6 3 (.int .u64 x36_3) fun m17 =>
        St1 m17 b6 4 (.int .u64 x36_4) fun m18 =>
        St1 m18 b6 5 (.slice x36_5a x36_5l x36_5c) fun m19 =>
        k1  b5 0 b6 0 R m19)) (panicR R))) (panicR R)))) (panicR R))) (panicR R)))))) (panicR R))
noncomputable def e0A (R : Ending → Mem → Prop) : ACode := (.seq (.code (sL (body))) (.seq (.code (sL (sR (body)))) (.seq (.code (sL (sR (sR (body))))) (.seq (.code (sL (sR (sR (sR (body)))))) (.cut (k1E fun x5b x5o x6b x6o m => k1  x5b x5o x6b x6o R m) (sR (sR (sR (sR (body))))))))))
abbrev k1Q  (R : Ending → Mem → Prop) : Exit → Env → Mem → Prop := (bodyQ P fn R)
abbrev k2Q  (R : Ending → Mem → Prop) : Exit → Env → Mem → Prop := (k1Q  R)
abbrev k4Q  (R : Ending → Mem → Prop) : Exit → Env → Mem → Prop := (k2Q  R)
abbrev l3Q  (R : Ending → Mem → Prop) : Exit → Env → Mem → Prop := (blockQ 0 (thenQ (acpt P od (panicR R) (.cut (k4E fun x5b x5o x7 x8b x8o x9 x10b x10o x11 x12b x12o x13 x14b x14o m => k4  x5b x5o x7 x8b x8o x9 x10b x10o x11 x12b x12o x13 x14b x14o R m) (sR (sR (sR (sR (sR (sR (sR (sR (sR (sR (sR (sR (body)))))))))))))) (k2Q  R)) (k2Q  R)))
theorem k4_eq  (R : Ending → Mem → Prop) (x5b : Nat) (x5o : Nat) (x7 : ByteArray) (x8b : Nat) (x8o : Nat) (x9 : Int) (x10b : Nat) (x10o : Nat) (x11 : Int) (x12b : Nat) (x12o : Nat) (x13 : Int) (x14b : Nat) (x14o : Nat) (ρ : Env) (m : Mem) : k4  x5b x5o x7 x8b x8o x9 x10b x10o x11 x12b x12o x13 x14b x14o R m = acpt P od (panicR R) (k4A  R) (k4Q  R) (upd (upd (upd (upd (upd (upd (upd (upd (upd ρ 14 (.pointer (some ⟨x14b, x14o, none⟩))) 13 (.int .i64 x13)) 12 (.pointer (some ⟨x12b, x12o, none⟩))) 11 (.int .i64 x11)) 10 (.pointer (some ⟨x10b, x10o, none⟩))) 9 (.int .i64 x9)) 8 (.pointer (some ⟨x8b, x8o, none⟩))) 7 (.string x7)) 5 (.pointer (some ⟨x5b, x5o, none⟩))) m := by kernel_rfl
theorem k4_er  (R : Ending → Mem → Prop) : (k4A  R).erase = sR (sR (sR (sR (sR (sR (sR (sR (sR (sR (sR (sR (body)))))))))))) := by kernel_rfl
theorem k4_ok  (R : Ending → Mem → Prop) (ρ : Env) (m : Mem) (h : (k4E fun x5b x5o x7 x8b x8o x9 x10b x10o x11 x12b x12o x13 x14b x14o m => k4  x5b x5o x7 x8b x8o x9 x10b x10o x11 x12b x12o x13 x14b x14o R m) ρ m) : cpt P od (panicR R) (sR (sR (sR (sR (sR (sR (sR (sR (sR (sR (sR (sR (body))))))))))))) (k4Q  R) ρ m := by
  unfold k4E at h
  obtain ⟨x5b, x5o, e5, h⟩ := h.ex
  obtain ⟨x7, e7, h⟩ := h.ex
  obtain ⟨x8b, x8o, e8, h⟩ := h.ex
  obtain ⟨x9, e9, h⟩ := h.ex
  obtain ⟨x10b, x10o, e10, h⟩ := h.ex
  obtain ⟨x11, e11, h⟩ := h.ex
  obtain ⟨x12b, x12o, e12, h⟩ := h.ex
  obtain ⟨x13, e13, h⟩ := h.ex
  obtain ⟨x14b, x14o, e14, h⟩ := h.ex
  rw [← upd_self e5, ← upd_self e7, ← upd_self e8, ← upd_self e9, ← upd_self e10, ← upd_self e11, ← upd_self e12, ← upd_self e13, ← upd_self e14]
  rw [← k4_er  R]
  refine acpt_sound (P := P) (k4A  R) _ _ _ True.intro ?_
  exact Eq.mp (k4_eq  R x5b x5o x7 x8b x8o x9 x10b x10o x11 x12b x12o x13 x14b x14o ρ m) h
theorem l3_eq  (K3 : Nat → Nat → ByteArray → Nat → Nat → Int → Nat → Nat → Int → Nat → Nat → Int → Nat → Nat → Option Addr → Nat → Nat → Int → Mem → Prop) (R : Ending → Mem → Prop) (x5b : Nat) (x5o : Nat) (x7 : ByteArray) (x8b : Nat) (x8o : Nat) (x9 : Int) (x10b : Nat) (x10o : Nat) (x11 : Int) (x12b : Nat) (x12o : Nat) (x13 : Int) (x14b : Nat) (x14o : Nat) (x15a : Option Addr) (x15l : Nat) (x15c : Nat) (x16 : Int) (ρ : Env) (m : Mem) : l3B  K3 x5b x5o x7 x8b x8o x9 x10b x10o x11 x12b x12o x13 x14b x14o x15a x15l x15c x16 R m = acpt P od (panicR R) (l3A  K3 R) (thenQ (l3E K3) (l3Q  R)) (upd (upd (upd (upd (upd (upd (upd (upd (upd (upd (upd ρ 16 (.int .i64 x16)) 15 (.slice x15a x15l x15c)) 14 (.pointer (some ⟨x14b, x14o, none⟩))) 13 (.int .i64 x13)) 12 (.pointer (some ⟨x12b, x12o, none⟩))) 11 (.int .i64 x11)) 10 (.pointer (some ⟨x10b, x10o, none⟩))) 9 (.int .i64 x9)) 8 (.pointer (some ⟨x8b, x8o, none⟩))) 7 (.string x7)) 5 (.pointer (some ⟨x5b, x5o, none⟩))) m := by kernel_rfl
theorem l3_er  (K3 : Nat → Nat → ByteArray → Nat → Nat → Int → Nat → Nat → Int → Nat → Nat → Int → Nat → Nat → Option Addr → Nat → Nat → Int → Mem → Prop) (R : Ending → Mem → Prop) : (l3A  K3 R).erase = lP (bB (sR (sL (sR (sR (sR (sR (sR (sR (sR (sR (sR (sR (sR (body))))))))))))))) := by kernel_rfl
theorem l3_ok  (R : Ending → Mem → Prop) (ρ : Env) (m : Mem) (h : (l3E fun x5b x5o x7 x8b x8o x9 x10b x10o x11 x12b x12o x13 x14b x14o x15a x15l x15c x16 m => l3  x5b x5o x7 x8b x8o x9 x10b x10o x11 x12b x12o x13 x14b x14o x15a x15l x15c x16 R m) ρ m) : cpt P od (panicR R) (.loop (lP (bB (sR (sL (sR (sR (sR (sR (sR (sR (sR (sR (sR (sR (sR (body))))))))))))))))) (l3Q  R) ρ m := by
  unfold l3E at h
  obtain ⟨x5b, x5o, e5, h⟩ := h.ex
  obtain ⟨x7, e7, h⟩ := h.ex
  obtain ⟨x8b, x8o, e8, h⟩ := h.ex
  obtain ⟨x9, e9, h⟩ := h.ex
  obtain ⟨x10b, x10o, e10, h⟩ := h.ex
  obtain ⟨x11, e11, h⟩ := h.ex
  obtain ⟨x12b, x12o, e12, h⟩ := h.ex
  obtain ⟨x13, e13, h⟩ := h.ex
  obtain ⟨x14b, x14o, e14, h⟩ := h.ex
  obtain ⟨x15a, x15l, x15c, e15, h⟩ := h.ex
  obtain ⟨x16, e16, h⟩ := h.ex
  obtain ⟨I, N, h0, hs⟩ := h
  refine ⟨fun N => l3E (I N), N, (by show l3E (I N) ρ m; unfold l3E; rw [e5, e7, e8, e9, e10, e11, e12, e13, e14, e15, e16]; exact h0), ?_⟩
  clear h0 e5 e7 e8 e9 e10 e11 e12 e13 e14 e15 e16
  intro N ρ m h
  unfold l3E at h
  obtain ⟨x5b, x5o, e5, h⟩ := h.ex
  obtain ⟨x7, e7, h⟩ := h.ex
  obtain ⟨x8b, x8o, e8, h⟩ := h.ex
  obtain ⟨x9, e9, h⟩ := h.ex
  obtain ⟨x10b, x10o, e10, h⟩ := h.ex
  obtain ⟨x11, e11, h⟩ := h.ex
  obtain ⟨x12b, x12o, e12, h⟩ := h.ex
  obtain ⟨x13, e13, h⟩ := h.ex
  obtain ⟨x14b, x14o, e14, h⟩ := h.ex
  obtain ⟨x15a, x15l, x15c, e15, h⟩ := h.ex
  obtain ⟨x16, e16, h⟩ := h.ex
  refine cpt_mono (P := P) (lP (bB (sR (sL (sR (sR (sR (sR (sR (sR (sR (sR (sR (sR (sR (body)))))))))))))))) (Q := thenQ (l3E fun x5b x5o x7 x8b x8o x9 x10b x10o x11 x12b x12o x13 x14b x14o x15a x15l x15c x16 m => ∃ N1, N1 < N ∧ I N1 x5b x5o x7 x8b x8o x9 x10b x10o x11 x12b x12o x13 x14b x14o x15a x15l x15c x16 m) (l3Q  R)) (fun e ρ m h => ?_) ρ m ?_
  · cases e with
    | normal =>
      have h : l3E (fun x5b x5o x7 x8b x8o x9 x10b x10o x11 x12b x12o x13 x14b x14o x15a x15l x15c x16 m => ∃ N1, N1 < N ∧ I N1 x5b x5o x7 x8b x8o x9 x10b x10o x11 x12b x12o x13 x14b x14o x15a x15l x15c x16 m) ρ m := h
      unfold l3E at h
      obtain ⟨x5b, x5o, e5, h⟩ := h.ex
      obtain ⟨x7, e7, h⟩ := h.ex
      obtain ⟨x8b, x8o, e8, h⟩ := h.ex
      obtain ⟨x9, e9, h⟩ := h.ex
      obtain ⟨x10b, x10o, e10, h⟩ := h.ex
      obtain ⟨x11, e11, h⟩ := h.ex
      obtain ⟨x12b, x12o, e12, h⟩ := h.ex
      obtain ⟨x13, e13, h⟩ := h.ex
      obtain ⟨x14b, x14o, e14, h⟩ := h.ex
      obtain ⟨x15a, x15l, x15c, e15, h⟩ := h.ex
      obtain ⟨x16, e16, h⟩ := h.ex
      obtain ⟨N1, hlt, h⟩ := h
      exact ⟨N1, hlt, (by show l3E (I N1) ρ m; unfold l3E; rw [e5, e7, e8, e9, e10, e11, e12, e13, e14, e15, e16]; exact h)⟩
    | _ => exact h
  have hh := hs N x5b x5o x7 x8b x8o x9 x10b x10o x11 x12b x12o x13 x14b x14o x15a x15l x15c x16 m h
  generalize (fun x5b x5o x7 x8b x8o x9 x10b x10o x11 x12b x12o x13 x14b x14o x15a x15l x15c x16 m => ∃ N1, N1 < N ∧ I N1 x5b x5o x7 x8b x8o x9 x10b x10o x11 x12b x12o x13 x14b x14o x15a x15l x15c x16 m : Nat → Nat → ByteArray → Nat → Nat → Int → Nat → Nat → Int → Nat → Nat → Int → Nat → Nat → Option Addr → Nat → Nat → Int → Mem → Prop) = K3 at hh ⊢
  rw [← upd_self e5, ← upd_self e7, ← upd_self e8, ← upd_self e9, ← upd_self e10, ← upd_self e11, ← upd_self e12, ← upd_self e13, ← upd_self e14, ← upd_self e15, ← upd_self e16]
  rw [← l3_er  K3 R]
  refine acpt_sound (P := P) (l3A  K3 R) _ _ _ True.intro ?_
  exact Eq.mp (l3_eq  K3 R x5b x5o x7 x8b x8o x9 x10b x10o x11 x12b x12o x13 x14b x14o x15a x15l x15c x16 ρ m) hh
theorem k2_eq  (R : Ending → Mem → Prop) (x5b : Nat) (x5o : Nat) (x6b : Nat) (x6o : Nat) (x7 : ByteArray) (x8b : Nat) (x8o : Nat) (x9 : Int) (ρ : Env) (m : Mem) : k2  x5b x5o x6b x6o x7 x8b x8o x9 R m = acpt P od (panicR R) (k2A  R) (k2Q  R) (upd (upd (upd (upd (upd ρ 9 (.int .i64 x9)) 8 (.pointer (some ⟨x8b, x8o, none⟩))) 7 (.string x7)) 6 (.pointer (some ⟨x6b, x6o, none⟩))) 5 (.pointer (some ⟨x5b, x5o, none⟩))) m := by kernel_rfl
theorem k2_er  (R : Ending → Mem → Prop) : (k2A  R).erase = sR (sR (sR (sR (sR (sR (sR (body))))))) := by kernel_rfl
theorem k2_ok  (R : Ending → Mem → Prop) (ρ : Env) (m : Mem) (h : (k2E fun x5b x5o x6b x6o x7 x8b x8o x9 m => k2  x5b x5o x6b x6o x7 x8b x8o x9 R m) ρ m) : cpt P od (panicR R) (sR (sR (sR (sR (sR (sR (sR (body)))))))) (k2Q  R) ρ m := by
  unfold k2E at h
  obtain ⟨x5b, x5o, e5, h⟩ := h.ex
  obtain ⟨x6b, x6o, e6, h⟩ := h.ex
  obtain ⟨x7, e7, h⟩ := h.ex
  obtain ⟨x8b, x8o, e8, h⟩ := h.ex
  obtain ⟨x9, e9, h⟩ := h.ex
  rw [← upd_self e5, ← upd_self e6, ← upd_self e7, ← upd_self e8, ← upd_self e9]
  rw [← k2_er  R]
  refine acpt_sound (P := P) (k2A  R) _ _ _ ⟨⟨⟨⟨⟨(fun ρ m h => k4_ok  R ρ m h), ⟨(fun ρ m h => l3_ok  R ρ m h), True.intro⟩⟩, True.intro⟩, True.intro⟩, True.intro⟩, True.intro⟩ ?_
  exact Eq.mp (k2_eq  R x5b x5o x6b x6o x7 x8b x8o x9 ρ m) h
theorem k1_eq  (R : Ending → Mem → Prop) (x5b : Nat) (x5o : Nat) (x6b : Nat) (x6o : Nat) (ρ : Env) (m : Mem) : k1  x5b x5o x6b x6o R m = acpt P od (panicR R) (k1A  R) (k1Q  R) (upd (upd ρ 6 (.pointer (some ⟨x6b, x6o, none⟩))) 5 (.pointer (some ⟨x5b, x5o, none⟩))) m := by kernel_rfl
theorem k1_er  (R : Ending → Mem → Prop) : (k1A  R).erase = sR (sR (sR (sR (body)))) := by kernel_rfl
theorem k1_ok  (R : Ending → Mem → Prop) (ρ : Env) (m : Mem) (h : (k1E fun x5b x5o x6b x6o m => k1  x5b x5o x6b x6o R m) ρ m) : cpt P od (panicR R) (sR (sR (sR (sR (body))))) (k1Q  R) ρ m := by
  unfold k1E at h
  obtain ⟨x5b, x5o, e5, h⟩ := h.ex
  obtain ⟨x6b, x6o, e6, h⟩ := h.ex
  rw [← upd_self e5, ← upd_self e6]
  rw [← k1_er  R]
  refine acpt_sound (P := P) (k1A  R) _ _ _ ⟨⟨⟨(fun ρ m h => k2_ok  R ρ m h), True.intro⟩, True.intro⟩, True.intro⟩ ?_
  exact Eq.mp (k1_eq  R x5b x5o x6b x6o ρ m) h
theorem e0_eq (a0a : Option Addr) (a0l : Nat) (a0c : Nat) (a1a : Option Addr) (a1l : Nat) (a1c : Nat) (R : Ending → Mem → Prop) (m : Mem) : e0 a0a a0l a0c a1a a1l a1c R m = acpt P od (panicR R) (e0A R) (bodyQ P fn R) (argE (#[.slice a0a a0l a0c, .slice a1a a1l a1c] : Array Value).toList) m := by kernel_rfl
theorem ok (a0a : Option Addr) (a0l : Nat) (a0c : Nat) (a1a : Option Addr) (a1l : Nat) (a1c : Nat) (R : Ending → Mem → Prop) (m : Mem) (h : e0 a0a a0l a0c a1a a1l a1c R m) : HC P id #[.slice a0a a0l a0c, .slice a1a a1l a1c] m R := by
  refine HC_of (fn := fn) (c := body) (od := od) (tb := tb) Go.Proofs.Tryd.func11 (by kernel_rfl) (by kernel_rfl) follows (by kernel_rfl) (of_decide_eq_true (by kernel_rfl)) ?_
  have he : (e0A R).erase = body := by kernel_rfl
  rw [← he]
  refine acpt_sound (P := P) (e0A R) _ _ _ ⟨⟨⟨⟨(fun ρ m h => k1_ok  R ρ m h), True.intro⟩, True.intro⟩, True.intro⟩, True.intro⟩ ?_
  exact Eq.mp (e0_eq a0a a0l a0c a1a a1l a1c R m) h
end eyotlaw9_RegexGroups
end
end Go.E
set_option linter.unusedVariables false
set_option linter.unusedSimpArgs false
set_option maxRecDepth 20000
namespace Go.E.Rg
open Go.H Go.E
attribute [local irreducible] BiN MkS ConvN LookN MapUpN CallV HC limb dbTab
/-- An expression in a block of its own. -/
def At (m : Mem) (b : Nat) (r : Rx) : Prop := ∃ a l c, m b = some (.cells (rxO r.k r.S (.slice a l c)) T_api_Rx (0, 0)) ∧ ArgC m r (.slice a l c)
theorem At.le {m m' : Mem} {b : Nat} {r : Rx} (h : At m b r) (k : Le m m') : At m' b r := by
  obtain ⟨a, l, c, h1, h2⟩ := h
  exact ⟨a, l, c, k _ _ h1, h2.le k⟩
theorem prs_ok {l : List UInt8} {r : Rx} (h : parse l = .ok r) : prs (lst (bstr l)) = (r, 0) := by unfold prs; rw [lst_bstr, h]
theorem prs_err {l : List UInt8} {e : Int} (h : parse l = .error e) : prs (lst (bstr l)) = (rx0, e) := by unfold prs; rw [lst_bstr, h]
/-- SameRx over two blocks. -/
theorem same_at {m : Mem} {b b' : Nat} {p x : Rx} {R : Ending → Mem → Prop} (hp : At m b p) (hx : At m b' x) (hs : same p x) (hk : ∀ m', Le m m' → R (.returned (.bool true)) m') :
    LdV m b 0 fun v => UnI v .i64 fun y0 => LdV m b 1 fun v => UnI v .u64 fun y1 => LdV m b 2 fun v => UnI v .u64 fun y2 => LdV m b 3 fun v => UnI v .u64 fun y3 => LdV m b 4 fun v => UnI v .u64 fun y4 => LdV m b 5 fun v => UnS v fun ya yl yc =>
    LdV m b' 0 fun v => UnI v .i64 fun z0 => LdV m b' 1 fun v => UnI v .u64 fun z1 => LdV m b' 2 fun v => UnI v .u64 fun z2 => LdV m b' 3 fun v => UnI v .u64 fun z3 => LdV m b' 4 fun v => UnI v .u64 fun z4 => LdV m b' 5 fun v => UnS v fun za zl zc =>
      HC P eyotref8_SameRx.id #[.agg #[.int .i64 y0, .int .u64 y1, .int .u64 y2, .int .u64 y3, .int .u64 y4, .slice ya yl yc], .agg #[.int .i64 z0, .int .u64 z1, .int .u64 z2, .int .u64 z3, .int .u64 z4, .slice za zl zc]] m R := by
  obtain ⟨a, l, c, h1, h2⟩ := hp
  obtain ⟨a', l', c', h3, h4⟩ := hx
  refine get6 h1 ?_
  refine get6 h3 ?_
  refine SameRx_spec p h2 h4 ?_
  intro m' z hle hz
  rw [hz.mpr hs]
  exact hk m' hle
theorem groups_k4 {x p q r want : Rx} {m0 m : Mem} (hG : Glob m) (hle : Le m0 m) {b5 b8 b10 b12 b14 : Nat} {x13 : Int} (hx : At m b5 x) (hp : At m b8 p) (hq : At m b10 q) (hr : At m b12 r) (hw : At m b14 want) (s1 : same p x) (s2 : same q x) (h13 : x13 = 6 ∨ (x13 = 0 ∧ same r want)) (h0 : may x = 0) :
    eyotlaw9_RegexGroups.k4 b5 0 (bstr (shw x)) b8 0 0 b10 0 0 b12 0 x13 b14 0 (Fine m0) m := by
  obtain ⟨hsl, _⟩ := may_len h0
  unfold eyotlaw9_RegexGroups.k4
  have e1 : ByteArray.mk #[40] ++ bstr (shw x) = bstr (40 :: shw x) := bstr_append [40] _
  have e2 : bstr (shw x) ++ ByteArray.mk #[41] = bstr (shw x ++ [41]) := bstr_append _ [41]
  refine ⟨by rw [bstr_size]; show 1 + _ ≤ _; omega, ?_⟩
  rw [e1]
  refine Parse_any hG (by rw [bstr_size]; simp only [List.length_cons]; omega) ?_
  intro m1 a1 l1 c1 hle1 hv1
  rw [prs_err (gr_open h0)] at hv1 ⊢
  refine ContPR.mk ?_
  refine own6 ?_
  intro b17 m8 hb17 hle8 h17
  have l8 := hle1.trans hle8
  refine ⟨by rw [bstr_size]; show _ + 1 ≤ _; omega, ?_⟩
  rw [e2]
  refine Parse_any (hG.le l8) (by rw [bstr_size]; simp only [List.length_append, List.length_cons, List.length_nil]; omega) ?_
  intro m9 a2 l2 c2 hle9 hv2
  rw [prs_err (gr_shut h0)] at hv2 ⊢
  refine ContPR.mk ?_
  refine own6 ?_
  intro b19 m16 hb19 hle16 h19
  have l16 := (l8.trans hle9).trans hle16
  refine BrEt rfl ?_
  refine same_at (hp.le l16) (hx.le l16) s1 ?_
  intro m17 hle17
  dsimp only [Cont]
  refine UnB.mk (Br.t rfl ?_)
  have l17 := l16.trans hle17
  refine BrEt rfl ?_
  refine same_at (hq.le l17) (hx.le l17) s2 ?_
  intro m18 hle18
  dsimp only [Cont]
  refine UnB.mk (Br.t rfl ?_)
  have l18 := l17.trans hle18
  rcases h13 with rfl | ⟨rfl, s3⟩
  · refine BrEt rfl ?_
    refine BrEt rfl ?_
    exact ⟨rfl, hle.trans l18⟩
  · refine BrEf (by decide) ?_
    refine BrEt rfl ?_
    refine same_at (hr.le l18) (hw.le l18) s3 ?_
    intro m19 hle19
    dsimp only [Cont]
    refine UnB.mk (Br.t rfl ?_)
    refine BrEt rfl ?_
    exact ⟨rfl, hle.trans (l18.trans hle19)⟩
/-- The parts of an expression in a block, as rows. -/
theorem rows_of {m : Mem} {x : Rx} {a : Option Addr} {l c : Nat} (h : ArgC m x (.slice a l c)) (hf : form x = true) (hl : l ≤ 100) : ∃ pr : List (Rx × Value), pr.map (·.1) = parts x ∧ (∀ p ∈ pr, ArgC m p.1 p.2) ∧ pr.length ≤ 100 ∧ ((x.k = 3 ∧ l = pr.length ∧ CellsAt m a (pr.flatMap rxRow)) ∨ (x.k ≠ 3 ∧ pr = [(x, .slice a l c)])) := by
  by_cases hk : x.k = 3
  · obtain ⟨k, S, ps⟩ := x
    obtain ⟨pr, a', c', hps, he, h1, h2, h3, h4⟩ := h.inv
    cases he
    refine ⟨pr, ?_, h4, hl, .inl ⟨hk, rfl, h3⟩⟩
    unfold parts
    rw [if_pos hk]; exact hps.symm
  · refine ⟨[(x, .slice a l c)], ?_, ?_, by simp, .inr ⟨hk, rfl⟩⟩
    · unfold parts; rw [if_neg hk]; rfl
    · intro p hp
      have : p = (x, .slice a l c) := by simpa using hp
      subst this; exact h
theorem rxRow_one : ∀ (pr : List (Rx × Value)), (∀ p ∈ pr, ∃ a l c, p.2 = .slice a l c) → ∀ v ∈ pr.flatMap rxRow, notOne v = false := by
  intro pr h v hv
  rw [List.mem_flatMap] at hv
  obtain ⟨p, hp, hv⟩ := hv
  obtain ⟨a, l, c, e⟩ := h p hp
  unfold rxRow at hv
  rw [e] at hv
  simp only [List.mem_cons, List.not_mem_nil, or_false] at hv
  rcases hv with rfl | rfl | rfl | rfl | rfl | rfl <;> rfl
theorem groups_l3 {x y p q r : Rx} {m0 m47 m55 : Mem} (hG : Glob m47) (hle0 : Le m0 m47) {b5 b8 b10 b12 b14 b73 : Nat} {x13 : Int} (hx : At m47 b5 x) (hp : At m47 b8 p) (hq : At m47 b10 q) (hr : At m47 b12 r) (s1 : same p x) (s2 : same q x) (h13 : x13 = 6 ∨ (x13 = 0 ∧ same r (.mk 3 noS (parts x ++ parts y)))) (h0 : may x = 0) (h1 : may y = 0)
    (hle55 : Le m47 m55) (h14 : m55 b14 = some (.cells (rxO 3 noS (.slice none 0 0)) T_api_Rx (0, 0))) (w14 : m47 b14 = none) {ax ay : Option Addr} {lx cx ly cy : Nat} (hax : ArgC m47 x (.slice ax lx cx)) (hay : ArgC m47 y (.slice ay ly cy)) (hlx : lx ≤ 100) (hly : ly ≤ 100)
    (h73 : m55 b73 = some (.cells #[.int .i64 x.k, .int .u64 (L x.S 0), .int .u64 (L x.S 1), .int .u64 (L x.S 2), .int .u64 (L x.S 3), .slice ax lx cx, .int .i64 y.k, .int .u64 (L y.S 0), .int .u64 (L y.S 1), .int .u64 (L y.S 2), .int .u64 (L y.S 3), .slice ay ly cy] T_api_Rx (0, 0))) :
    eyotlaw9_RegexGroups.l3 b5 0 (bstr (shw x)) b8 0 0 b10 0 0 b12 0 x13 b14 0 (some ⟨b73, 0, none⟩) 2 2 0 (Fine m0) m55 := by
  have hne : b73 ≠ b14 := by rintro rfl; rw [h14] at h73; simp [rxO] at h73
  obtain ⟨prx, px1, px2, px3, px4⟩ := rows_of hax (may_form h0).1 hlx
  obtain ⟨pry, py1, py2, py3, py4⟩ := rows_of hay (may_form h1).1 hly
  have hslx : ∀ p ∈ prx, ∃ a l c, p.2 = .slice a l c := fun p hp => (px2 p hp).sl
  have hsly : ∀ p ∈ pry, ∃ a l c, p.2 = .slice a l c := fun p hp => (py2 p hp).sl
  let acc : Nat → List (Rx × Value) := fun j => if j = 0 then [] else if j = 1 then prx else prx ++ pry
  refine ⟨fun N a5 o5 x7 a8 o8 x9 a10 o10 x11 a12 o12 x13' a14 o14 xa xl xc i mm => a5 = b5 ∧ o5 = 0 ∧ x7 = bstr (shw x) ∧ a8 = b8 ∧ o8 = 0 ∧ x9 = 0 ∧ a10 = b10 ∧ o10 = 0 ∧ x11 = 0 ∧ a12 = b12 ∧ o12 = 0 ∧ x13' = x13 ∧ a14 = b14 ∧ o14 = 0 ∧ xa = some ⟨b73, 0, none⟩ ∧ xl = 2 ∧ ∃ (j : Nat) (a : Option Addr) (c : Nat), i = (j : Int) ∧ j ≤ 2 ∧ N = 2 - j ∧ Le m47 mm ∧ mm b73 = m55 b73 ∧ mm b14 = some (.cells (rxO 3 noS (.slice a (acc j).length c)) T_api_Rx (0, 0)) ∧ Own mm T_api_Rx 6 a (acc j).length c ((acc j).flatMap rxRow) ∧ Fresh m55 a ∧ ∀ b, m55 b ≠ none → mm b ≠ none, 2,
    ⟨rfl, rfl, rfl, rfl, rfl, rfl, rfl, rfl, rfl, rfl, rfl, rfl, rfl, rfl, rfl, rfl, 0, none, 0, rfl, by omega, rfl, hle55, rfl, h14, Own.nil _ _ _, Fresh.none _, fun b hb => hb⟩, ?_⟩
  rintro N a5 o5 x7 a8 o8 x9 a10 o10 x11 a12 o12 x13' a14 o14 xa xl xc i mm ⟨g1, g2, g3, g4, g5, g6, g7, g8, g9, g10, g11, g12, g13, g14, rfl, g16, j, a, c, rfl, hj, rfl, hlm, hm73, hm14, hown, hfr, hlv⟩
  subst a5 o5 x7 a8 o8 x9 a10 o10 x11 a12 o12 x13' a14 o14 xl
  unfold eyotlaw9_RegexGroups.l3B
  have hab : blk a ≠ some b14 := fun e => by have := hfr b14 e; rw [h14] at this; cases this
  have hab73 : blk a ≠ some b73 := fun e => by have := hfr b73 e; rw [h73] at this; cases this
  refine BrD (fun hlt => ?_) (fun hge => ?_)
  rotate_left
  · have hj2 : j = 2 := by omega
    subst hj2
    refine groups_k4 (want := .mk 3 noS (parts x ++ parts y)) (hG.le hlm) (hle0.trans hlm) (hx.le hlm) (hp.le hlm) (hq.le hlm) (hr.le hlm) ?_ s1 s2 h13 h0
    refine ⟨a, _, c, hm14, ?_⟩
    have hall : ∀ p ∈ acc 2, ArgC mm p.1 p.2 := by
      intro p hp
      rcases List.mem_append.mp (show p ∈ prx ++ pry from hp) with h | h
      · exact (px2 p h).le hlm
      · exact (py2 p h).le hlm
    have := ArgC.mk (m := mm) (k := 3) (S := noS) (prs := acc 2) (a := a) (c := c) hown.cap (by show (prx ++ pry).length ≤ _; rw [List.length_append]; omega) hown.cells hall
    have e : (acc 2).map (·.1) = parts x ++ parts y := by
      show (prx ++ pry).map (·.1) = _
      rw [List.map_append, px1, py1]
    rw [e] at this
    exact this
  -- this one's parts
  have h73' : mm b73 = _ := hm73.trans h73
  obtain ⟨z, az, lz, cz, prz, hz0, hz1, hz2, hz3, hcell, hacc⟩ : ∃ (z : Rx) (az : Option Addr) (lz cz : Nat) (prz : List (Rx × Value)), (∀ p ∈ prz, ∃ a l c, p.2 = .slice a l c) ∧ prz.length ≤ 100 ∧ ((z.k = 3 ∧ lz = prz.length ∧ CellsAt m47 az (prz.flatMap rxRow)) ∨ (z.k ≠ 3 ∧ prz = [(z, .slice az lz cz)])) ∧
      (acc (j + 1) = acc j ++ prz) ∧ (∀ i u, ([.int .i64 z.k, .int .u64 (L z.S 0), .int .u64 (L z.S 1), .int .u64 (L z.S 2), .int .u64 (L z.S 3), .slice az lz cz] : List Value)[i]? = some u → mm.cell b73 (j * 6 + i) = some u) ∧ (acc j).length ≤ 100 := by
    have hc : j = 0 ∨ j = 1 := by omega
    rcases hc with rfl | rfl
    · refine ⟨x, ax, lx, cx, prx, hslx, px3, px4, rfl, ?_, by show ([] : List (Rx × Value)).length ≤ _; simp⟩
      intro i u hu
      refine cell_of h73' ?_
      have hi : i < 6 := by
        rcases Nat.lt_or_ge i 6 with h | h
        · exact h
        · rw [List.getElem?_eq_none (by simpa using h)] at hu; cases hu
      have : i = 0 ∨ i = 1 ∨ i = 2 ∨ i = 3 ∨ i = 4 ∨ i = 5 := by omega
      rcases this with rfl | rfl | rfl | rfl | rfl | rfl <;> exact hu
    · refine ⟨y, ay, ly, cy, pry, hsly, py3, py4, rfl, ?_, px3⟩
      intro i u hu
      refine cell_of h73' ?_
      have hi : i < 6 := by
        rcases Nat.lt_or_ge i 6 with h | h
        · exact h
        · rw [List.getElem?_eq_none (by simpa using h)] at hu; cases hu
      have : i = 0 ∨ i = 1 ∨ i = 2 ∨ i = 3 ∨ i = 4 ∨ i = 5 := by omega
      rcases this with rfl | rfl | rfl | rfl | rfl | rfl <;> exact hu
  have ix : ∀ {K : Nat → Nat → Prop}, K b73 (j * 6) → IxS (some ⟨b73, 0, none⟩) 2 (j : Int) 6 K := by
    intro K hK
    refine ⟨by omega, by omega, ?_⟩
    show K b73 (0 + (j : Int).toNat * 6)
    rw [Nat.zero_add, Int.toNat_natCast]; exact hK
  -- the end of a step
  have fin : ∀ {mm' : Mem} {a' : Option Addr} {c' : Nat}, Chg (fun b => blk a = some b) mm mm' → Own mm' T_api_Rx 6 a' (acc (j + 1)).length c' ((acc (j + 1)).flatMap rxRow) → Fresh m55 a' → St1 mm' b14 5 (.slice a' (acc (j + 1)).length c') fun m3 => ∃ N1, N1 < 2 - j ∧ (b5 = b5 ∧ (0 : Nat) = 0 ∧ bstr (shw x) = bstr (shw x) ∧ b8 = b8 ∧ (0 : Nat) = 0 ∧ (0 : Int) = 0 ∧ b10 = b10 ∧ (0 : Nat) = 0 ∧ (0 : Int) = 0 ∧ b12 = b12 ∧ (0 : Nat) = 0 ∧ x13 = x13 ∧ b14 = b14 ∧ (0 : Nat) = 0 ∧ (some ⟨b73, 0, none⟩ : Option Addr) = some ⟨b73, 0, none⟩ ∧ 2 = 2 ∧ ∃ (j' : Nat) (a : Option Addr) (c : Nat), IntKind.i64.wrap ((j : Int) + 1) = (j' : Int) ∧ j' ≤ 2 ∧ N1 = 2 - j' ∧ Le m47 m3 ∧ m3 b73 = m55 b73 ∧ m3 b14 = some (.cells (rxO 3 noS (.slice a (acc j').length c)) T_api_Rx (0, 0)) ∧ Own m3 T_api_Rx 6 a (acc j').length c ((acc j').flatMap rxRow) ∧ Fresh m55 a ∧ ∀ b, m55 b ≠ none → m3 b ≠ none) := by
    intro mm' a' c' hch ho' hf'
    have e14 : mm' b14 = some (.cells (rxO 3 noS (.slice a (acc j).length c)) T_api_Rx (0, 0)) := hch.eq _ _ hm14 hab
    have e73 : mm' b73 = m55 b73 := by
      rw [h73]; exact hch.eq _ _ h73' hab73
    have lmm : Le m47 mm' := hch.to_le hlm (fun b e => hle55.new (hfr b e))
    have hab' : blk a' ≠ some b14 := fun e => by have := hf' b14 e; rw [h14] at this; cases this
    refine St1.to (rxO 3 noS (.slice a' (acc (j + 1)).length c')) e14 (by simp [rxO]) rfl (by simp [rxO]) ?_
    have hchs := Chg.set mm' b14 (.cells (rxO 3 noS (.slice a' (acc (j + 1)).length c')) T_api_Rx (0, 0))
    refine ⟨2 - (j + 1), by omega, rfl, rfl, rfl, rfl, rfl, rfl, rfl, rfl, rfl, rfl, rfl, rfl, rfl, rfl, rfl, rfl, j + 1, a', c', ?_, by omega, rfl, hchs.to_le lmm (fun b e => by rw [show b = b14 from e]; exact w14), ?_, set_same _ _ _, ho'.chg hchs (fun b hb e => hab' (by rw [hb]; rw [show b = b14 from e])), hf', fun b hb => hchs.live b (hch.live b (hlv b hb))⟩
    · rw [wi (by omega) (by omega)]; omega
    · rw [set_other _ _ hne]; exact e73
  refine ix ?_
  refine LdV.mk (hcell 0 _ rfl) (UnI.mk ?_)
  rcases hz2 with ⟨hk3, rfl, hcz⟩ | ⟨hk3, rfl⟩
  · refine BrEt hk3 ?_
    refine Sub.all ?_
    refine LdV.s5 hm14 (UnS.mk ?_)
    refine ix ?_
    refine LdV.mk (hcell 5 _ rfl) (UnS.mk ?_)
    refine append_own eRx hown (hcz.le hlm) (by rw [rows_len rxRow_len]) (rxRow_one _ hz0) (by decide) (by omega) (by omega) ?_
    intro a' c' m2 ho' hg
    have e : (acc j).length + prz.length = (acc (j + 1)).length := by rw [hz3, List.length_append]
    rw [e, ← List.flatMap_append, ← hz3] at ho'
    rw [e]
    refine UnS.mk ?_
    refine fin hg.1 ho' ?_
    rcases hg.2 with e2 | e2
    · intro b hb; rw [e2] at hb; exact hfr b hb
    · intro b hb
      have h := e2 b hb
      cases h4 : m55 b with
      | none => rfl
      | some o => exact absurd h (hlv b (by rw [h4]; simp))
  · refine BrEf hk3 ?_
    refine Sub.all ?_
    refine LdV.s5 hm14 (UnS.mk ?_)
    refine ix ?_
    refine LdV.mk (hcell 0 _ rfl) (UnI.mk ?_)
    refine LdV.mk (hcell 1 _ rfl) (UnI.mk ?_)
    refine LdV.mk (hcell 2 _ rfl) (UnI.mk ?_)
    refine LdV.mk (hcell 3 _ rfl) (UnI.mk ?_)
    refine LdV.mk (hcell 4 _ rfl) (UnI.mk ?_)
    refine LdV.mk (hcell 5 _ rfl) (UnS.mk ?_)
    intro b99 hb99
    refine Lk.all (Le.set hb99 _) ?_
    refine push_row eRx (by decide) hown rfl ?_ (by omega) (by decide) ?_ b99 hb99
    · intro u hu
      simp only [List.mem_cons, List.not_mem_nil, or_false] at hu
      rcases hu with rfl | rfl | rfl | rfl | rfl | rfl <;> rfl
    intro a' c' m5 hch ho' hfr'
    have e : (acc j).length + 1 = (acc (j + 1)).length := by rw [hz3, List.length_append]; rfl
    have e2 : (acc j).flatMap rxRow ++ [.int .i64 z.k, .int .u64 (L z.S 0), .int .u64 (L z.S 1), .int .u64 (L z.S 2), .int .u64 (L z.S 3), .slice az lz cz] = (acc (j + 1)).flatMap rxRow := by
      rw [hz3, List.flatMap_append]; congr 1
    have ho'' : Own m5 T_api_Rx 6 a' ((acc j).length + 1) c' ((acc j).flatMap rxRow ++ [.int .i64 z.k, .int .u64 (L z.S 0), .int .u64 (L z.S 1), .int .u64 (L z.S 2), .int .u64 (L z.S 3), .slice az lz cz]) := ho'
    rw [e, e2] at ho''
    rw [e]
    refine UnS.mk ?_
    refine fin hch ho'' ?_
    rcases hfr' with e2 | e2
    · intro b hb; rw [e2] at hb; exact hfr b hb
    · intro b hb
      have h := e2 b hb
      cases h4 : m55 b with
      | none => rfl
      | some o => exact absurd h (hlv b (by rw [h4]; simp))
theorem argc_len {m : Mem} {r : Rx} {a : Option Addr} {l c : Nat} (h : ArgC m r (.slice a l c)) (h0 : may r = 0) : l ≤ 100 := by
  obtain ⟨k, S, ps⟩ := r
  obtain ⟨pr, a', c', hps, he, _⟩ := h.inv
  cases he
  have h1 := (may_len h0).2
  rw [nodes_mk'] at h1
  have h2 := nodesL_ge ps
  rw [hps, List.length_map] at h2
  rw [hps] at h1
  omega
theorem groups_g2 {x y p : Rx} {m0 m : Mem} (hG : Glob m) (hle0 : Le m0 m) {b5 b6 b8 : Nat} (hx : At m b5 x) (hy : At m b6 y) (hp : At m b8 p) (s1 : same p x) (h0 : may x = 0) (h1 : may y = 0) (hdx : depth x ≤ 11) : eyotlaw9_RegexGroups.k2 b5 0 b6 0 (bstr (shw x)) b8 0 0 (Fine m0) m := by
  obtain ⟨q', sq, eq⟩ := gr_two h0 hdx
  obtain ⟨hsx, hnx⟩ := may_len h0
  obtain ⟨hsy, hny⟩ := may_len h1
  unfold eyotlaw9_RegexGroups.k2
  have e1 : ByteArray.mk #[40, 40] ++ bstr (shw x) = bstr (40 :: 40 :: shw x) := bstr_append [40, 40] _
  have e2 : bstr (40 :: 40 :: shw x) ++ ByteArray.mk #[41, 41] = bstr (40 :: (40 :: shw x ++ [41]) ++ [41]) := by
    have := bstr_append (40 :: 40 :: shw x) [41, 41]
    rw [show (40 :: (40 :: shw x ++ [41]) ++ [41] : List UInt8) = (40 :: 40 :: shw x) ++ [41, 41] by simp]
    exact this
  have e3 : bstr (shw x) ++ ByteArray.mk #[124] = bstr (shw x ++ [124]) := bstr_append _ [124]
  have e4 : bstr (shw x ++ [124]) ++ bstr (shw y) = bstr (shw x ++ [124] ++ shw y) := bstr_append _ _
  refine ⟨by rw [bstr_size]; show 2 + _ ≤ _; omega, ?_⟩
  rw [e1]
  refine ⟨by rw [bstr_size]; show _ + 2 ≤ _; simp only [List.length_cons]; omega, ?_⟩
  rw [e2]
  refine Parse_any hG (by rw [bstr_size]; simp only [List.length_cons, List.length_append, List.length_nil]; omega) ?_
  intro m1 a1 l1 c1 hle1 hv1
  rw [prs_ok eq] at hv1 ⊢
  refine ContPR.mk ?_
  refine own6 ?_
  intro b10 m8 hb10 hle8 h10
  have l8 := hle1.trans hle8
  have hq : At m8 b10 q' := ⟨_, _, _, h10, hv1.le hle8⟩
  refine ⟨by rw [bstr_size]; show _ + 1 ≤ _; omega, ?_⟩
  rw [e3]
  obtain ⟨ax, lx, cx, x1, x2⟩ := hx.le l8
  obtain ⟨ay, ly, cy, y1, y2⟩ := hy.le l8
  refine get6 y1 ?_
  refine RShow_ok y y2 (may_form h1).1 (by omega) ?_
  intro m9 hle9
  dsimp only [Cont]
  refine UnStr.mk ?_
  refine ⟨by rw [bstr_size, bstr_size]; simp only [List.length_append, List.length_cons, List.length_nil]; omega, ?_⟩
  rw [e4]
  refine Parse_any ((hG.le l8).le hle9) (by rw [bstr_size]; simp only [List.length_cons, List.length_append, List.length_nil]; omega) ?_
  intro m10 a2 l2 c2 hle10 hv2
  obtain ⟨r, x13, hprs, h13⟩ : ∃ r x13, prs (lst (bstr (shw x ++ [124] ++ shw y))) = (r, x13) ∧ (x13 = 6 ∨ (x13 = 0 ∧ same r (.mk 3 noS (parts x ++ parts y)))) := by
    rcases gr_bar h0 h1 with ⟨_, r', hs, hp⟩ | he
    · exact ⟨_, _, prs_ok hp, .inr ⟨rfl, hs⟩⟩
    · exact ⟨_, _, prs_err he, .inl rfl⟩
  rw [hprs] at hv2 ⊢
  refine ContPR.mk ?_
  refine own6 ?_
  intro b12 m17 hb12 hle17 h12
  have u17 := (hle9.trans hle10).trans hle17
  have l17 := l8.trans u17
  refine own6z ?_
  intro b14 m24 hb14 hle24 h14
  refine get6 ((u17.trans hle24) _ _ x1) ?_
  refine get6 ((u17.trans hle24) _ _ y1) ?_
  refine newBox2 (x := x) (y := y) ?_
  intro b73 m25 hb73 hle25 h73
  exact groups_l3 (hG.le l17) (hle0.trans l17) (hx.le l17) (hp.le l17) (hq.le u17) ⟨_, _, _, h12, hv2.le hle17⟩ s1 sq h13 h0 h1 (hle24.trans hle25) (hle25 _ _ h14) hb14 (x2.le u17) (y2.le u17) (argc_len x2 h0) (argc_len y2 h1) h73
theorem groups_g1 {x y : Rx} {m0 m : Mem} (hG : Glob m) (hle0 : Le m0 m) {b5 b6 : Nat} (hx : At m b5 x) (hy : At m b6 y) (hnx : nodes x ≤ 1000) (hny : nodes y ≤ 1000) (hdx : depth x ≤ 11) : eyotlaw9_RegexGroups.k1 b5 0 b6 0 (Fine m0) m := by
  unfold eyotlaw9_RegexGroups.k1
  obtain ⟨ax, lx, cx, x1, x2⟩ := hx
  obtain ⟨ay, ly, cy, y1, y2⟩ := hy
  refine get6 x1 ?_
  refine RMay_spec x2 (by omega) ?_
  intro m1 hle1
  dsimp only [Cont]
  refine UnI.mk ?_
  refine BrN (fun _ => ⟨rfl, hle0.trans hle1⟩) (fun h0 => ?_)
  refine get6 (hle1 _ _ y1) ?_
  refine RMay_spec (y2.le hle1) (by omega) ?_
  intro m2 hle2
  dsimp only [Cont]
  refine UnI.mk ?_
  have l2 := hle1.trans hle2
  refine BrN (fun _ => ⟨rfl, hle0.trans l2⟩) (fun h1 => ?_)
  obtain ⟨r', sr, er⟩ := gr_one h0
  obtain ⟨hsx, _⟩ := may_len h0
  refine get6 (l2 _ _ x1) ?_
  refine RShow_ok x (x2.le l2) (may_form h0).1 (by omega) ?_
  intro m3 hle3
  dsimp only [Cont]
  refine UnStr.mk ?_
  have e1 : ByteArray.mk #[40] ++ bstr (shw x) = bstr (40 :: shw x) := bstr_append [40] _
  have e2 : bstr (40 :: shw x) ++ ByteArray.mk #[41] = bstr (40 :: shw x ++ [41]) := bstr_append _ [41]
  refine ⟨by rw [bstr_size]; show 1 + _ ≤ _; omega, ?_⟩
  rw [e1]
  refine ⟨by rw [bstr_size]; show _ + 1 ≤ _; simp only [List.length_cons]; omega, ?_⟩
  rw [e2]
  have l3 := l2.trans hle3
  refine Parse_any (hG.le l3) (by rw [bstr_size]; simp only [List.length_cons, List.length_append, List.length_nil]; omega) ?_
  intro m4 a1 l1 c1 hle4 hv1
  rw [prs_ok er] at hv1 ⊢
  refine ContPR.mk ?_
  refine own6 ?_
  intro b8 m11 hb8 hle11 h8
  have l11 := (l3.trans hle4).trans hle11
  exact groups_g2 (hG.le l11) (hle0.trans l11) ⟨_, _, _, l11 _ _ x1, x2.le l11⟩ ⟨_, _, _, l11 _ _ y1, y2.le l11⟩ ⟨_, _, _, h8, hv1.le hle11⟩ sr h0 h1 hdx
theorem RegexGroups_m {xa ya : Option Addr} {xc yc : Nat} {xs ys : List UInt8} {m : Mem} (hG : Glob m) (hx : CellsAt m xa (u8s xs)) (hy : CellsAt m ya (u8s ys)) :
    HC P eyotlaw9_RegexGroups.id #[.slice xa xs.length xc, .slice ya ys.length yc] m (Fine m) := by
  refine eyotlaw9_RegexGroups.ok _ _ _ _ _ _ _ _ ?_
  refine begun_spec hG ?_
  intro m1 hle0
  dsimp only [Cont]
  refine UnB.mk ?_
  refine Br.f rfl ?_
  refine BrD (fun _ => ⟨rfl, hle0⟩) (fun hxl => ?_)
  refine BrD (fun _ => ⟨rfl, hle0⟩) (fun hyl => ?_)
  refine made_rx (d := 2) hle0 hx (by omega) (by decide) ?_
  intro m2 a1 l1 c1 hle2 hv1
  have hok1 := (prx_ok 2 xs).2
  have hn1 := prx_nodes 2 xs
  generalize (prx 2 xs).1 = x at hv1 hok1 hn1 ⊢
  refine ContRx.mk ?_
  have l2 := hle0.trans hle2
  refine made_rx (d := 2) l2 hy (by omega) (by decide) ?_
  intro m4 a2 l2' c2 hle4 hv2
  have hn2 := prx_nodes 2 ys
  generalize (prx 2 ys).1 = y at hv2 hn2 ⊢
  refine ContRx.mk ?_
  intro b9 hb9 b10 hb10
  have hne : b10 ≠ b9 := by rintro rfl; rw [set_same] at hb10; cases hb10
  have hle6 : Le m4 ((m4.set b9 (.cells zRx T_api_Rx (0, 0))).set b10 (.cells zRx T_api_Rx (0, 0))) := (Le.set hb9 _).trans (Le.set hb10 _)
  have w10 : m4 b10 = none := by rw [set_other _ _ hne] at hb10; exact hb10
  have e9 : ((m4.set b9 (.cells zRx T_api_Rx (0, 0))).set b10 (.cells zRx T_api_Rx (0, 0))) b9 = some (.cells zRx T_api_Rx (0, 0)) := by rw [set_other _ _ hne.symm, set_same]
  have e10 : ((m4.set b9 (.cells zRx T_api_Rx (0, 0))).set b10 (.cells zRx T_api_Rx (0, 0))) b10 = some (.cells zRx T_api_Rx (0, 0)) := set_same _ _ _
  generalize (m4.set b9 (.cells zRx T_api_Rx (0, 0))).set b10 (.cells zRx T_api_Rx (0, 0)) = m6 at hle6 e9 e10 ⊢
  refine put6 (S := x.S) e9 ?_
  have hch1 := Chg.set m6 b9 (.cells (rxO x.k x.S (.slice a1 l1 c1)) T_api_Rx (0, 0))
  have f9 : (m6.set b9 (.cells (rxO x.k x.S (.slice a1 l1 c1)) T_api_Rx (0, 0))) b9 = _ := set_same _ _ _
  have f10 := hch1.eq _ _ e10 hne
  have hle12 : Le m4 (m6.set b9 (.cells (rxO x.k x.S (.slice a1 l1 c1)) T_api_Rx (0, 0))) := hch1.to_le hle6 (fun b e => by rw [show b = b9 from e]; exact hb9)
  generalize m6.set b9 (.cells (rxO x.k x.S (.slice a1 l1 c1)) T_api_Rx (0, 0)) = m12 at f9 f10 hle12 ⊢
  refine put6 (S := y.S) f10 ?_
  have hch2 := Chg.set m12 b10 (.cells (rxO y.k y.S (.slice a2 l2' c2)) T_api_Rx (0, 0))
  have g10 : (m12.set b10 (.cells (rxO y.k y.S (.slice a2 l2' c2)) T_api_Rx (0, 0))) b10 = _ := set_same _ _ _
  have g9 := hch2.eq _ _ f9 hne.symm
  have hle18 : Le m4 (m12.set b10 (.cells (rxO y.k y.S (.slice a2 l2' c2)) T_api_Rx (0, 0))) := hch2.to_le hle12 (fun b e => by rw [show b = b10 from e]; exact w10)
  generalize m12.set b10 (.cells (rxO y.k y.S (.slice a2 l2' c2)) T_api_Rx (0, 0)) = m18 at g9 g10 hle18 ⊢
  have l18 := (l2.trans hle4).trans hle18
  exact groups_g1 (hG.le l18) l18 ⟨_, _, _, g9, hv1.le (hle4.trans hle18)⟩ ⟨_, _, _, g10, hv2.le hle18⟩ (by omega) (by omega) (by omega)
end Go.E.Rg
namespace Go.E
open Go.H Go.E.Rg
theorem RegexGroups_arg {W : World} {v w : Value} (hG : Glob (heapM W)) (h : Arg P W T_sl_uint8 v) (h2 : Arg P W T_sl_uint8 w) : HC P eyotlaw9_RegexGroups.id #[v, w] (heapM W) (Fine (heapM W)) := by
  obtain ⟨a, l, c, bs, rfl, hlc, hl2, _, hc⟩ := h.u8s (e := T_uint8) (by kernel_rfl) (by kernel_rfl)
  obtain ⟨a', l', c', bs', rfl, hlc', hl2', _, hc'⟩ := h2.u8s (e := T_uint8) (by kernel_rfl) (by kernel_rfl)
  have e : (bs.take l).length = l := by rw [List.length_take]; omega
  have e' : (bs'.take l').length = l' := by rw [List.length_take]; omega
  have := RegexGroups_m (xc := c) (yc := c') hG hc hc'
  rw [e, e'] at this
  exact this
end Go.E
