/- A text of pieces under way, and what it spells. -/
import Derived.Test.YtjdkdeekniephaaLX
set_option linter.unusedVariables false
set_option linter.unusedSimpArgs false
namespace Go.E.Pz
open Go.H Go.E
attribute [local irreducible] BiN MkS ConvN LookN MapUpN CallV HC

theorem Gd.mono {B B' : Nat} {ps : List Pc} {ad : List UInt8} (g : Gd B ps ad) (h : B ≤ B') (hB : B' ≤ 500000) : Gd B' ps ad :=
  ⟨fun p hp => ⟨(g.ok p hp).1, by have := (g.ok p hp).2; omega⟩, Nat.le_trans g.len h, Nat.le_trans g.ad h, g.can, hB⟩
/-- A text under way: over what never turns. -/
structure TS (ms mm : Mem) (F : Nat → Prop) (bt : Nat) (ps : List Pc) (ad : List UInt8) (B : Nat) : Prop where
  le : Le ms mm
  tx : Tx mm F bt ps ad
  fr : ∀ b, F b → ms b = none
  gd : Gd B ps ad
section
variable {ms mm m' : Mem} {F : Nat → Prop} {bt : Nat} {ps : List Pc} {ad : List UInt8} {B : Nat}
theorem TS.up (h : TS ms mm F bt ps ad B) (k : Le mm m') : TS ms m' F bt ps ad B := ⟨h.le.trans k, h.tx.le k, h.fr, h.gd⟩
theorem TS.grow (h : TS ms mm F bt ps ad B) {B' : Nat} (k : B ≤ B') (hB : B' ≤ 500000) : TS ms mm F bt ps ad B' := ⟨h.le, h.tx, h.fr, h.gd.mono k hB⟩
theorem TS.edit (h : TS ms mm F bt ps ad B) {a b : Int} (h0 : 0 ≤ a) (h1 : a ≤ b) (h2 : b ≤ ((byt ps).length : Nat)) {sa : Option Addr} {sc : Nat} {s : List UInt8} (hs : CellsAt ms sa (u8s s)) (hs3 : s.length ≤ 300) (hB : B + s.length ≤ 500000) {R : Ending → Mem → Prop}
    (k : ∀ F' m', Chg F mm m' → (∀ b, F' b → F b ∨ mm b = none) → TS ms m' F' bt (edL ps ad a b s) (ad ++ s) (B + s.length) → R (.returned (.int .i64 0)) m') :
    HC P piece_Text_Edit.id #[.pointer (some ⟨bt, 0, none⟩), .int .i64 a, .int .i64 b, .slice sa s.length sc] mm R := by
  refine Edit_ok h.tx h.gd h0 h1 h2 (hs.le h.le) rfl hs3 hB ?_ ?_
  · intro hne b hb hF
    rcases hs.cases with ⟨b', o, rfl, hx⟩ | ⟨e, _⟩
    · cases hb
      cases s with
      | nil => exact hne rfl
      | cons x s =>
        have := hx 0 _ rfl
        unfold Mem.cell at this
        rw [h.fr _ hF] at this; cases this
    · exact hne (by simpa [u8s] using e)
  intro F' m' hch hF' hx
  refine k F' m' hch hF' ⟨hch.to_le h.le h.fr, hx, fun b hb => ?_, ed_good h.gd h0 h1 hB⟩
  rcases hF' b hb with e | e
  · exact h.fr b e
  · exact h.le.new e
theorem TS.side {S : Nat → Prop} (h : TS ms mm F bt ps ad B) (hch : Chg S mm m') (hd : ∀ b, F b → ¬ S b) (hle : Le ms m') : TS ms m' F bt ps ad B := ⟨hle, h.tx.chg hch hd, h.fr, h.gd⟩
/-- An edit, whatever it asks. -/
theorem TS.any (h : TS ms mm F bt ps ad B) {a b : Int} {sa : Option Addr} {sc : Nat} {s : List UInt8} (hs : CellsAt ms sa (u8s s)) (hs3 : s.length ≤ 300) (hB : B + s.length ≤ 500000) {R : Ending → Mem → Prop}
    (k : ∀ F' m' ps' ad' (e : Int), Chg F mm m' → (∀ b, F' b → F b ∨ mm b = none) → TS ms m' F' bt ps' ad' (B + s.length) → R (.returned (.int .i64 e)) m') :
    HC P piece_Text_Edit.id #[.pointer (some ⟨bt, 0, none⟩), .int .i64 a, .int .i64 b, .slice sa s.length sc] mm R := by
  by_cases hb : a < 0 ∨ b < a ∨ ((byt ps).length : Nat) < b
  · refine Edit_bad h.tx h.gd hb ?_
    intro m' hle
    exact k F m' ps ad 1 (hle.chg _) (fun b hb => .inl hb) ((h.up hle).grow (by omega) hB)
  · refine h.edit (by omega) (by omega) (by omega) hs hs3 hB ?_
    intro F' m' hch hF' hx
    exact k F' m' _ _ 0 hch hF' hx
theorem TS.new {n : Int} {B : Nat} (hn : n ≤ B) (hB : B ≤ 500000) {R : Ending → Mem → Prop} (h : ∀ bt F m', TS ms m' F bt (newL n) [] B → R (.returned (.pointer (some ⟨bt, 0, none⟩))) m') : HC P piece_New.id #[.int .i64 n] ms R := by
  refine New_spec ?_
  intro bt F m' hle hF hx
  exact h bt F m' ⟨hle, hx, hF, new_good hn hB⟩

/-- What a text spells. -/
def chr (base ad : List UInt8) (x : Bool × Int) : UInt8 := (if x.1 then ad else base).getD x.2.toNat 0
def spl (base ad : List UInt8) (L : List (Bool × Int)) : List UInt8 := L.map (chr base ad)
/-- Each byte is from where there is one. -/
def Ins (n : Nat) (ad : List UInt8) (L : List (Bool × Int)) : Prop := ∀ x ∈ L, 0 ≤ x.2 ∧ x.2 < (if x.1 then (ad.length : Int) else n)
theorem ins_edit {n : Nat} {a b : Int} {s : List UInt8} (g : Gd B ps ad) (h : Ins n ad (byt ps)) (h0 : 0 ≤ a) : Ins n (ad ++ s) (byt (edL ps ad a b s)) := by
  intro x hx
  rw [ed_bytes (fun p hp => (g.ok p hp).1) h0] at hx
  have old : x ∈ byt ps → 0 ≤ x.2 ∧ x.2 < (if x.1 then ((ad ++ s).length : Int) else n) := by
    intro hm
    have := h x hm
    refine ⟨this.1, ?_⟩
    have := this.2
    split at this
    · rename_i e; rw [if_pos e, List.length_append]; omega
    · rename_i e; rw [if_neg e]; exact this
  rcases List.mem_append.1 hx with hx | hx
  · rcases List.mem_append.1 hx with hx | hx
    · exact old (List.mem_of_mem_take hx)
    · simp only [List.mem_map, List.mem_range] at hx
      obtain ⟨k, hk, rfl⟩ := hx
      refine ⟨by simp only; omega, ?_⟩
      simp only [if_true, List.length_append]; omega
  · exact old (List.mem_of_mem_drop hx)
theorem spl_edit {base : List UInt8} {n : Nat} {a b : Int} {s : List UInt8} (g : Gd B ps ad) (h : Ins n ad (byt ps)) (h0 : 0 ≤ a) :
    spl base (ad ++ s) (byt (edL ps ad a b s)) = (spl base ad (byt ps)).take a.toNat ++ s ++ (spl base ad (byt ps)).drop b.toNat := by
  have same : ∀ L : List (Bool × Int), (∀ x ∈ L, x ∈ byt ps) → L.map (chr base (ad ++ s)) = L.map (chr base ad) := by
    intro L hL
    apply List.map_congr_left
    intro x hx
    have := h x (hL x hx)
    unfold chr
    cases hx1 : x.1 with
    | false => rfl
    | true =>
      rw [hx1] at this
      simp only [if_true] at this ⊢
      rw [List.getD_eq_getElem?_getD, List.getD_eq_getElem?_getD, List.getElem?_append_left (by omega)]
  rw [ed_bytes (fun p hp => (g.ok p hp).1) h0]
  unfold spl
  rw [List.map_append, List.map_append, same _ (fun x hx => List.mem_of_mem_take hx), same _ (fun x hx => List.mem_of_mem_drop hx), List.map_take, List.map_drop]
  congr 2
  apply List.ext_getElem?
  intro k
  rw [List.map_map, List.getElem?_map]
  by_cases hk : k < s.length
  · rw [List.getElem?_range hk]
    simp only [Option.map_some, Function.comp, chr, if_true, Int.toNat_natCast]
    rw [List.getD_eq_getElem?_getD, List.getElem?_append_right (by omega), show ad.length + k - ad.length = k by omega, List.getElem?_eq_getElem hk]; rfl
  · rw [List.getElem?_eq_none (by simp; omega), List.getElem?_eq_none (by omega)]; rfl
theorem ins_new (n : Nat) (ad : List UInt8) : Ins n ad (byt (newL (n : Int))) := by
  intro x hx
  unfold newL at hx
  split at hx
  · rw [byt_cons, show byt [] = [] from rfl, List.append_nil] at hx
    unfold Pc.bytes at hx
    rw [List.mem_map] at hx
    obtain ⟨k, hk, rfl⟩ := hx
    rw [List.mem_range] at hk
    simp only at hk ⊢
    simp; omega
  · simp [byt] at hx
theorem new_len (n : Nat) : (byt (newL (n : Int))).length = n := by
  unfold newL
  split
  · rw [byt_cons, List.length_append, bytes_len]; simp [byt]
  · simp [byt]; omega
theorem spl_new (base ad : List UInt8) : spl base ad (byt (newL (base.length : Int))) = base := by
  apply List.ext_getElem?
  intro k
  unfold spl
  rw [List.getElem?_map]
  have : (byt (newL (base.length : Int)))[k]? = if k < base.length then some (false, (k : Int)) else none := by
    unfold newL
    split
    · rw [byt_cons]
      have e : byt [] = [] := rfl
      rw [e, List.append_nil, bytes_get]
      simp
    · have : base.length = 0 := by omega
      simp [byt, this]
  rw [this]
  split
  · rename_i h
    simp [chr, h]
  · rename_i h
    simp; omega
theorem spl_len (base ad : List UInt8) (L : List (Bool × Int)) : (spl base ad L).length = L.length := by simp [spl]
theorem piece_lim {n : Nat} {p : Pc} (g : Gd B ps ad) (h : Ins n ad (byt ps)) (hp : p ∈ ps) : p.t ≤ (if p.a then (ad.length : Int) else n) := by
  have hok := (g.ok p hp).1
  unfold Pc.Ok at hok
  have : (p.a, p.t - 1) ∈ byt ps := by
    unfold byt
    rw [List.mem_flatMap]
    refine ⟨p, hp, ?_⟩
    unfold Pc.bytes
    rw [List.mem_map]
    exact ⟨(p.t - p.f - 1).toNat, by rw [List.mem_range]; omega, by congr 1; omega⟩
  have := (h _ this).2
  simp only at this
  split at this
  · rename_i e; rw [if_pos e]; omega
  · rename_i e; rw [if_neg e]; omega
end
end Go.E.Pz
