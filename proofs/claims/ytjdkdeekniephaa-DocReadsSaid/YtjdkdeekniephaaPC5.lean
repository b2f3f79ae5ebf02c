import Derived.Test.YtjdkdeekniephaaPC4
set_option linter.unusedVariables false
set_option maxRecDepth 20000
namespace Go.E.Pz
open Go.H Go.E
attribute [local irreducible] BiN MkS ConvN LookN MapUpN CallV HC

def newP (ad s : List UInt8) : List Pc := if 0 < s.length then [⟨true, (ad.length : Nat), ((ad.length + s.length : Nat) : Int)⟩] else []
def edL (ps : List Pc) (ad : List UInt8) (a b : Int) (s : List UInt8) : List Pc := joinL ((cutL 0 a 0 ps ++ newP ad s) ++ cutL b ((byt ps).length : Nat) 0 ps)
theorem cut_t {lo hi : Int} {B : Int} : ∀ {ps : List Pc} {k : Int}, (∀ p ∈ ps, p.t ≤ B) → ∀ p ∈ cutL lo hi k ps, p.t ≤ B
  | [], k, h, p, hp => by simp [cutL] at hp
  | q :: r, k, h, p, hp => by
    have hq := h q (by simp)
    have ih := cut_t (lo := lo) (hi := hi) (B := B) (ps := r) (k := k + (q.t - q.f)) (fun p hp => h p (by simp [hp]))
    rw [cutL_cons] at hp
    split at hp
    · rcases List.mem_cons.1 hp with rfl | hp
      · simp only; omega
      · exact ih p hp
    · exact ih p hp
theorem jn_t {B : Int} {out : List Pc} {p : Pc} (ho : ∀ q ∈ out, q.t ≤ B) (hp : p.t ≤ B) : ∀ q ∈ jn out p, q.t ≤ B := by
  rcases snoc_cases out with rfl | ⟨r, q, rfl⟩
  · intro q hq; simp [jn_nil] at hq; subst hq; exact hp
  · rw [jn_snoc]
    intro x hx
    split at hx
    · rcases List.mem_append.1 hx with hx | hx
      · exact ho x (by simp [hx])
      · simp at hx; subst hx; exact hp
    · rcases List.mem_append.1 hx with hx | hx
      · exact ho x (by simp [hx])
      · simp at hx
        rcases hx with rfl | rfl
        · exact ho _ (by simp)
        · exact hp
theorem fold_t {B : Int} : ∀ {l out : List Pc}, (∀ q ∈ out, q.t ≤ B) → (∀ q ∈ l, q.t ≤ B) → ∀ q ∈ l.foldl jn out, q.t ≤ B
  | [], out, h, _ => h
  | p :: l, out, h, k => fold_t (l := l) (jn_t h (k p (by simp))) (fun q hq => k q (by simp [hq]))
theorem newP_ok (ad s : List UInt8) : ∀ p ∈ newP ad s, p.Ok ∧ p.t ≤ ((ad.length + s.length : Nat) : Int) := by
  intro p hp
  unfold newP at hp
  split at hp
  · simp at hp; subst hp; unfold Pc.Ok; simp only; omega
  · simp at hp
theorem newP_bytes (ad s : List UInt8) : byt (newP ad s) = (List.range s.length).map fun (k : Nat) => (true, ((ad.length + k : Nat) : Int)) := by
  unfold newP
  split
  · rw [byt_cons]
    have e : byt [] = [] := rfl
    rw [e, List.append_nil]
    unfold Pc.bytes
    simp only
    rw [show (((ad.length + s.length : Nat) : Int) - ((ad.length : Nat) : Int)).toNat = s.length by omega]
    apply List.map_congr_left
    intro k _
    congr 1
  · have : s.length = 0 := by omega
    rw [this]; rfl
/-- An edit, byte by byte. -/
theorem ed_bytes {ps : List Pc} {ad : List UInt8} {a b : Int} {s : List UInt8} (h : ∀ p ∈ ps, p.Ok) (h0 : 0 ≤ a) :
    byt (edL ps ad a b s) = (byt ps).take a.toNat ++ ((List.range s.length).map fun (k : Nat) => (true, ((ad.length + k : Nat) : Int))) ++ (byt ps).drop b.toNat := by
  have hall : ∀ q ∈ (cutL 0 a 0 ps ++ newP ad s) ++ cutL b ((byt ps).length : Nat) 0 ps, q.Ok := by
    intro q hq
    rcases List.mem_append.1 hq with hq | hq
    · rcases List.mem_append.1 hq with hq | hq
      · exact cut_ok h q hq
      · exact (newP_ok ad s q hq).1
    · exact cut_ok h q hq
  unfold edL joinL
  rw [(foldl_jn (out := []) (by simp) hall trivial).2.2, byt_append, byt_append, cut_bytes h, cut_bytes h, newP_bytes]
  have e : byt [] = [] := rfl
  rw [e, List.nil_append]
  simp only [Int.sub_zero, Int.toNat_natCast, Int.toNat_zero, List.drop_zero]
  rw [List.take_of_length_le (Nat.le_refl (byt ps).length)]
theorem ed_good {B : Nat} {ps : List Pc} {ad : List UInt8} (g : Gd B ps ad) {a b : Int} {s : List UInt8} (h0 : 0 ≤ a) (h1 : a ≤ b) (hB : B + s.length ≤ 500000) : Gd (B + s.length) (edL ps ad a b s) (ad ++ s) := by
  have hok : ∀ p ∈ ps, p.Ok := fun p hp => (g.ok p hp).1
  have ga := g.ad
  have hall : ∀ q ∈ (cutL 0 a 0 ps ++ newP ad s) ++ cutL b ((byt ps).length : Nat) 0 ps, q.Ok ∧ q.t ≤ ((B + s.length : Nat) : Int) := by
    intro q hq
    have hc : ∀ lo hi, q ∈ cutL lo hi 0 ps → q.Ok ∧ q.t ≤ ((B + s.length : Nat) : Int) := fun lo hi hq => by
      have := cut_t (B := (B : Int)) (fun p hp => (g.ok p hp).2) q hq
      exact ⟨cut_ok hok q hq, by omega⟩
    rcases List.mem_append.1 hq with hq | hq
    · rcases List.mem_append.1 hq with hq | hq
      · exact hc _ _ hq
      · have := newP_ok ad s q hq
        exact ⟨this.1, by omega⟩
    · exact hc _ _ hq
  have hf := foldl_jn (out := []) (by simp) (fun q hq => (hall q hq).1) trivial
  refine ⟨fun q hq => ⟨hf.1 q hq, fold_t (out := []) (by simp) (fun q hq => (hall q hq).2) q hq⟩, ?_, by simp; omega, hf.2.1, hB⟩
  rw [ed_bytes hok h0]
  have := g.len
  simp only [List.length_append, List.length_take, List.length_map, List.length_range, List.length_drop]
  omega
end Go.E.Pz
