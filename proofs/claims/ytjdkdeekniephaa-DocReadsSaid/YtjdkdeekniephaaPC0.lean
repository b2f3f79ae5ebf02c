/- Pieces of a text: plain laws. No program in sight. -/
set_option linter.unusedVariables false
namespace Go.E.Pz

structure Pc where
  a : Bool
  f : Int
  t : Int
def Pc.bytes (p : Pc) : List (Bool × Int) := (List.range (p.t - p.f).toNat).map fun (k : Nat) => (p.a, p.f + (k : Int))
def byt (ps : List Pc) : List (Bool × Int) := ps.flatMap Pc.bytes
def Pc.Ok (p : Pc) : Prop := 0 ≤ p.f ∧ p.f < p.t
theorem bytes_len (p : Pc) : p.bytes.length = (p.t - p.f).toNat := by simp [Pc.bytes]
theorem byt_cons (p : Pc) (ps : List Pc) : byt (p :: ps) = p.bytes ++ byt ps := by simp [byt]
theorem byt_append (ps qs : List Pc) : byt (ps ++ qs) = byt ps ++ byt qs := by simp [byt]
theorem bytes_get (p : Pc) (k : Nat) : p.bytes[k]? = if k < (p.t - p.f).toNat then some (p.a, p.f + (k : Int)) else none := by
  unfold Pc.bytes
  rw [List.getElem?_map]
  by_cases h : k < (p.t - p.f).toNat
  · rw [List.getElem?_range h, if_pos h]; rfl
  · rw [List.getElem?_eq_none (by simp; omega), if_neg h]; rfl

/-- What lies from a place on, up to another one. -/
def cutL (lo hi : Int) : Int → List Pc → List Pc
  | _, [] => []
  | k, p :: r =>
    if max (lo - k) 0 < min (hi - k) (p.t - p.f) then ⟨p.a, p.f + max (lo - k) 0, p.f + min (hi - k) (p.t - p.f)⟩ :: cutL lo hi (k + (p.t - p.f)) r
    else cutL lo hi (k + (p.t - p.f)) r
theorem cutL_cons (lo hi k : Int) (p : Pc) (r : List Pc) : cutL lo hi k (p :: r) = if max (lo - k) 0 < min (hi - k) (p.t - p.f) then ⟨p.a, p.f + max (lo - k) 0, p.f + min (hi - k) (p.t - p.f)⟩ :: cutL lo hi (k + (p.t - p.f)) r
    else cutL lo hi (k + (p.t - p.f)) r := rfl
theorem cut_ok {lo hi : Int} : ∀ {ps : List Pc} {k : Int}, (∀ p ∈ ps, p.Ok) → ∀ p ∈ cutL lo hi k ps, p.Ok
  | [], k, h, p, hp => by simp [cutL] at hp
  | q :: r, k, h, p, hp => by
    have hq := h q (by simp)
    have ih := cut_ok (lo := lo) (hi := hi) (ps := r) (k := k + (q.t - q.f)) (fun p hp => h p (by simp [hp]))
    unfold cutL at hp
    split at hp
    · rcases List.mem_cons.1 hp with rfl | hp
      · unfold Pc.Ok at *; simp only; omega
      · exact ih p hp
    · exact ih p hp
theorem part_bytes (p : Pc) {x y : Int} (h0 : 0 ≤ x) (h1 : x < y) (h2 : y ≤ p.t - p.f) : (⟨p.a, p.f + x, p.f + y⟩ : Pc).bytes = (p.bytes.take y.toNat).drop x.toNat := by
  apply List.ext_getElem?
  intro k
  rw [bytes_get, List.getElem?_drop, List.getElem?_take, bytes_get]
  simp only
  by_cases h : k < (p.f + y - (p.f + x)).toNat
  · rw [if_pos h, if_pos (by omega), if_pos (by omega)]
    congr 2
    omega
  · rw [if_neg h]
    by_cases h3 : x.toNat + k < y.toNat
    · omega
    · rw [if_neg h3]
theorem cut_bytes {lo hi : Int} : ∀ {ps : List Pc} {k : Int}, (∀ p ∈ ps, p.Ok) → byt (cutL lo hi k ps) = ((byt ps).take (hi - k).toNat).drop (lo - k).toNat
  | [], k, h => by simp [cutL, byt]
  | p :: r, k, h => by
    have hp := h p (by simp)
    have ih := cut_bytes (lo := lo) (hi := hi) (ps := r) (k := k + (p.t - p.f)) (fun p hp => h p (by simp [hp]))
    unfold Pc.Ok at hp
    have e1 : (hi - (k + (p.t - p.f))).toNat = (hi - k).toNat - p.bytes.length := by rw [bytes_len]; omega
    have e2 : (lo - (k + (p.t - p.f))).toNat = (lo - k).toNat - p.bytes.length := by rw [bytes_len]; omega
    rw [byt_cons, List.take_append, List.drop_append, ← e1]
    have e3 : (lo - k).toNat - (p.bytes.take (hi - k).toNat).length = (lo - (k + (p.t - p.f))).toNat ∨ ((byt r).take (hi - (k + (p.t - p.f))).toNat) = [] := by
      rw [List.length_take, bytes_len]
      by_cases h1 : p.t - p.f ≤ hi - k
      · left; omega
      · right
        have : (hi - (k + (p.t - p.f))).toNat = 0 := by omega
        rw [this]; rfl
    have e4 : (((byt r).take (hi - (k + (p.t - p.f))).toNat)).drop ((lo - k).toNat - (p.bytes.take (hi - k).toNat).length) = byt (cutL lo hi (k + (p.t - p.f)) r) := by
      rw [ih]
      rcases e3 with e | e
      · rw [e]
      · rw [e]; simp
    rw [e4, cutL_cons]
    split
    · rename_i hc
      rw [byt_cons]
      congr 1
      rw [part_bytes p (by omega) hc (by omega)]
      have hx : (max (lo - k) 0).toNat = (lo - k).toNat := by omega
      rw [hx]
      congr 1
      by_cases h1 : hi - k ≤ p.t - p.f
      · rw [show min (hi - k) (p.t - p.f) = hi - k by omega]
      · rw [show min (hi - k) (p.t - p.f) = p.t - p.f by omega, List.take_of_length_le (by rw [bytes_len]; omega), List.take_of_length_le (by rw [bytes_len]; omega)]
    · rename_i hc
      have : (p.bytes.take (hi - k).toNat).drop (lo - k).toNat = [] := by
        apply List.drop_eq_nil_of_le
        rw [List.length_take, bytes_len]; omega
      rw [this]; rfl

/-- One piece more: those that touch are one. -/
def jn (out : List Pc) (p : Pc) : List Pc :=
  match out.getLast? with
  | some q => if q.a = p.a ∧ q.t = p.f then out.dropLast ++ [⟨q.a, q.f, p.t⟩] else out ++ [p]
  | none => [p]
def joinL (l : List Pc) : List Pc := l.foldl jn []
theorem jn_nil (p : Pc) : jn [] p = [p] := rfl
theorem jn_snoc (out : List Pc) (q p : Pc) : jn (out ++ [q]) p = if q.a = p.a ∧ q.t = p.f then out ++ [⟨q.a, q.f, p.t⟩] else out ++ [q, p] := by
  unfold jn
  simp
theorem snoc_cases (l : List Pc) : l = [] ∨ ∃ r q, l = r ++ [q] := by
  rcases List.eq_nil_or_concat l with h | ⟨r, q, h⟩
  · exact .inl h
  · exact .inr ⟨r, q, by simpa using h⟩
theorem two_bytes {q p : Pc} (hq : q.f ≤ q.t) (hp : p.f ≤ p.t) (ha : q.a = p.a) (ht : q.t = p.f) : (⟨q.a, q.f, p.t⟩ : Pc).bytes = q.bytes ++ p.bytes := by
  apply List.ext_getElem?
  intro k
  rw [List.getElem?_append, bytes_get, bytes_get, bytes_get, bytes_len]
  simp only
  by_cases h1 : k < (q.t - q.f).toNat
  · rw [if_pos h1, if_pos h1, if_pos (by omega)]
  · rw [if_neg h1]
    by_cases h2 : k < (p.t - q.f).toNat
    · rw [if_pos h2, if_pos (by omega), ha]
      congr 2
      omega
    · rw [if_neg h2, if_neg (by omega)]
theorem jn_bytes {out : List Pc} {p : Pc} (ho : ∀ q ∈ out, q.Ok) (hp : p.Ok) : byt (jn out p) = byt out ++ p.bytes := by
  rcases snoc_cases out with rfl | ⟨r, q, rfl⟩
  · simp [jn_nil, byt]
  · have hq := ho q (by simp)
    unfold Pc.Ok at hq hp
    rw [jn_snoc]
    split
    · rename_i h
      rw [byt_append, byt_append, byt_cons, byt_cons, two_bytes (by omega) (by omega) h.1 h.2]
      simp [byt]
    · rw [byt_append, byt_append, byt_cons, byt_cons, byt_cons]
      simp [byt]
theorem jn_ok {out : List Pc} {p : Pc} (ho : ∀ q ∈ out, q.Ok) (hp : p.Ok) : ∀ q ∈ jn out p, q.Ok := by
  rcases snoc_cases out with rfl | ⟨r, q, rfl⟩
  · intro q hq; simp [jn_nil] at hq; subst hq; exact hp
  · have hq := ho q (by simp)
    rw [jn_snoc]
    intro x hx
    split at hx
    · rename_i h
      rcases List.mem_append.1 hx with hx | hx
      · exact ho x (by simp [hx])
      · simp at hx; subst hx; unfold Pc.Ok at *; simp only; omega
    · rcases List.mem_append.1 hx with hx | hx
      · exact ho x (by simp [hx])
      · simp at hx
        rcases hx with rfl | rfl
        · exact hq
        · exact hp
/-- No two neighbours touch. -/
def Can : List Pc → Prop
  | [] => True
  | [_] => True
  | p :: q :: r => ¬ (p.a = q.a ∧ p.t = q.f) ∧ Can (q :: r)
theorem can_append : ∀ (l : List Pc) (q p : Pc), Can (l ++ [q]) → ¬ (q.a = p.a ∧ q.t = p.f) → Can (l ++ [q, p])
  | [], q, p, _, h => ⟨h, trivial⟩
  | [x], q, p, hc, h => ⟨hc.1, h, trivial⟩
  | x :: y :: r, q, p, hc, h => ⟨hc.1, can_append (y :: r) q p hc.2 h⟩
theorem can_last : ∀ (l : List Pc) (q : Pc) (t : Int), Can (l ++ [q]) → Can (l ++ [⟨q.a, q.f, t⟩])
  | [], q, t, _ => trivial
  | [x], q, t, hc => ⟨hc.1, trivial⟩
  | x :: y :: r, q, t, hc => ⟨hc.1, can_last (y :: r) q t hc.2⟩
theorem jn_can {out : List Pc} {p : Pc} (h : Can out) : Can (jn out p) := by
  rcases snoc_cases out with rfl | ⟨r, q, rfl⟩
  · trivial
  · rw [jn_snoc]
    split
    · exact can_last r q _ h
    · rename_i hn; exact can_append r q p h hn
theorem foldl_jn : ∀ {l out : List Pc}, (∀ q ∈ out, q.Ok) → (∀ q ∈ l, q.Ok) → Can out → (∀ q ∈ l.foldl jn out, q.Ok) ∧ Can (l.foldl jn out) ∧ byt (l.foldl jn out) = byt out ++ byt l
  | [], out, h1, h2, h3 => ⟨h1, h3, by simp [byt]⟩
  | p :: r, out, h1, h2, h3 => by
    have hp := h2 p (by simp)
    have ih := foldl_jn (l := r) (out := jn out p) (jn_ok h1 hp) (fun q hq => h2 q (by simp [hq])) (jn_can h3)
    refine ⟨ih.1, ih.2.1, ?_⟩
    rw [List.foldl_cons, ih.2.2, jn_bytes h1 hp, byt_cons, List.append_assoc]
theorem can_left : ∀ {l r : List Pc}, Can (l ++ r) → Can l
  | [], _, _ => trivial
  | [_], _, _ => trivial
  | x :: y :: l, r, h => ⟨h.1, can_left (l := y :: l) h.2⟩
theorem foldl_can : ∀ {l out : List Pc}, Can (out ++ l) → l.foldl jn out = out ++ l
  | [], out, _ => by simp
  | p :: r, out, h => by
    have e : jn out p = out ++ [p] := by
      rcases snoc_cases out with rfl | ⟨o, q, rfl⟩
      · rfl
      · rw [jn_snoc, if_neg, List.append_assoc]; rfl
        intro hh
        have : ∀ (o : List Pc), Can (o ++ [q] ++ p :: r) → False := by
          intro o
          induction o with
          | nil => intro h; exact h.1 hh
          | cons x o ih =>
            intro h
            cases o with
            | nil => exact ih h.2
            | cons y o => exact ih h.2
        exact this o h
    rw [List.foldl_cons, e, foldl_can (by rw [List.append_assoc]; exact h), List.append_assoc]; rfl
/-- Byte by byte. -/
def single (b : Bool × Int) : Pc := ⟨b.1, b.2, b.2 + 1⟩
theorem jn_grow (out : List Pc) (q : Pc) : ∀ (n : Nat) (t : Int), (((List.range n).map fun (k : Nat) => single (q.a, t + (k : Int))).foldl jn (out ++ [⟨q.a, q.f, t⟩])) = out ++ [⟨q.a, q.f, t + n⟩]
  | 0, t => by simp
  | n + 1, t => by
    rw [List.range_succ, List.map_append, List.foldl_append, jn_grow out q n t]
    simp only [List.map_cons, List.map_nil, List.foldl_cons, List.foldl_nil]
    rw [jn_snoc, if_pos ⟨rfl, rfl⟩]
    simp only [single]
    congr 3
    omega
theorem singles_one {out : List Pc} {p : Pc} (hp : p.Ok) : (p.bytes.map single).foldl jn out = jn out p := by
  unfold Pc.Ok at hp
  obtain ⟨n, hn⟩ : ∃ n, (p.t - p.f).toNat = n + 1 := ⟨(p.t - p.f).toNat - 1, by omega⟩
  have e : p.bytes.map single = single (p.a, p.f) :: (List.range n).map fun (k : Nat) => single (p.a, (p.f + 1) + (k : Int)) := by
    unfold Pc.bytes
    rw [hn, List.range_succ_eq_map]
    simp only [List.map_cons, List.map_map, Int.natCast_zero, Int.add_zero]
    congr 1
    apply List.map_congr_left
    intro k _
    simp only [Function.comp]
    congr 2
    omega
  rw [e, List.foldl_cons]
  have ht : p.t = p.f + 1 + n := by omega
  rcases snoc_cases out with rfl | ⟨r, q, rfl⟩
  · have := jn_grow [] p n (p.f + 1)
    rw [jn_nil, jn_nil]
    show _ = [p]
    have hs : [single (p.a, p.f)] = ([] : List Pc) ++ [⟨p.a, p.f, p.f + 1⟩] := rfl
    rw [hs, this]
    rw [← ht]; rfl
  · by_cases h : q.a = p.a ∧ q.t = p.f
    · have := jn_grow r ⟨q.a, q.f, 0⟩ n (p.f + 1)
      have e1 : jn (r ++ [q]) (single (p.a, p.f)) = r ++ [⟨q.a, q.f, p.f + 1⟩] := by rw [jn_snoc, if_pos (show q.a = (single (p.a, p.f)).a ∧ q.t = (single (p.a, p.f)).f from h)]; rfl
      have e2 : jn (r ++ [q]) p = r ++ [⟨q.a, q.f, p.t⟩] := by rw [jn_snoc, if_pos h]
      rw [e1, e2, ← h.1, ht]
      exact this
    · have := jn_grow (r ++ [q]) p n (p.f + 1)
      have e1 : jn (r ++ [q]) (single (p.a, p.f)) = r ++ [q] ++ [⟨p.a, p.f, p.f + 1⟩] := by
        rw [jn_snoc, if_neg (show ¬ (q.a = (single (p.a, p.f)).a ∧ q.t = (single (p.a, p.f)).f) from h), List.append_assoc]; rfl
      have e2 : jn (r ++ [q]) p = r ++ [q] ++ [p] := by rw [jn_snoc, if_neg h, List.append_assoc]; rfl
      rw [e1, e2, this, ← ht]
theorem singles_all : ∀ {ps out : List Pc}, (∀ p ∈ ps, p.Ok) → ((byt ps).map single).foldl jn out = ps.foldl jn out
  | [], out, _ => by simp [byt]
  | p :: r, out, h => by
    rw [byt_cons, List.map_append, List.foldl_append, singles_one (h p (by simp)), singles_all (fun q hq => h q (by simp [hq]))]; rfl
/-- What the document's pieces come to: the same. -/
theorem pieces_of {ps : List Pc} (h : ∀ p ∈ ps, p.Ok) (hc : Can ps) : ((byt ps).map single).foldl jn [] = ps := by
  rw [singles_all h, foldl_can (by simpa using hc)]; rfl
end Go.E.Pz
