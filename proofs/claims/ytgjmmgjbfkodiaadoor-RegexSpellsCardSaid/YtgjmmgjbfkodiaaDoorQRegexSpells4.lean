/- This project's own logic, printed forms and lemmas, as far as this claim needs them (part 4). -/
import Derived.Test.YtgjmmgjbfkodiaaDoorQRegexSpells3
set_option linter.unusedVariables false
set_option linter.unusedSimpArgs false
set_option maxRecDepth 20000
namespace Go.E.Rg
open Go.H Go.E
mutual
def same : Rx → Rx → Prop
  | .mk k S ps, .mk k' S' qs => k = k' ∧ (∀ c, c < 256 → S c = S' c) ∧ sameL ps qs
def sameL : List Rx → List Rx → Prop
  | [], [] => True
  | r :: rs, q :: qs => same r q ∧ sameL rs qs
  | _, _ => False
end
theorem sameL_len : ∀ {ps qs : List Rx}, sameL ps qs → ps.length = qs.length
  | [], [], _ => rfl
  | r :: rs, q :: qs, h => by unfold sameL at h; rw [List.length_cons, List.length_cons, sameL_len h.2]
  | [], _ :: _, h => by unfold sameL at h; exact h.elim
  | _ :: _, [], h => by unfold sameL at h; exact h.elim
theorem sameL_one {r q : Rx} (h : same r q) : sameL [r] [q] := by unfold sameL; exact ⟨h, by unfold sameL; trivial⟩
theorem emptyS_no : emptyS noS = true := by unfold emptyS noS; simp
theorem same_no {k : Int} {S : Nat → Bool} {ps qs : List Rx} (hS : emptyS S = true) (h : sameL ps qs) : same (.mk k noS ps) (.mk k S qs) := by
  unfold same
  exact ⟨rfl, fun c hc => (empty_all hS c hc).symm, h⟩
theorem formL_iff {k : Int} : ∀ {ps : List Rx}, formL k ps = true ↔ ∀ a ∈ ps, a.k ≠ k ∧ form a = true
  | [] => by unfold formL; simp
  | r :: rs => by
    unfold formL
    rw [Bool.and_eq_true, Bool.and_eq_true, formL_iff (ps := rs), decide_eq_true_eq]
    simp [List.forall_mem_cons]
theorem sgK_iff {k : Int} : sgK k = true ↔ 4 ≤ k ∧ k ≤ 6 := by unfold sgK; simp
theorem form_cases {k : Int} {S : Nat → Bool} {ps : List Rx} (h : form (.mk k S ps) = true) :
    (k = 1 ∧ ps = [] ∧ emptyS S = false) ∨ (emptyS S = true ∧ (∀ a ∈ ps, a.k ≠ k ∧ form a = true) ∧ (((k = 2 ∨ k = 3) ∧ 2 ≤ ps.length) ∨ (4 ≤ k ∧ k ≤ 6 ∧ ∃ x, ps = [x] ∧ sgK x.k = false))) := by
  unfold form at h
  split at h
  · rename_i hk
    rw [Bool.and_eq_true] at h
    exact .inl ⟨hk, by cases ps <;> simp_all, by simpa using h.2⟩
  · split at h
    · cases h
    · rename_i hS
      have hS : emptyS S = true := by simpa using hS
      refine .inr ⟨hS, ?_⟩
      split at h
      · rename_i hk
        rw [Bool.and_eq_true, decide_eq_true_eq, formL_iff] at h
        exact ⟨h.2, .inl ⟨hk, h.1⟩⟩
      · split at h
        · rename_i hk
          rw [Bool.and_eq_true, Bool.and_eq_true, decide_eq_true_eq, formL_iff] at h
          refine ⟨h.2, .inr ⟨(sgK_iff.mp hk).1, (sgK_iff.mp hk).2, ?_⟩⟩
          obtain ⟨x, rfl⟩ := List.length_eq_one_iff.mp h.1.1
          exact ⟨x, rfl, by simpa using h.1.2⟩
        · cases h
/-- Bytes that begin no part. -/
def badH (c : UInt8) : Prop := c = 42 ∨ c = 43 ∨ c = 63 ∨ c = 124 ∨ c = 41
def good (s : List UInt8) : Prop := ∃ c t, s = c :: t ∧ ¬ badH c
theorem sgT_good {c : Nat} (hc : c < 256) : ∃ x t, sgT c = x :: t ∧ ¬ badH x ∧ x ≠ 40 := by
  unfold sgT
  split
  · exact ⟨_, _, rfl, by unfold badH; decide, by decide⟩
  · split
    · exact ⟨_, _, rfl, by unfold badH; decide, by decide⟩
    · rename_i h
      refine ⟨_, _, rfl, ?_, ?_⟩
      · have key : ∀ k : Nat, k < 256 → isSp k = true → UInt8.ofNat c ≠ UInt8.ofNat k := by
          intro k hk hs e
          have := congrArg UInt8.toNat e
          rw [toNat_of hc, toNat_of hk] at this
          subst this; exact h hs
        rintro (e | e | e | e | e)
        · exact key 42 (by decide) (by decide) e
        · exact key 43 (by decide) (by decide) e
        · exact key 63 (by decide) (by decide) e
        · exact key 124 (by decide) (by decide) e
        · exact key 41 (by decide) (by decide) e
      · intro e
        have := congrArg UInt8.toNat e
        rw [toNat_of hc] at this
        have e2 : c = 40 := this
        subst e2; exact h (by decide)
theorem shW_good {f : Nat → Bool} (hf : emptyS f = false) : ∃ x t, shW f = x :: t ∧ ¬ badH x ∧ x ≠ 40 := by
  have hb : ∀ rs, ∃ x t, brk rs = x :: t ∧ ¬ badH x ∧ x ≠ 40 := fun rs => ⟨91, _, rfl, by unfold badH; decide, by decide⟩
  have hok := run_ok f 256
  have hany := fun c => run_any f c 256
  unfold shW
  split
  · rename_i h0
    exfalso
    obtain ⟨t, ht, hft, _⟩ := empty_ex (S := f) (by rw [hf]; decide)
    have h1 := hany t
    rw [List.length_eq_zero_iff.mp h0] at h1
    simp [hft] at h1
    omega
  · split
    · exact ⟨46, [], rfl, by unfold badH; decide, by decide⟩
    · split
      · rename_i a b hr
        have hab := hok (a, b) (by rw [hr]; simp)
        split
        · exact sgT_good (by have := hab.1; have := hab.2; simp only at *; omega)
        · exact hb _
      · exact hb _
theorem atom_set {alt : Nat → List UInt8 → Res} {d : Nat} {f : Nat → Bool} (hf : emptyS f = false) (more : List UInt8) : ∃ f', (∀ c, c < 256 → f' c = f c) ∧ atomF alt d (shW f ++ more) = .ok (.mk 1 f' [], more) := by
  obtain ⟨f', h1, h2⟩ := cls_shW (f := f) (by rw [hf]; decide) more
  obtain ⟨x, t, h3, _, h4⟩ := shW_good hf
  refine ⟨f', h2, ?_⟩
  have e : ∀ s, s = shW f ++ more → atomF alt d s = .ok (.mk 1 f' [], more) := by
    intro s hs
    unfold atomF
    split
    · rename_i s' _
      rw [h3] at hs
      cases hs
      exact absurd rfl h4
    · rw [hs, h1]
      simp
  exact e _ rfl
theorem atom_brk {alt : Nat → List UInt8 → Res} {d : Nat} (hd : d < 13) {s more : List UInt8} {x : Rx} (h : alt (d + 1) (s ++ 41 :: more) = .ok (x, 41 :: more)) : atomF alt d (40 :: s ++ [41] ++ more) = .ok (x, more) := by
  have e : (40 :: s ++ [41] ++ more : List UInt8) = 40 :: (s ++ 41 :: more) := by simp
  rw [e]
  unfold atomF
  simp only
  rw [if_neg (by omega), h]
  rfl
def notSg (s : List UInt8) : Prop := ∀ c t, s = c :: t → sgI c = none
theorem rep_plain {alt : Nat → List UInt8 → Res} {d : Nat} {s more : List UInt8} {x : Rx} (h : atomF alt d s = .ok (x, more)) (hn : notSg more) : repF alt d s = .ok (x, more) := by
  unfold repF
  rw [h]
  cases more with
  | nil => rfl
  | cons c t => simp only; rw [hn c t rfl]
theorem rep_sign {alt : Nat → List UInt8 → Res} {d : Nat} {s more : List UInt8} {x : Rx} {c : UInt8} {k : Int} (h : atomF alt d s = .ok (x, c :: more)) (hn : sgI c = some k) : repF alt d s = .ok (.mk k noS [x], more) := by
  unfold repF
  rw [h]
  simp only
  rw [hn]
/-- Where a part ends. -/
def stopC (s : List UInt8) : Prop := ∀ c t, s = c :: t → c = 124 ∨ c = 41
def stopA (s : List UInt8) : Prop := ∀ c t, s = c :: t → c = 41
theorem stopA.c {s : List UInt8} (h : stopA s) : stopC s := fun c t e => .inr (h c t e)
theorem stopC.n {s : List UInt8} (h : stopC s) : notSg s := fun c t e => by rcases h c t e with rfl | rfl <;> rfl
theorem good.n {s : List UInt8} (h : good s) : notSg s := by
  rintro c t rfl
  obtain ⟨c', t', e, hb⟩ := h
  cases e
  unfold sgI
  unfold badH at hb
  rw [if_neg (fun e => hb (.inl e)), if_neg (fun e => hb (.inr (.inl e))), if_neg (fun e => hb (.inr (.inr (.inl e))))]
theorem good.app {s more : List UInt8} (h : good s) : good (s ++ more) := by
  obtain ⟨c, t, rfl, hb⟩ := h
  exact ⟨c, t ++ more, rfl, hb⟩
/-- Parts side by side, each of which is read as it was. -/
theorem catL_items {alt : Nat → List UInt8 → Res} {d : Nat} {more : List UInt8} (hm : stopC more) : ∀ (its : List (List UInt8 × Rx)) (l : List Rx) (n : Nat), its.length < n → (∀ x ∈ its, good x.1 ∧ ∀ m, notSg m → ∃ r', same r' x.2 ∧ repF alt d (x.1 ++ m) = .ok (r', m)) →
    ∃ l', sameL l' (its.map (·.2)) ∧ catL alt d n l ((its.map (·.1)).flatten ++ more) = .ok (l ++ l', more)
  | [], l, n + 1, _, _ => by
    refine ⟨[], by unfold sameL; trivial, ?_⟩
    simp only [List.map_nil, List.flatten_nil, List.nil_append, List.append_nil]
    unfold catL
    cases more with
    | nil => rfl
    | cons c t => simp only; rw [if_pos (hm c t rfl)]
  | x :: its, l, n + 1, hn, h => by
    obtain ⟨hg, hx⟩ := h x (by simp)
    have hrest : notSg ((its.map (·.1)).flatten ++ more) := by
      cases its with
      | nil => simpa using hm.n
      | cons y its =>
        have := (h y (by simp)).1
        rw [List.map_cons, List.flatten_cons, List.append_assoc]
        exact this.app.n
    obtain ⟨r', h1, h2⟩ := hx _ hrest
    obtain ⟨l', h3, h4⟩ := catL_items hm its (l ++ [r']) n (by simp at hn; omega) (fun y hy => h y (by simp [hy]))
    refine ⟨r' :: l', by rw [List.map_cons]; unfold sameL; exact ⟨h1, h3⟩, ?_⟩
    rw [List.map_cons, List.flatten_cons, List.append_assoc]
    obtain ⟨c, t, e, hb⟩ := hg
    rw [e] at h2 ⊢
    unfold catL
    simp only [List.cons_append] at h2 ⊢
    unfold badH at hb
    rw [if_neg (fun e => hb (by rcases e with e | e; exact .inr (.inr (.inr (.inl e))); exact .inr (.inr (.inr (.inr e)))))]
    rw [h2]
    simp only
    rw [h4]
    simp
theorem altL_items {alt : Nat → List UInt8 → Res} {d : Nat} {more : List UInt8} (hm : stopA more) : ∀ (its : List (List UInt8 × Rx)) (l : List Rx) (n : Nat), its.length < n → (∀ x ∈ its, ∀ m, stopC m → ∃ r', same r' x.2 ∧ catF alt d (x.1 ++ m) = .ok (r', m)) →
    ∃ l', sameL l' (its.map (·.2)) ∧ altL alt d n l ((its.map fun x => 124 :: x.1).flatten ++ more) = .ok (l ++ l', more)
  | [], l, n + 1, _, _ => by
    refine ⟨[], by unfold sameL; trivial, ?_⟩
    simp only [List.map_nil, List.flatten_nil, List.nil_append, List.append_nil]
    unfold altL
    cases more with
    | nil => rfl
    | cons c t =>
      have := hm c t rfl
      subst this
      rfl
  | x :: its, l, n + 1, hn, h => by
    have hx := h x (by simp)
    have hrest : stopC ((its.map fun x => 124 :: x.1).flatten ++ more) := by
      cases its with
      | nil => simpa using hm.c
      | cons y its =>
        rw [List.map_cons, List.flatten_cons]
        intro c t e
        simp at e
        exact .inl e.1.symm
    obtain ⟨r', h1, h2⟩ := hx _ hrest
    obtain ⟨l', h3, h4⟩ := altL_items hm its (l ++ [r']) n (by simp at hn; omega) (fun y hy => h y (by simp [hy]))
    refine ⟨r' :: l', by rw [List.map_cons]; unfold sameL; exact ⟨h1, h3⟩, ?_⟩
    rw [List.map_cons, List.flatten_cons, List.append_assoc, List.cons_append]
    unfold altL
    simp only
    rw [h2]
    simp only
    rw [h4]
    simp
/-- How a part is shown within what binds so much. -/
def wt (least : Int) (a : Rx) : List UInt8 := if rank a.k < least then 40 :: shw a ++ [41] else shw a
theorem shwL_map (least : Int) : ∀ ps : List Rx, shwL least ps = ps.map (wt least)
  | [] => by unfold shwL; rfl
  | r :: rs => by unfold shwL; rw [shwL_map least rs]; rfl
theorem joinBar_flat : ∀ (x : List UInt8) (l : List (List UInt8)), joinBar (x :: l) = x ++ (l.map fun y => 124 :: y).flatten
  | x, [] => by simp [joinBar]
  | x, y :: r => by
    unfold joinBar
    rw [joinBar_flat y r, List.map_cons, List.flatten_cons]; simp
theorem wt_good {least : Int} {a : Rx} (h : good (shw a)) : good (wt least a) := by
  unfold wt
  split
  · exact ⟨40, _, rfl, by unfold badH; decide⟩
  · exact h
theorem shw_good (r : Rx) : form r = true → good (shw r) := by
  refine Rx.ind (C := fun r => form r = true → good (shw r)) ?_ r
  intro k S ps ih hf
  have hc := form_cases hf
  have first : ∀ least, ps ≠ [] → (∀ a ∈ ps, form a = true) → ∃ a qs, ps = a :: qs ∧ good (wt least a) := by
    intro least hne hall
    cases ps with
    | nil => exact absurd rfl hne
    | cons a qs => exact ⟨a, qs, rfl, wt_good (ih a (by simp) (hall a (by simp)))⟩
  unfold shw
  rcases hc with ⟨hk, rfl, hS⟩ | ⟨hS, hall, hsh⟩
  · rw [if_pos hk]
    obtain ⟨x, t, e, h1, _⟩ := shW_good hS
    exact ⟨x, t, e, h1⟩
  · have hne : ps ≠ [] := by
      rcases hsh with ⟨_, h2⟩ | ⟨_, _, x, rfl, _⟩
      · intro e; rw [e] at h2; simp at h2
      · simp
    have hk1 : k ≠ 1 := by rcases hsh with ⟨h1 | h1, _⟩ | ⟨h1, _⟩ <;> omega
    rw [if_neg hk1]
    obtain ⟨a, qs, rfl, hg⟩ := first (rank k + 1) hne (fun a ha => (hall a ha).2)
    rw [shwL_map, List.map_cons]
    split
    · rw [joinBar_flat]; exact hg.app
    · split
      · rw [List.flatten_cons, List.append_assoc]; exact hg.app
      · rw [List.flatten_cons]; exact hg.app
end Go.E.Rg
set_option linter.unusedVariables false
set_option linter.unusedSimpArgs false
set_option maxRecDepth 20000
namespace Go.E.Rg
open Go.H Go.E
theorem depthL_le : ∀ {ps : List Rx} {a : Rx}, a ∈ ps → depth a ≤ depthL ps
  | r :: rs, a, h => by
    unfold depthL
    rcases List.mem_cons.mp h with rfl | h
    · omega
    · have := depthL_le h; omega
theorem depth_mk (k : Int) (S : Nat → Bool) (ps : List Rx) : depth (.mk k S ps) = depthL ps + 1 := by conv => lhs; unfold depth
theorem depth_sub {r a : Rx} (h : a ∈ r.ps) : depth a + 1 ≤ depth r := by
  obtain ⟨k, S, ps⟩ := r
  rw [depth_mk]
  have := depthL_le (show a ∈ ps from h); omega
theorem depth_pos (r : Rx) : 1 ≤ depth r := by cases r; unfold depth; omega
def BK (r : Rx) : Prop := ∀ n d more, d + depth r ≤ 13 → 14 ≤ n + d → stopA more → ∃ r', same r' r ∧ pAlt n d (shw r ++ more) = .ok (r', more)
theorem brk_of {x : Rx} (hx : BK x) {n d : Nat} (h1 : d + 1 + depth x ≤ 13) (h2 : 14 ≤ n + 1 + d) (m : List UInt8) : ∃ x', same x' x ∧ atomF (pAlt n) d (40 :: shw x ++ [41] ++ m) = .ok (x', m) := by
  obtain ⟨x', h3, h4⟩ := hx n (d + 1) (41 :: m) (by omega) (by omega) (fun c t e => by cases e; rfl)
  have := depth_pos x
  exact ⟨x', h3, atom_brk (by omega) h4⟩
theorem sgI_sgB {k : Int} (h1 : 4 ≤ k) (h2 : k ≤ 6) : sgI (sgB k) = some k := by
  rcases (by omega : k = 4 ∨ k = 5 ∨ k = 6) with rfl | rfl | rfl <;> rfl
theorem shw_sign {k : Int} {S : Nat → Bool} {x : Rx} (h1 : 4 ≤ k) (h2 : k ≤ 6) : shw (.mk k S [x]) = wt 3 x ++ [sgB k] := by
  unfold shw
  rw [if_neg (by omega), if_neg (by omega), if_pos (sgK_iff.mpr ⟨h1, h2⟩)]
  have : rank k = 2 := by unfold rank; rw [if_neg (by omega), if_neg (by omega), if_neg (by omega)]
  rw [this, shwL_map]; simp
theorem rep_of {x : Rx} (hf : form x = true) (hk2 : x.k ≠ 2) (hk3 : x.k ≠ 3) (hb : ∀ y ∈ x.ps, BK y) {n d : Nat} (h1 : d + depth x ≤ 13) (h2 : 14 ≤ n + 1 + d) {m : List UInt8} (hm : notSg m) : ∃ x', same x' x ∧ repF (pAlt n) d (shw x ++ m) = .ok (x', m) := by
  obtain ⟨k, S, ps⟩ := x
  unfold Rx.k at hk2 hk3
  unfold Rx.ps at hb
  simp only at hk2 hk3 hb
  rcases form_cases hf with ⟨hk, rfl, hS⟩ | ⟨hS, hall, hsh⟩
  · obtain ⟨f', h3, h4⟩ := atom_set (alt := pAlt n) (d := d) hS m
    refine ⟨.mk 1 f' [], by unfold same; exact ⟨hk.symm, h3, by unfold sameL; trivial⟩, ?_⟩
    unfold shw
    rw [if_pos hk]
    exact rep_plain h4 hm
  · rcases hsh with ⟨h3 | h3, _⟩ | ⟨h3, h4, y, rfl, hy⟩
    · exact absurd h3 hk2
    · exact absurd h3 hk3
    · have hyf := (hall y (by simp)).2
      have hd : depth y + 1 ≤ depth (Rx.mk k S [y]) := depth_sub (show y ∈ (Rx.mk k S [y]).ps from List.mem_singleton.mpr rfl)
      rw [shw_sign h3 h4, List.append_assoc]
      have key : ∃ y', same y' y ∧ atomF (pAlt n) d (wt 3 y ++ ([sgB k] ++ m)) = .ok (y', sgB k :: m) := by
        unfold wt
        split
        · exact brk_of (hb y (by simp)) (by omega) h2 (sgB k :: m)
        · rename_i hr
          obtain ⟨k', S', ps'⟩ := y
          have hk1 : k' = 1 := by
            unfold rank Rx.k at hr
            simp only at hr
            split at hr
            · omega
            · split at hr
              · omega
              · split at hr
                · assumption
                · omega
          rcases form_cases hyf with ⟨_, rfl, hS'⟩ | ⟨_, _, ⟨h5 | h5, _⟩ | ⟨h5, _⟩⟩
          · obtain ⟨f', h6, h7⟩ := atom_set (alt := pAlt n) (d := d) hS' (sgB k :: m)
            refine ⟨.mk 1 f' [], by unfold same; exact ⟨hk1.symm, h6, by unfold sameL; trivial⟩, ?_⟩
            unfold shw
            rw [if_pos hk1]
            exact h7
          · omega
          · omega
          · omega
      obtain ⟨y', h5, h6⟩ := key
      exact ⟨.mk k noS [y'], same_no hS (sameL_one h5), rep_sign h6 (sgI_sgB h3 h4)⟩
theorem rank_lt2 {k : Int} (h : rank k < 2) : k = 2 ∨ k = 3 := by
  unfold rank at h
  split at h
  · exact .inr ‹_›
  · split at h
    · exact .inl ‹_›
    · split at h <;> omega
theorem fuel_ge : ∀ {its : List (List UInt8 × Rx)}, (∀ x ∈ its, good x.1) → its.length ≤ ((its.map (·.1)).flatten).length
  | [], _ => by simp
  | x :: its, h => by
    have ih := fuel_ge (its := its) (fun y hy => h y (by simp [hy]))
    obtain ⟨c, t, e, _⟩ := h x (by simp)
    rw [List.map_cons, List.flatten_cons, List.length_append, e]
    simp; simp at ih; omega
theorem cat_of {x : Rx} (hf : form x = true) (hk3 : x.k ≠ 3) (hb : ∀ y ∈ x.ps, BK y ∧ ∀ z ∈ y.ps, BK z) {n d : Nat} (h1 : d + depth x ≤ 13) (h2 : 14 ≤ n + 1 + d) {m : List UInt8} (hm : stopC m) : ∃ x', same x' x ∧ catF (pAlt n) d (shw x ++ m) = .ok (x', m) := by
  by_cases hk2 : x.k = 2
  · obtain ⟨k, S, ps⟩ := x
    have hk2 : k = 2 := hk2
    subst hk2
    unfold Rx.ps at hb
    simp only at hb
    rcases form_cases hf with ⟨hk, _⟩ | ⟨hS, hall, ⟨_, hl⟩ | ⟨h3, _⟩⟩
    · omega
    · have hd : ∀ y ∈ ps, d + 1 + depth y ≤ 13 := by
        intro y hy
        have := depthL_le hy
        unfold depth at h1
        omega
      have item : ∀ y ∈ ps, ∀ m', notSg m' → ∃ y', same y' y ∧ repF (pAlt n) d (wt 2 y ++ m') = .ok (y', m') := by
        intro y hy m' hm'
        unfold wt
        have hyy := hall y hy
        split
        · obtain ⟨y', h3, h4⟩ := brk_of (hb y hy).1 (hd y hy) h2 m'
          exact ⟨y', h3, rep_plain h4 hm'⟩
        · rename_i hr
          refine rep_of hyy.2 hyy.1 ?_ (hb y hy).2 (by have := hd y hy; omega) h2 hm'
          intro e
          rw [e] at hr
          exact hr (by decide)
      have gd : ∀ y ∈ ps, good (wt 2 y) := fun y hy => wt_good (shw_good y (hall y hy).2)
      have hshow : shw (.mk 2 S ps) = (ps.map (wt 2)).flatten := by
        unfold shw
        rw [if_neg (by decide), if_neg (by decide), if_neg (by decide), show rank 2 + 1 = 2 from rfl, shwL_map]
      rw [hshow]
      match ps, hl, hall, hd, item, gd with
      | p :: qs, hl, hall, hd, item, gd =>
        rw [List.map_cons, List.flatten_cons, List.append_assoc]
        have hrest : notSg ((qs.map (wt 2)).flatten ++ m) := by
          cases qs with
          | nil => simp at hl
          | cons q qs =>
            rw [List.map_cons, List.flatten_cons, List.append_assoc]
            exact (gd q (by simp)).app.n
        obtain ⟨p', h3, h4⟩ := item p (by simp) _ hrest
        have hmap1 : (qs.map fun q => (wt 2 q, q)).map (·.1) = qs.map (wt 2) := by rw [List.map_map]; rfl
        have hmap2 : (qs.map fun q => (wt 2 q, q)).map (·.2) = qs := by rw [List.map_map]; exact List.map_id _
        have hits : ∀ x ∈ qs.map fun q => (wt 2 q, q), good x.1 ∧ ∀ m, notSg m → ∃ r', same r' x.2 ∧ repF (pAlt n) d (x.1 ++ m) = .ok (r', m) := by
          intro x hx
          rw [List.mem_map] at hx
          obtain ⟨q, hq, rfl⟩ := hx
          exact ⟨gd q (by simp [hq]), fun m' hm' => item q (by simp [hq]) m' hm'⟩
        have hfu := fuel_ge (fun x hx => (hits x hx).1)
        obtain ⟨l', h5, h6⟩ := catL_items (alt := pAlt n) (d := d) hm (qs.map fun q => (wt 2 q, q)) [p'] (((qs.map (wt 2)).flatten ++ m).length + 1) (by rw [hmap1] at hfu; rw [List.length_append]; omega) hits
        rw [hmap1] at h6
        rw [hmap2] at h5
        refine ⟨.mk 2 noS (p' :: l'), same_no hS (by unfold sameL; exact ⟨h3, h5⟩), ?_⟩
        unfold catF
        rw [h4]
        simp only
        rw [h6]
        have hl' : l'.length = qs.length := sameL_len h5
        cases l' with
        | nil => simp at hl hl'; omega
        | cons y ys => rfl
    · omega
  · obtain ⟨x', h3, h4⟩ := rep_of hf hk2 hk3 (fun y hy => (hb y hy).1) h1 h2 hm.n
    refine ⟨x', h3, ?_⟩
    unfold catF
    rw [h4]
    simp only
    obtain ⟨l', h5, h6⟩ := catL_items (alt := pAlt n) (d := d) hm [] [x'] (m.length + 1) (by simp) (fun x hx => by cases hx)
    simp only [List.map_nil, List.flatten_nil, List.nil_append] at h6 h5
    have : l' = [] := by cases l' with
      | nil => rfl
      | cons y ys => unfold sameL at h5; exact h5.elim
    subst this
    rw [h6]; rfl
theorem bars_len : ∀ (l : List Rx), l.length ≤ ((l.map ((fun y => 124 :: y) ∘ wt 1)).flatten).length
  | [] => by simp
  | q :: qs => by
    have ih := bars_len qs
    rw [List.map_cons, List.flatten_cons, List.length_append]
    have : 1 ≤ (((fun y => 124 :: y) ∘ wt 1) q).length := by simp
    rw [List.length_cons]; omega
theorem back : ∀ (N : Nat) (r : Rx), depth r ≤ N → form r = true → BK r
  | 0, r, h, _ => by have := depth_pos r; omega
  | N + 1, r, hN, hf => by
    intro n d more h1 h2 hm
    have hp := depth_pos r
    obtain ⟨n', rfl⟩ : ∃ n', n = n' + 1 := ⟨n - 1, by omega⟩
    have sub : ∀ y ∈ r.ps, form y = true ∧ depth y + 1 ≤ depth r := by
      obtain ⟨k, S, ps⟩ := r
      intro y hy
      have hy : y ∈ ps := hy
      refine ⟨?_, depth_sub (show y ∈ (Rx.mk k S ps).ps from hy)⟩
      rcases form_cases hf with ⟨_, rfl, _⟩ | ⟨_, hall, _⟩
      · cases hy
      · exact (hall y hy).2
    have hb : ∀ y ∈ r.ps, BK y := fun y hy => back N y (by have := (sub y hy).2; omega) (sub y hy).1
    have hb2 : ∀ y ∈ r.ps, ∀ z ∈ y.ps, BK z := by
      intro y hy z hz
      obtain ⟨k, S, ps⟩ := y
      have hz : z ∈ ps := hz
      have h3 := depth_sub (show z ∈ (Rx.mk k S ps).ps from hz)
      have h4 := (sub _ hy).2
      have hff : form z = true := by
        rcases form_cases (sub _ hy).1 with ⟨_, rfl, _⟩ | ⟨_, hall, _⟩
        · cases hz
        · exact (hall z hz).2
      refine back N z ?_ hff
      omega
    show ∃ r', same r' r ∧ altF (pAlt n') d (shw r ++ more) = .ok (r', more)
    by_cases hk3 : r.k = 3
    · obtain ⟨k, S, ps⟩ := r
      have hk3 : k = 3 := hk3
      subst hk3
      have hb : ∀ y ∈ ps, BK y := hb
      have hb2 : ∀ y ∈ ps, ∀ z ∈ y.ps, BK z := hb2
      have sub : ∀ y ∈ ps, form y = true ∧ depth y + 1 ≤ depth (.mk 3 S ps) := sub
      rcases form_cases hf with ⟨hk, _⟩ | ⟨hS, hall, ⟨_, hl⟩ | ⟨h3, _⟩⟩
      · omega
      · have item : ∀ y ∈ ps, ∀ m', stopC m' → ∃ y', same y' y ∧ catF (pAlt n') d (wt 1 y ++ m') = .ok (y', m') := by
          intro y hy m' hm'
          have hyy := hall y hy
          have hw : wt 1 y = shw y := by
            unfold wt
            rw [if_neg]
            intro hr
            rcases rank_lt2 (k := y.k) (by omega) with e | e
            · rw [e] at hr; exact absurd hr (by decide)
            · exact hyy.1 e
          rw [hw]
          exact cat_of hyy.2 hyy.1 (fun z hz => ⟨hb2 y hy z hz, by
            intro u hu
            obtain ⟨k2, S2, ps2⟩ := z
            have hu : u ∈ ps2 := hu
            have h5 := depthL_le hu
            obtain ⟨k1, S1, ps1⟩ := y
            have hz : Rx.mk k2 S2 ps2 ∈ ps1 := hz
            have h6 := depthL_le hz
            have h7 := (sub _ hy).2
            have hfz : form (.mk k2 S2 ps2) = true := by
              rcases form_cases hyy.2 with ⟨_, rfl, _⟩ | ⟨_, hall', _⟩
              · cases hz
              · exact (hall' _ hz).2
            have hfu : form u = true := by
              rcases form_cases hfz with ⟨_, rfl, _⟩ | ⟨_, hall', _⟩
              · cases hu
              · exact (hall' _ hu).2
            refine back N u ?_ hfu
            have h8 : depth (Rx.mk k2 S2 ps2) = depthL ps2 + 1 := by conv => lhs; unfold depth
            have h9 : depth (Rx.mk k1 S1 ps1) = depthL ps1 + 1 := by conv => lhs; unfold depth
            omega⟩) (by have := (sub y hy).2; omega) (by omega) hm'
        have hshow : shw (.mk 3 S ps) = joinBar (ps.map (wt 1)) := by
          unfold shw
          rw [if_neg (by decide), if_pos rfl, show rank 3 + 1 = 1 from rfl, shwL_map]
        rw [hshow]
        match ps, hl, item with
        | p :: qs, hl, item =>
          rw [List.map_cons, joinBar_flat, List.append_assoc, List.map_map]
          have hrest : stopC ((qs.map ((fun y => 124 :: y) ∘ wt 1)).flatten ++ more) := by
            cases qs with
            | nil => simp at hl
            | cons q qs =>
              rw [List.map_cons, List.flatten_cons]
              intro c t e
              simp at e
              exact .inl e.1.symm
          obtain ⟨p', h3, h4⟩ := item p (by simp) _ hrest
          have hmap2 : (qs.map fun q => (wt 1 q, q)).map (·.2) = qs := by rw [List.map_map]; exact List.map_id _
          have hmap1 : ((qs.map fun q => (wt 1 q, q)).map fun x => 124 :: x.1) = qs.map ((fun y => 124 :: y) ∘ wt 1) := by rw [List.map_map]; rfl
          have hlen : qs.length ≤ ((qs.map ((fun y => 124 :: y) ∘ wt 1)).flatten).length := by
            exact bars_len qs
          obtain ⟨l', h5, h6⟩ := altL_items (alt := pAlt n') (d := d) hm (qs.map fun q => (wt 1 q, q)) [p'] (((qs.map ((fun y => 124 :: y) ∘ wt 1)).flatten ++ more).length + 1) (by rw [List.length_append, List.length_map]; exact Nat.lt_succ_of_le (Nat.le_trans hlen (Nat.le_add_right _ _))) (by
            intro x hx
            rw [List.mem_map] at hx
            obtain ⟨q, hq, rfl⟩ := hx
            exact fun m' hm' => item q (by simp [hq]) m' hm')
          rw [hmap1] at h6
          rw [hmap2] at h5
          refine ⟨.mk 3 noS (p' :: l'), same_no hS (by unfold sameL; exact ⟨h3, h5⟩), ?_⟩
          unfold altF
          rw [h4]
          simp only
          rw [h6]
          have hl' : l'.length = qs.length := sameL_len h5
          cases l' with
          | nil => simp at hl hl'; omega
          | cons y ys => rfl
      · omega
    · obtain ⟨x', h3, h4⟩ := cat_of hf hk3 (fun y hy => ⟨hb y hy, hb2 y hy⟩) h1 (by omega) hm.c
      refine ⟨x', h3, ?_⟩
      unfold altF
      rw [h4]
      simp only
      obtain ⟨l', h5, h6⟩ := altL_items (alt := pAlt n') (d := d) hm [] [x'] (more.length + 1) (by simp) (fun x hx => by cases hx)
      simp only [List.map_nil, List.flatten_nil, List.nil_append] at h6 h5
      have : l' = [] := by cases l' with
        | nil => rfl
        | cons y ys => unfold sameL at h5; exact h5.elim
      subst this
      rw [h6]; rfl
end Go.E.Rg
set_option linter.unusedVariables false
set_option linter.unusedSimpArgs false
set_option maxRecDepth 20000
namespace Go.E.Rg
open Go.H Go.E
inductive Star (R : Nat → Nat → Prop) : Nat → Nat → Prop where
  | refl (i : Nat) : Star R i i
  | step {i x j : Nat} : R i x → Star R x j → Star R i j
theorem Star.one {R : Nat → Nat → Prop} {i j : Nat} (h : R i j) : Star R i j := .step h (.refl j)
theorem Star.trans {R : Nat → Nat → Prop} {i x j : Nat} (h : Star R i x) (k : Star R x j) : Star R i j := by
  induction h with
  | refl => exact k
  | step a _ ih => exact .step a (ih k)
theorem Star.tail {R : Nat → Nat → Prop} {i x j : Nat} (h : Star R i x) (k : R x j) : Star R i j := h.trans (.one k)
mutual
def M (w : List UInt8) : Rx → Nat → Nat → Prop
  | .mk k S ps, i, j =>
    if k = 1 then j = i + 1 ∧ ∃ c : UInt8, w[i]? = some c ∧ S c.toNat = true
    else if k = 2 then MC w ps i j
    else if k = 3 then MA w ps i j
    else if k = 6 then i = j ∨ M1 w ps i j
    else if k = 4 then Star (M1 w ps) i j
    else ∃ x, M1 w ps i x ∧ Star (M1 w ps) x j
def MC (w : List UInt8) : List Rx → Nat → Nat → Prop
  | [], i, j => i = j
  | r :: rs, i, j => ∃ x, M w r i x ∧ MC w rs x j
def MA (w : List UInt8) : List Rx → Nat → Nat → Prop
  | [], i, j => False
  | r :: rs, i, j => M w r i j ∨ MA w rs i j
def M1 (w : List UInt8) : List Rx → Nat → Nat → Prop
  | [], i, j => i = j
  | r :: _, i, j => M w r i j
end
/-- Matches go to the right, and stay within. -/
theorem Star.le {R : Nat → Nat → Prop} {n : Nat} (h : ∀ i j, R i j → i ≤ j ∧ (i ≤ n → j ≤ n)) {i j : Nat} (k : Star R i j) : i ≤ j ∧ (i ≤ n → j ≤ n) := by
  induction k with
  | refl => exact ⟨Nat.le_refl _, id⟩
  | step a _ ih => have := h _ _ a; exact ⟨by omega, fun hi => ih.2 (this.2 hi)⟩
def has (l : List Bool) (j : Nat) : Prop := l.getD j false = true
theorem has_iff {l : List Bool} {j : Nat} : has l j ↔ l[j]? = some true := by
  unfold has
  rw [List.getD_eq_getElem?_getD]
  cases h : l[j]? with
  | none => simp
  | some b => simp
theorem has_lt {l : List Bool} {j : Nat} (h : has l j) : j < l.length := by
  rw [has_iff] at h
  rcases Nat.lt_or_ge j l.length with h' | h'
  · exact h'
  · rw [List.getElem?_eq_none h'] at h; cases h
theorem has_rep {n j : Nat} : ¬ has (List.replicate n false) j := by
  rw [has_iff, List.getElem?_replicate]
  split <;> simp
theorem orL_len {a b : List Bool} (h : a.length = b.length) : (orL a b).length = a.length := by unfold orL; simp; omega
theorem orL_rep {n : Nat} {a : List Bool} (h : a.length = n) : orL (List.replicate n false) a = a := by
  subst h
  unfold orL
  induction a with
  | nil => rfl
  | cons x a ih => rw [List.length_cons, List.replicate_succ, List.zipWith_cons_cons, ih]; simp
theorem has_or {a b : List Bool} (h : a.length = b.length) {j : Nat} : has (orL a b) j ↔ has a j ∨ has b j := by
  rw [has_iff, has_iff, has_iff]
  unfold orL
  rw [List.getElem?_zipWith]
  rcases Nat.lt_or_ge j a.length with hj | hj
  · rw [List.getElem?_eq_getElem hj, List.getElem?_eq_getElem (h ▸ hj)]; simp
  · rw [List.getElem?_eq_none hj, List.getElem?_eq_none (h ▸ hj)]; simp
theorem new_iff {a b : List Bool} (h : a.length = b.length) : newL a b = true ↔ ∃ j, has b j ∧ ¬ has a j := by
  unfold newL
  rw [List.any_eq_true]
  constructor
  · rintro ⟨x, hx, he⟩
    obtain ⟨j, hj, rfl⟩ := List.getElem_of_mem hx
    have hj' : j < a.length := by simp at hj; omega
    have hb' : j < b.length := by omega
    simp only [List.getElem_zipWith, id, Bool.and_eq_true, Bool.not_eq_true'] at he
    refine ⟨j, has_iff.mpr (by rw [List.getElem?_eq_getElem hb', he.1]), fun hh => ?_⟩
    rw [has_iff, List.getElem?_eq_getElem hj', he.2] at hh
    cases hh
  · rintro ⟨j, h1, h2⟩
    have hb' := has_lt h1
    have hj' : j < a.length := by omega
    refine ⟨(List.zipWith (fun x y => y && !x) a b)[j]'(by simp; omega), List.getElem_mem _, ?_⟩
    rw [has_iff, List.getElem?_eq_getElem hb'] at h1
    rw [has_iff, List.getElem?_eq_getElem hj'] at h2
    simp at h1 h2
    simp [h1, h2]
/-- How many places are still free. -/
def free (l : List Bool) : Nat := l.countP fun b => !b
theorem free_le (l : List Bool) : free l ≤ l.length := List.countP_le_length
theorem free_or : ∀ {a b : List Bool}, a.length = b.length → free (orL a b) ≤ free a ∧ (newL a b = true → free (orL a b) < free a)
  | [], [], _ => by simp [orL, free, newL]
  | x :: a, y :: b, h => by
    have ih := free_or (a := a) (b := b) (by simpa using h)
    unfold orL free newL at *
    rw [List.zipWith_cons_cons, List.zipWith_cons_cons, List.countP_cons, List.countP_cons, List.any_cons]
    obtain ⟨i1, i2⟩ := ih
    cases x <;> cases y
    · refine ⟨by simp; omega, fun h => ?_⟩
      simp at h ⊢
      have := i2 (by simpa using h); omega
    · refine ⟨by simp; omega, fun h => by simp; omega⟩
    · refine ⟨by simp; omega, fun h => ?_⟩
      simp at h ⊢
      have := i2 (by simpa using h); omega
    · refine ⟨by simp; omega, fun h => ?_⟩
      simp at h ⊢
      have := i2 (by simpa using h); omega
theorem free_zero {a b : List Bool} (h : a.length = b.length) (h0 : free a = 0) : newL a b = false ∧ orL a b = a := by
  have hall : ∀ x ∈ a, x = true := by
    intro x hx
    unfold free at h0
    rw [List.countP_eq_zero] at h0
    have := h0 x hx
    simpa using this
  constructor
  · cases hn : newL a b with
    | false => rfl
    | true => exact absurd ((free_or h).2 hn) (by omega)
  · apply List.ext_getElem?
    intro j
    unfold orL
    rw [List.getElem?_zipWith]
    rcases Nat.lt_or_ge j a.length with hj | hj
    · rw [List.getElem?_eq_getElem hj, List.getElem?_eq_getElem (h ▸ hj)]
      simp [hall _ (List.getElem_mem hj)]
    · rw [List.getElem?_eq_none hj]
/-- All that is reached. -/
theorem many_iff {f : List Bool → List Bool} {R : Nat → Nat → Prop} {N : Nat} (hl : ∀ a, a.length = N → (f a).length = N) (hf : ∀ a, a.length = N → ∀ j, has (f a) j ↔ ∃ i, has a i ∧ R i j) {at_ out0 : List Bool} :
    ∀ (n : Nat) (out more : List Bool), out.length = N → more.length = N → free out ≤ n → (∀ j, has out j → has out0 j ∨ ∃ i x, has at_ i ∧ R i x ∧ Star R x j) → (∀ j, has more j → ∃ i x, has at_ i ∧ R i x ∧ Star R x j) →
      (∀ j, has out0 j → has out j) → (∀ i j, has out i → R i j → has out j ∨ has more j) → (∀ i j, has at_ i → R i j → has out j ∨ has more j) →
      (manyE f n out more).length = N ∧ ∀ j, has (manyE f n out more) j ↔ has out0 j ∨ ∃ i x, has at_ i ∧ R i x ∧ Star R x j
  | n, out, more, h1, h2, h3, s1, s2, s3, s4, s5 => by
    have fin : newL out more = false → (orL out more).length = N ∧ ∀ j, has (orL out more) j ↔ has out0 j ∨ ∃ i x, has at_ i ∧ R i x ∧ Star R x j := by
      intro hn
      have hsub : ∀ j, has more j → has out j := by
        intro j hj
        apply Classical.byContradiction
        intro hc
        have := (new_iff (h1.trans h2.symm)).mpr ⟨j, hj, hc⟩
        rw [hn] at this; cases this
      have hclo : ∀ x j, Star R x j → has out x → has out j := by
        intro x j h
        induction h with
        | refl => exact id
        | step a _ ih => exact fun hx => ih ((s4 _ _ hx a).elim id (hsub _))
      refine ⟨by rw [orL_len (h1.trans h2.symm)]; exact h1, fun j => ?_⟩
      rw [has_or (h1.trans h2.symm)]
      constructor
      · rintro (h | h)
        · exact s1 j h
        · exact .inr (s2 j h)
      · rintro (h | ⟨i, x, h4, h5, h6⟩)
        · exact .inl (s3 j h)
        · exact .inl (hclo x j h6 ((s5 i x h4 h5).elim id (hsub _)))
    cases n with
    | zero =>
      have hz := free_zero (h1.trans h2.symm) (by omega)
      have := fin hz.1
      rw [hz.2] at this
      unfold manyE; exact this
    | succ n =>
      unfold manyE
      split
      · rename_i hn
        have hlt := (free_or (h1.trans h2.symm)).2 hn
        have hor := fun j => has_or (h1.trans h2.symm) (j := j)
        refine many_iff hl hf n _ _ (by rw [orL_len (h1.trans h2.symm)]; exact h1) (hl _ h2) (by omega) ?_ ?_ ?_ ?_ ?_
        · intro j hj
          rcases (hor j).mp hj with h | h
          · exact s1 j h
          · exact .inr (s2 j h)
        · intro j hj
          obtain ⟨i, h4, h5⟩ := (hf _ h2 j).mp hj
          obtain ⟨i', x, h6, h7, h8⟩ := s2 i h4
          exact ⟨i', x, h6, h7, h8.tail h5⟩
        · exact fun j hj => (hor j).mpr (.inl (s3 j hj))
        · intro i j hi hr
          rcases (hor i).mp hi with h | h
          · exact .inl ((hor j).mpr (s4 i j h hr))
          · exact .inr ((hf _ h2 j).mpr ⟨i, h, hr⟩)
        · exact fun i j hi hr => .inl ((hor j).mpr (s5 i j hi hr))
      · rename_i hn
        exact fin (by simpa using hn)
/-- Where matches end. -/
theorem ends_iff (w : List UInt8) (r : Rx) : ∀ at_ : List Bool, at_.length = w.length + 1 → (ends w r at_).length = w.length + 1 ∧ ∀ j, has (ends w r at_) j ↔ ∃ i, has at_ i ∧ M w r i j := by
  refine Rx.rec (motive_1 := fun r => ∀ at_ : List Bool, at_.length = w.length + 1 → (ends w r at_).length = w.length + 1 ∧ ∀ j, has (ends w r at_) j ↔ ∃ i, has at_ i ∧ M w r i j)
    (motive_2 := fun ps => (∀ at_ : List Bool, at_.length = w.length + 1 → (endsC w ps at_).length = w.length + 1 ∧ ∀ j, has (endsC w ps at_) j ↔ ∃ i, has at_ i ∧ MC w ps i j) ∧
      (∀ at_ out : List Bool, at_.length = w.length + 1 → out.length = w.length + 1 → (endsA w ps at_ out).length = w.length + 1 ∧ ∀ j, has (endsA w ps at_ out) j ↔ has out j ∨ ∃ i, has at_ i ∧ MA w ps i j) ∧
      (∀ at_ : List Bool, at_.length = w.length + 1 → (ends1 w ps at_).length = w.length + 1 ∧ ∀ j, has (ends1 w ps at_) j ↔ ∃ i, has at_ i ∧ M1 w ps i j)) ?_ ?_ ?_ r
  · intro k S ps ⟨hC, hA, h1⟩ at_ hat
    have hr : (List.replicate (w.length + 1) false).length = w.length + 1 := by simp
    unfold ends M
    split
    · unfold setE
      refine ⟨by simp; omega, fun j => ?_⟩
      rw [has_iff]
      cases j with
      | zero => simp
      | succ j =>
        rw [List.getElem?_cons_succ, List.getElem?_zipWith]
        constructor
        · intro h
          cases ha : at_[j]? with
          | none => rw [ha] at h; cases h
          | some b =>
            cases hw : w[j]? with
            | none => rw [ha, hw] at h; cases h
            | some c =>
              rw [ha, hw] at h
              simp at h
              exact ⟨j, has_iff.mpr (by rw [ha, h.1]), rfl, c, hw, h.2⟩
        · rintro ⟨i, h3, h4, c, h5, h6⟩
          have : i = j := by omega
          subst this
          rw [has_iff] at h3
          rw [h3, h5]; simp [h6]
    · split
      · exact hC at_ hat
      · split
        · obtain ⟨h3, h4⟩ := hA at_ _ hat hr
          refine ⟨h3, fun j => ?_⟩
          rw [h4 j]
          exact ⟨fun h => h.elim (fun h => absurd h has_rep) id, .inr⟩
        · obtain ⟨h3, h4⟩ := h1 at_ hat
          rw [orL_rep hat]
          split
          · refine ⟨by rw [orL_len (by omega)]; exact hat, fun j => ?_⟩
            rw [has_or (by omega), h4 j]
            constructor
            · rintro (h | ⟨i, h5, h6⟩)
              · exact ⟨j, h, .inl rfl⟩
              · exact ⟨i, h5, .inr h6⟩
            · rintro ⟨i, h5, rfl | h6⟩
              · exact .inl h5
              · exact .inr ⟨i, h5, h6⟩
          · have hst : ∀ j, has (ends1 w ps at_) j → ∃ i x, has at_ i ∧ M1 w ps i x ∧ Star (M1 w ps) x j := by
              intro j hj
              obtain ⟨i, h5, h6⟩ := (h4 j).mp hj
              exact ⟨i, j, h5, h6, .refl j⟩
            have hsucc : ∀ i j, has at_ i → M1 w ps i j → has (ends1 w ps at_) j := fun i j hi hm => (h4 j).mpr ⟨i, hi, hm⟩
            by_cases hk : k = 4
            · simp only [if_pos hk]
              obtain ⟨h5, h6⟩ := many_iff (f := ends1 w ps) (R := M1 w ps) (N := w.length + 1) (fun a ha => (h1 a ha).1) (fun a ha => (h1 a ha).2) (at_ := at_) (out0 := at_) (w.length + 1) at_ (ends1 w ps at_) hat h3 (by have := free_le at_; omega) (fun j hj => .inl hj) hst (fun j hj => hj) (fun i j hi hm => .inr (hsucc i j hi hm)) (fun i j hi hm => .inr (hsucc i j hi hm))
              refine ⟨h5, fun j => ?_⟩
              rw [h6 j]
              constructor
              · rintro (h | ⟨i, x, h7, h8, h9⟩)
                · exact ⟨j, h, .refl j⟩
                · exact ⟨i, h7, .step h8 h9⟩
              · rintro ⟨i, h7, h8⟩
                cases h8 with
                | refl => exact .inl h7
                | step a b => exact .inr ⟨i, _, h7, a, b⟩
            · simp only [if_neg hk]
              obtain ⟨h5, h6⟩ := many_iff (f := ends1 w ps) (R := M1 w ps) (N := w.length + 1) (fun a ha => (h1 a ha).1) (fun a ha => (h1 a ha).2) (at_ := at_) (out0 := List.replicate (w.length + 1) false) (w.length + 1) (List.replicate (w.length + 1) false) (ends1 w ps at_) hr h3 (by have := free_le (List.replicate (w.length + 1) false); omega) (fun j hj => .inl hj) hst (fun j hj => hj) (fun i j hi hm => absurd hi has_rep) (fun i j hi hm => .inr (hsucc i j hi hm))
              refine ⟨h5, fun j => ?_⟩
              rw [h6 j]
              constructor
              · rintro (h | ⟨i, x, h7, h8, h9⟩)
                · exact absurd h has_rep
                · exact ⟨i, h7, x, h8, h9⟩
              · rintro ⟨i, h7, x, h8, h9⟩
                exact .inr ⟨i, x, h7, h8, h9⟩
  · refine ⟨fun at_ h => ?_, fun at_ out h1 h2 => ?_, fun at_ h => ?_⟩
    · unfold endsC MC
      exact ⟨h, fun j => ⟨fun k => ⟨j, k, rfl⟩, fun ⟨i, k, e⟩ => e ▸ k⟩⟩
    · unfold endsA MA
      exact ⟨h2, fun j => ⟨.inl, fun k => k.elim id (fun ⟨_, _, f⟩ => f.elim)⟩⟩
    · unfold ends1 M1
      exact ⟨h, fun j => ⟨fun k => ⟨j, k, rfl⟩, fun ⟨i, k, e⟩ => e ▸ k⟩⟩
  · intro r rs hr ⟨hC, hA, h1⟩
    refine ⟨fun at_ h => ?_, fun at_ out h2 h3 => ?_, fun at_ h => ?_⟩
    · unfold endsC MC
      obtain ⟨h4, h5⟩ := hr at_ h
      obtain ⟨h6, h7⟩ := hC _ h4
      refine ⟨h6, fun j => ?_⟩
      rw [h7 j]
      constructor
      · rintro ⟨x, h8, h9⟩
        obtain ⟨i, h10, h11⟩ := (h5 x).mp h8
        exact ⟨i, h10, x, h11, h9⟩
      · rintro ⟨i, h10, x, h11, h9⟩
        exact ⟨x, (h5 x).mpr ⟨i, h10, h11⟩, h9⟩
    · unfold endsA MA
      obtain ⟨h4, h5⟩ := hr at_ h2
      obtain ⟨h6, h7⟩ := hA at_ (orL out (ends w r at_)) h2 (by rw [orL_len (by omega)]; exact h3)
      refine ⟨h6, fun j => ?_⟩
      rw [h7 j, has_or (by omega), h5 j]
      constructor
      · rintro ((h | ⟨i, h8, h9⟩) | ⟨i, h8, h9⟩)
        · exact .inl h
        · exact .inr ⟨i, h8, .inl h9⟩
        · exact .inr ⟨i, h8, .inr h9⟩
      · rintro (h | ⟨i, h8, h9 | h9⟩)
        · exact .inl (.inl h)
        · exact .inl (.inr ⟨i, h8, h9⟩)
        · exact .inr ⟨i, h8, h9⟩
    · unfold ends1 M1
      exact hr at_ h
theorem isIn_iff {r : Rx} {w : List UInt8} : isIn r w = true ↔ may r = 0 ∧ M w r 0 w.length := by
  unfold isIn
  rw [Bool.and_eq_true, decide_eq_true_eq]
  obtain ⟨_, h⟩ := ends_iff w r (true :: List.replicate w.length false) (by simp)
  have := h w.length
  unfold has at this
  rw [this]
  constructor
  · rintro ⟨h0, i, h1, h2⟩
    refine ⟨h0, ?_⟩
    cases i with
    | zero => exact h2
    | succ i =>
      have : has (true :: List.replicate w.length false) (i + 1) := h1
      rw [has_iff, List.getElem?_cons_succ, ← has_iff] at this
      exact absurd this has_rep
  · rintro ⟨h0, h1⟩
    exact ⟨h0, 0, rfl, h1⟩
end Go.E.Rg
set_option linter.unusedVariables false
set_option linter.unusedSimpArgs false
set_option maxRecDepth 20000
namespace Go.E.Rg
open Go.H Go.E
theorem M_mk (w : List UInt8) (k : Int) (S : Nat → Bool) (ps : List Rx) (i j : Nat) : M w (.mk k S ps) i j = (if k = 1 then j = i + 1 ∧ ∃ c : UInt8, w[i]? = some c ∧ S c.toNat = true
    else if k = 2 then MC w ps i j
    else if k = 3 then MA w ps i j
    else if k = 6 then i = j ∨ M1 w ps i j
    else if k = 4 then Star (M1 w ps) i j
    else ∃ x, M1 w ps i x ∧ Star (M1 w ps) x j) := by conv => lhs; unfold M
theorem null_mk (k : Int) (S : Nat → Bool) (ps : List Rx) : null (.mk k S ps) = (if k = 4 ∨ k = 6 then true else if k = 2 ∨ k = 5 then nullA ps else if k = 3 then nullE ps else false) := by conv => lhs; unfold null
theorem may_form {r : Rx} (h : may r = 0) : form r = true ∧ nodes r ≤ 40 ∧ depth r ≤ 12 := by
  unfold may at h
  split at h
  · rename_i hf
    split at h
    · cases h
    · exact ⟨hf, by omega, by omega⟩
  · cases h
/-- One byte of a set. -/
def st (S : Nat → Bool) : Rx := .mk 1 S []
theorem M_st {w : List UInt8} {S : Nat → Bool} {i j : Nat} : M w (st S) i j ↔ j = i + 1 ∧ ∃ c : UInt8, w[i]? = some c ∧ S c.toNat = true := by unfold st M; simp
theorem may_st {S : Nat → Bool} (h : emptyS S = false) : may (st S) = 0 := by
  unfold may st form nodes depth nodesL depthL
  simp [h]
theorem may_two {k : Int} {S T : Nat → Bool} (hk : k = 2 ∨ k = 3) (h1 : emptyS S = false) (h2 : emptyS T = false) : may (.mk k noS [st S, st T]) = 0 := by
  rcases hk with rfl | rfl <;> (unfold may st form formL nodes depth nodesL depthL; simp [emptyS_no, formL, form, h1, h2, nodesL, nodes, depthL, depth, Rx.k])
theorem may_sg {k : Int} {S : Nat → Bool} (h4 : 4 ≤ k) (h6 : k ≤ 6) (h1 : emptyS S = false) : may (.mk k noS [st S]) = 0 := by
  rcases (by omega : k = 4 ∨ k = 5 ∨ k = 6) with rfl | rfl | rfl <;> (unfold may st form formL nodes depth nodesL depthL; simp [emptyS_no, formL, form, h1, nodesL, nodes, depthL, depth, Rx.k, sgK])
theorem in_st {S : Nat → Bool} (h : emptyS S = false) {w : List UInt8} : isIn (st S) w = true ↔ ∃ c : UInt8, w = [c] ∧ S c.toNat = true := by
  rw [isIn_iff, M_st]
  constructor
  · rintro ⟨_, h1, c, h2, h3⟩
    obtain ⟨x, rfl⟩ := List.length_eq_one_iff.mp h1
    cases h2
    exact ⟨_, rfl, h3⟩
  · rintro ⟨c, rfl, h3⟩
    exact ⟨may_st h, rfl, c, rfl, h3⟩
theorem sp_cat {S T : Nat → Bool} (hS : emptyS S = false) (hT : emptyS T = false) {v w : List UInt8} (h1 : isIn (st S) v = true) (h2 : isIn (st T) w = true) : isIn (.mk 2 noS [st S, st T]) (v ++ w) = true := by
  obtain ⟨c, rfl, h3⟩ := (in_st hS).mp h1
  obtain ⟨d, rfl, h4⟩ := (in_st hT).mp h2
  rw [isIn_iff]
  refine ⟨may_two (.inl rfl) hS hT, ?_⟩
  unfold M
  simp only [show ¬ (2 : Int) = 1 by decide, if_false, if_true]
  unfold MC
  refine ⟨1, M_st.mpr ⟨rfl, c, rfl, h3⟩, ?_⟩
  unfold MC
  refine ⟨2, M_st.mpr ⟨rfl, d, rfl, h4⟩, ?_⟩
  unfold MC
  rfl
theorem sp_alt {S T : Nat → Bool} (hS : emptyS S = false) (hT : emptyS T = false) {v : List UInt8} (h1 : isIn (st S) v = true ∨ isIn (st T) v = true) : isIn (.mk 3 noS [st S, st T]) v = true := by
  rw [isIn_iff]
  refine ⟨may_two (.inr rfl) hS hT, ?_⟩
  unfold M
  simp only [show ¬ (3 : Int) = 1 by decide, show ¬ (3 : Int) = 2 by decide, if_false, if_true]
  unfold MA
  rcases h1 with h | h
  · exact .inl (isIn_iff.mp h).2
  · right
    unfold MA
    exact .inl (isIn_iff.mp h).2
theorem M_star {w : List UInt8} {r : Rx} {i j : Nat} : M w (.mk 4 noS [r]) i j ↔ Star (M w r) i j := by
  have e : M1 w [r] = M w r := by funext i j; unfold M1; rfl
  rw [M_mk, if_neg (by decide), if_neg (by decide), if_neg (by decide), if_neg (by decide), if_pos rfl, e]
theorem sp_star {S : Nat → Bool} (hS : emptyS S = false) {v : List UInt8} (h1 : isIn (st S) v = true) : isIn (.mk 4 noS [st S]) (v ++ v) = true := by
  obtain ⟨c, rfl, h3⟩ := (in_st hS).mp h1
  rw [isIn_iff]
  refine ⟨may_sg (by decide) (by decide) hS, M_star.mpr ?_⟩
  exact .step (M_st.mpr ⟨rfl, c, rfl, h3⟩) (.one (M_st.mpr ⟨rfl, c, rfl, h3⟩))
theorem sp_star0 {S : Nat → Bool} (hS : emptyS S = false) : isIn (.mk 4 noS [st S]) [] = true := by
  rw [isIn_iff]
  exact ⟨may_sg (by decide) (by decide) hS, M_star.mpr (.refl 0)⟩
theorem sp_cat0 {S T : Nat → Bool} : isIn (.mk 2 noS [st S, st T]) [] = false := by
  cases h : isIn (.mk 2 noS [st S, st T]) [] with
  | false => rfl
  | true =>
    have := (isIn_iff.mp h).2
    unfold M at this
    simp only [show ¬ (2 : Int) = 1 by decide, if_false, if_true] at this
    unfold MC at this
    obtain ⟨x, h1, _⟩ := this
    obtain ⟨_, c, h2, _⟩ := M_st.mp h1
    cases h2
end Go.E.Rg
set_option linter.unusedVariables false
set_option linter.unusedSimpArgs false
set_option maxRecDepth 20000
namespace Go.E
open Go.H
attribute [local irreducible] BiN MkS ConvN LookN MapUpN CallV HC limb dbTab
/-- What Parse answers: a set, how long, a fault. -/
def res (o : Option ((Nat → Bool) × Nat)) : (Nat → Bool) × Nat × Nat := match o with | some (S, e) => (S, e, 0) | none => (fun _ => false, 0, 2)
end Go.E
set_option linter.unusedVariables false
set_option linter.unusedSimpArgs false
set_option maxRecDepth 20000
namespace Go.E.Rg
open Go.H Go.E
def wrap (s : List UInt8) : Nat → List UInt8
  | 0 => s
  | k + 1 => 40 :: wrap s k ++ [41]
/-- The parts that a bar joins. -/
def parts (x : Rx) : List Rx := if x.k = 3 then x.ps else [x]
end Go.E.Rg
set_option linter.unusedVariables false
set_option linter.unusedSimpArgs false
set_option maxRecDepth 20000
namespace Go.E.Rg
open Go.H Go.E
def num (l : List UInt8) (m : Nat) : Nat := match l with | [] => 0 | c :: _ => c.toNat % m
def few : List UInt8 := [97, 98, 49, 10, 32, 45]
def psS (l : List UInt8) : Nat → Bool :=
  if num l 7 = 0 then inB [97, 98] else if num l 7 = 1 then inB [98, 99, 100] else if num l 7 = 2 then (fun b => !inB [97, 10] b)
  else if num l 7 = 3 then inB [48, 49, 50] else inB [few.getD (num l.tail 6) 0]
def psR (l : List UInt8) : List UInt8 := if num l 7 ≤ 3 then l.tail else l.tail.tail
def kidF (f : List UInt8 → Rx × List UInt8) (kind : Int) (l : List UInt8) : Rx × List UInt8 :=
  if (f l).1.k = kind ∨ (4 ≤ kind ∧ 4 ≤ (f l).1.k) then (st (psS (f l).2), psR (f l).2) else f l
def kidsF (f : List UInt8 → Rx × List UInt8) (kind : Int) : Nat → List UInt8 → List Rx × List UInt8
  | 0, l => ([], l)
  | n + 1, l => ((kidF f kind l).1 :: (kidsF f kind n (kidF f kind l).2).1, (kidsF f kind n (kidF f kind l).2).2)
def kindOf (k : Nat) : Int := 2 + (((k + 1) % 5 : Nat) : Int)
def prx : Nat → List UInt8 → Rx × List UInt8
  | 0, l => (st (psS l.tail), psR l.tail)
  | d + 1, l =>
    if num l 9 < 4 then (st (psS l.tail), psR l.tail)
    else if kindOf (num l 9) ≤ 3 then (.mk (kindOf (num l 9)) noS (kidsF (prx d) (kindOf (num l 9)) (2 + num l.tail 2) l.tail.tail).1, (kidsF (prx d) (kindOf (num l 9)) (2 + num l.tail 2) l.tail.tail).2)
    else (.mk (kindOf (num l 9)) noS (kidsF (prx d) (kindOf (num l 9)) 1 l.tail).1, (kidsF (prx d) (kindOf (num l 9)) 1 l.tail).2)
theorem num_lt (l : List UInt8) {m : Nat} (h : 0 < m) : num l m < m := by
  unfold num
  split
  · exact h
  · exact Nat.mod_lt _ h
theorem empty_at {S : Nat → Bool} (b : Nat) (hb : b < 256) (h : S b = true) : emptyS S = false := by
  cases he : emptyS S with
  | false => rfl
  | true => rw [empty_all he b hb] at h; cases h
theorem psS_some (l : List UInt8) : emptyS (psS l) = false := by
  unfold psS
  split
  · exact empty_at 97 (by decide) (by decide)
  · split
    · exact empty_at 98 (by decide) (by decide)
    · split
      · exact empty_at 98 (by decide) (by decide)
      · split
        · exact empty_at 48 (by decide) (by decide)
        · refine empty_at (few.getD (num l.tail 6) 0).toNat (UInt8.toNat_lt _) ?_
          unfold inB; simp
theorem form_st {S : Nat → Bool} (h : emptyS S = false) : form (st S) = true := by unfold st form; simp [h]
theorem depth_st (S : Nat → Bool) : depth (st S) = 1 := by unfold st depth depthL; rfl
theorem kindOf_in (k : Nat) : 2 ≤ kindOf k ∧ kindOf k ≤ 6 := by unfold kindOf; omega
theorem kid_ok {f : List UInt8 → Rx × List UInt8} {D : Nat} (hD : 1 ≤ D) (hf : ∀ l, form (f l).1 = true ∧ depth (f l).1 ≤ D) {kind : Int} (hk : kind ≠ 1) (l : List UInt8) :
    form (kidF f kind l).1 = true ∧ depth (kidF f kind l).1 ≤ D ∧ (kidF f kind l).1.k ≠ kind ∧ (4 ≤ kind → sgK (kidF f kind l).1.k = false) := by
  unfold kidF
  split
  · refine ⟨form_st (psS_some _), by rw [depth_st]; exact hD, fun e => hk e.symm, fun _ => rfl⟩
  · rename_i h
    refine ⟨(hf l).1, (hf l).2, fun e => h (.inl e), fun h4 => ?_⟩
    cases hs : sgK (f l).1.k with
    | false => rfl
    | true => exact absurd (.inr ⟨h4, (sgK_iff.mp hs).1⟩) h
theorem kids_ok {f : List UInt8 → Rx × List UInt8} {D : Nat} (hD : 1 ≤ D) (hf : ∀ l, form (f l).1 = true ∧ depth (f l).1 ≤ D) {kind : Int} (hk : kind ≠ 1) : ∀ (n : Nat) (l : List UInt8),
    (kidsF f kind n l).1.length = n ∧ ∀ a ∈ (kidsF f kind n l).1, form a = true ∧ depth a ≤ D ∧ a.k ≠ kind ∧ (4 ≤ kind → sgK a.k = false)
  | 0, l => by unfold kidsF; simp
  | n + 1, l => by
    obtain ⟨h1, h2⟩ := kids_ok hD hf hk n (kidF f kind l).2
    unfold kidsF
    refine ⟨by simp [h1], fun a ha => ?_⟩
    rcases List.mem_cons.mp ha with rfl | ha
    · exact kid_ok hD hf hk l
    · exact h2 a ha
theorem depthL_ub : ∀ {ps : List Rx} {D : Nat}, (∀ a ∈ ps, depth a ≤ D) → depthL ps ≤ D
  | [], D, _ => by unfold depthL; omega
  | r :: rs, D, h => by
    unfold depthL
    have h1 := h r (by simp)
    have h2 := depthL_ub (fun a ha => h a (List.mem_cons_of_mem r ha))
    omega
/-- Expressions made of numbers are as they may be, but for their size. -/
theorem prx_ok : ∀ (d : Nat) (l : List UInt8), form (prx d l).1 = true ∧ depth (prx d l).1 ≤ d + 1
  | 0, l => by unfold prx; exact ⟨form_st (psS_some _), by rw [depth_st]; omega⟩
  | d + 1, l => by
    have ih := prx_ok d
    have hk := kindOf_in (num l 9)
    have hk1 : kindOf (num l 9) ≠ 1 := by omega
    unfold prx
    split
    · exact ⟨form_st (psS_some _), by rw [depth_st]; omega⟩
    · split
      · rename_i h3
        obtain ⟨h4, h5⟩ := kids_ok (f := prx d) (D := d + 1) (by omega) ih hk1 (2 + num l.tail 2) l.tail.tail
        refine ⟨?_, by rw [depth_mk]; have := depthL_ub (fun a ha => (h5 a ha).2.1); omega⟩
        unfold form
        rw [if_neg hk1, if_neg (by rw [emptyS_no]; decide), if_pos (by omega), Bool.and_eq_true, decide_eq_true_eq, formL_iff]
        exact ⟨by omega, fun a ha => ⟨(h5 a ha).2.2.1, (h5 a ha).1⟩⟩
      · rename_i h3
        obtain ⟨h4, h5⟩ := kids_ok (f := prx d) (D := d + 1) (by omega) ih hk1 1 l.tail
        refine ⟨?_, by rw [depth_mk]; have := depthL_ub (fun a ha => (h5 a ha).2.1); omega⟩
        unfold form
        rw [if_neg hk1, if_neg (by rw [emptyS_no]; decide), if_neg (by omega), if_pos (sgK_iff.mpr (by omega)), Bool.and_eq_true, Bool.and_eq_true, decide_eq_true_eq, formL_iff]
        refine ⟨⟨h4, ?_⟩, fun a ha => ⟨(h5 a ha).2.2.1, (h5 a ha).1⟩⟩
        rw [Bool.not_eq_true', List.any_eq_false]
        intro a ha
        rw [(h5 a ha).2.2.2 (by omega)]; decide
theorem form_one {r : Rx} (h : form r = true) (hk : r.k ≤ 1) : ∃ S, r = st S ∧ emptyS S = false := by
  obtain ⟨k, S, ps⟩ := r
  have hk : k ≤ 1 := hk
  rcases form_cases h with ⟨rfl, rfl, hS⟩ | ⟨_, _, ⟨h1 | h1, _⟩ | ⟨h1, _⟩⟩
  · exact ⟨S, rfl, hS⟩
  · omega
  · omega
  · omega
end Go.E.Rg
set_option linter.unusedVariables false
set_option linter.unusedSimpArgs false
set_option maxRecDepth 20000
namespace Go.E.Rg
open Go.H Go.E
/-- "a(b|c)*" -/
def bgT : List UInt8 := [97, 40, 98, 124, 99, 41, 42]
def bgR : Rx := .mk 2 noS [.mk 1 (fromTo 97 97) [], .mk 4 noS [.mk 3 noS [.mk 1 (fromTo 98 98) [], .mk 1 (fromTo 99 99) []]]]
theorem bg_parse : parse bgT = .ok bgR := by rfl
theorem bg_show : shw bgR = bgT := by decide +kernel
theorem bg_may : may bgR = 0 := by decide +kernel
theorem bg_null : null bgR = false := by decide +kernel
theorem bg_in : isIn bgR [97, 98, 99] = true ∧ isIn bgR [98] = false := by decide +kernel
end Go.E.Rg
set_option linter.unusedVariables false
set_option linter.unusedSimpArgs false
set_option maxRecDepth 20000
namespace Go.E
open Go.H
attribute [local irreducible] BiN MkS ConvN LookN MapUpN CallV HC limb dbTab
/-- The bytes of runs. -/
def cat (rs : List (Nat × Nat)) : List Nat := rs.flatMap fun p => List.range' p.1 (p.2 + 1 - p.1)
theorem cat_append (a b : List (Nat × Nat)) : cat (a ++ b) = cat a ++ cat b := by simp [cat]
theorem cat_one (p : Nat × Nat) : cat [p] = List.range' p.1 (p.2 + 1 - p.1) := by simp [cat]
theorem cat_len (rs : List (Nat × Nat)) (h : ∀ p ∈ rs, p.1 ≤ p.2) : rs.length ≤ (cat rs).length := by
  induction rs with
  | nil => simp
  | cons p rs ih =>
    have h1 := h p (by simp)
    have := ih fun q hq => h q (by simp [hq])
    rw [show p :: rs = [p] ++ rs from rfl, cat_append, cat_one]
    simp; omega
end Go.E
set_option linter.unusedVariables false
set_option linter.unusedSimpArgs false
set_option maxRecDepth 20000
namespace Go.E
open Go.H
attribute [local irreducible] BiN MkS ConvN LookN MapUpN CallV HC limb dbTab
abbrev catB (rs : List (Nat × Nat)) : List UInt8 := (cat rs).map UInt8.ofNat
theorem el {m : Mem} {a : Option Addr} {l : Nat} {rs : List (Nat × Nat)} (hc : CellsAt m a (u8s (catB rs))) (hl : (cat rs).length = l) {i : Int} {n v : Nat} (hi : i = (n : Int)) (hn : (cat rs)[n]? = some v) (hv : v < 256) {K : Value → Prop}
    (k : K (.int .u8 (v : Int))) : IxS a l i 1 (fun b o => LdV m b o K) := by
  subst hi
  have hlt : n < (cat rs).length := by
    apply Decidable.byContradiction
    intro h
    rw [List.getElem?_eq_none (by omega)] at hn; cases hn
  refine IxS.u8s hc (by rw [List.length_map]; exact hl) (by omega) (by omega) ?_
  intro x hx
  rw [Int.toNat_natCast, List.getElem?_map, hn] at hx
  cases hx
  rw [toNat_of hv]; exact k
end Go.E
set_option linter.unusedVariables false
set_option linter.unusedSimpArgs false
set_option maxRecDepth 20000
namespace Go.E.Rg
open Go.H Go.E
/-- A memory's blocks of a kind alone. -/
noncomputable def on (m : Mem) (G : Nat → Prop) : Mem := fun b => open Classical in if G b then m b else none
theorem on_in {m : Mem} {G : Nat → Prop} {b : Nat} (h : G b) : on m G b = m b := by unfold on; rw [if_pos h]
theorem on_le (m : Mem) (G : Nat → Prop) : Le (on m G) m := fun b o h => by
  unfold on at h
  split at h
  · exact h
  · cases h
theorem on_live {m : Mem} {G : Nat → Prop} {b : Nat} {o : Obj} (h : on m G b = some o) : G b ∧ m b = some o := by
  unfold on at h
  split at h
  · exact ⟨‹_›, h⟩
  · cases h
theorem on_mono {S G G' : Nat → Prop} {m m' : Mem} (hch : Chg S m m') (hs : ∀ b, G b → m b ≠ none → ¬ S b) (hg : ∀ b, G b → m b ≠ none → G' b) : Le (on m G) (on m' G') := fun b o h => by
  obtain ⟨h1, h2⟩ := on_live h
  have hne : m b ≠ none := by rw [h2]; simp
  rw [on_in (hg b h1 hne)]
  exact hch.eq b o h2 (hs b h1 hne)
def four (S : Nat → Bool) : List Value := [.int .u64 (L S 0), .int .u64 (L S 1), .int .u64 (L S 2), .int .u64 (L S 3)]
/-- The cells of an expression whose parts are this slice. -/
def rxRow (p : Rx × Value) : List Value := [.int .i64 p.1.k, .int .u64 (L p.1.S 0), .int .u64 (L p.1.S 1), .int .u64 (L p.1.S 2), .int .u64 (L p.1.S 3), p.2]
theorem rxRow_len (p : Rx × Value) : (rxRow p).length = 6 := rfl
/-- This slice has an expression's parts. -/
inductive ArgC (m : Mem) : Rx → Value → Prop where
  | mk {k : Int} {S : Nat → Bool} {prs : List (Rx × Value)} {a : Option Addr} {c : Nat} : prs.length ≤ c → prs.length ≤ 9223372036854775807 → CellsAt m a (prs.flatMap rxRow) → (∀ p ∈ prs, ArgC m p.1 p.2) → ArgC m (.mk k S (prs.map (·.1))) (.slice a prs.length c)
theorem ArgC.inv {m : Mem} {k : Int} {S : Nat → Bool} {ps : List Rx} {v : Value} (h : ArgC m (.mk k S ps) v) : ∃ (prs : List (Rx × Value)) (a : Option Addr) (c : Nat), ps = prs.map (·.1) ∧ v = .slice a prs.length c ∧ prs.length ≤ c ∧ prs.length ≤ 9223372036854775807 ∧ CellsAt m a (prs.flatMap rxRow) ∧ ∀ p ∈ prs, ArgC m p.1 p.2 := by
  cases h with
  | mk hl hb hc hp => exact ⟨_, _, _, rfl, rfl, hl, hb, hc, hp⟩
theorem ArgC.le {m m' : Mem} {r : Rx} {v : Value} (h : ArgC m r v) (k : Le m m') : ArgC m' r v := by
  induction h with
  | mk hl hb hc hp ih => exact .mk hl hb (hc.le k) ih
theorem ArgC.none {m : Mem} {k : Int} {S : Nat → Bool} : ArgC m (.mk k S []) (.slice none 0 0) := by
  have := ArgC.mk (m := m) (k := k) (S := S) (prs := []) (a := Option.none) (c := 0) (by simp) (by simp) (CellsAt.empty _ _) (fun p hp => by cases hp)
  exact this
/-- An expression as a value. -/
abbrev rxA (k : Int) (S : Nat → Bool) (v : Value) : Value := .agg #[.int .i64 k, .int .u64 (L S 0), .int .u64 (L S 1), .int .u64 (L S 2), .int .u64 (L S 3), v]
/-- One of the parts is read. -/
theorem IxS.rx {m : Mem} {a : Option Addr} {prs : List (Rx × Value)} (hc : CellsAt m a (prs.flatMap rxRow)) {j : Nat} (hj : j < prs.length) {K : Nat → Nat → Prop}
    (k : ∀ b o, m.cell b o = some (.int .i64 prs[j].1.k) → m.cell b (o + 1) = some (.int .u64 (L prs[j].1.S 0)) → m.cell b (o + 2) = some (.int .u64 (L prs[j].1.S 1)) → m.cell b (o + 3) = some (.int .u64 (L prs[j].1.S 2)) → m.cell b (o + 4) = some (.int .u64 (L prs[j].1.S 3)) → m.cell b (o + 5) = some prs[j].2 → K b o) :
    IxS a prs.length (j : Int) 6 K := by
  have hg := List.getElem?_eq_getElem hj
  refine IxS.rows rxRow_len (by decide) hc rfl (by omega) (by omega) ?_
  intro b o x hx hcell
  rw [Int.toNat_natCast, hg] at hx
  cases hx
  exact k b o (hcell 0 _ rfl) (hcell 1 _ rfl) (hcell 2 _ rfl) (hcell 3 _ rfl) (hcell 4 _ rfl) (hcell 5 _ rfl)
/-- The parts' slice is a slice. -/
theorem ArgC.sl {m : Mem} {r : Rx} {v : Value} (h : ArgC m r v) : ∃ a l c, v = .slice a l c := by
  cases h with
  | mk hl hb hc hp => exact ⟨_, _, _, rfl⟩
theorem St1.six {m : Mem} {b : Nat} {x0 x1 x2 x3 x4 x5 u0 u1 u2 u3 u4 u5 : Value} {e : TypeId} {K : Mem → Prop} (h : m b = some (.cells #[x0, x1, x2, x3, x4, x5] e (0, 0))) (h0 : notOne u0 = false) (h1 : notOne u1 = false) (h2 : notOne u2 = false) (h3 : notOne u3 = false) (h4 : notOne u4 = false) (h5 : notOne u5 = false)
    (k : K (m.set b (.cells #[u0, u1, u2, u3, u4, u5] e (0, 0)))) : St1 m b 0 u0 fun m1 => St1 m1 b 1 u1 fun m2 => St1 m2 b 2 u2 fun m3 => St1 m3 b 3 u3 fun m4 => St1 m4 b 4 u4 fun m5 => St1 m5 b 5 u5 K := by
  refine St1.to #[u0, x1, x2, x3, x4, x5] h (by simp) h0 rfl ?_
  refine St1.to #[u0, u1, x2, x3, x4, x5] (set_same _ _ _) (by simp) h1 rfl ?_
  rw [set_set]
  refine St1.to #[u0, u1, u2, x3, x4, x5] (set_same _ _ _) (by simp) h2 rfl ?_
  rw [set_set]
  refine St1.to #[u0, u1, u2, u3, x4, x5] (set_same _ _ _) (by simp) h3 rfl ?_
  rw [set_set]
  refine St1.to #[u0, u1, u2, u3, u4, x5] (set_same _ _ _) (by simp) h4 rfl ?_
  rw [set_set]
  refine St1.to #[u0, u1, u2, u3, u4, u5] (set_same _ _ _) (by simp) h5 rfl ?_
  rw [set_set]
  exact k
/-- The cells of an expression's own block. -/
def rxO (k : Int) (S : Nat → Bool) (v : Value) : Array Value := #[.int .i64 k, .int .u64 (L S 0), .int .u64 (L S 1), .int .u64 (L S 2), .int .u64 (L S 3), v]
/-- All six are read. -/
theorem get6 {m : Mem} {b : Nat} {k : Int} {S : Nat → Bool} {a : Option Addr} {l c : Nat} {e : TypeId} {fr : Nat × Nat} {K : Int → Int → Int → Int → Int → Option Addr → Nat → Nat → Prop} (h : m b = some (.cells (rxO k S (.slice a l c)) e fr))
    (q : K k (L S 0) (L S 1) (L S 2) (L S 3) a l c) :
    LdV m b 0 fun v => UnI v .i64 fun x0 => LdV m b 1 fun v => UnI v .u64 fun x1 => LdV m b 2 fun v => UnI v .u64 fun x2 => LdV m b 3 fun v => UnI v .u64 fun x3 => LdV m b 4 fun v => UnI v .u64 fun x4 => LdV m b 5 fun v => UnS v fun xa xl xc => K x0 x1 x2 x3 x4 xa xl xc :=
  LdV.s0 h (LdV.s1 h (LdV.s2 h (LdV.s3 h (LdV.s4 h (LdV.s5 h q)))))
/-- A part is read from its row. -/
theorem IxS.rx6 {m : Mem} {a : Option Addr} {prs : List (Rx × Value)} (hc : CellsAt m a (prs.flatMap rxRow)) {j : Nat} (hj : j < prs.length) {a' : Option Addr} {l' c' : Nat} (hv : prs[j].2 = .slice a' l' c') {K : Int → Int → Int → Int → Int → Option Addr → Nat → Nat → Prop}
    (q : K prs[j].1.k (L prs[j].1.S 0) (L prs[j].1.S 1) (L prs[j].1.S 2) (L prs[j].1.S 3) a' l' c') :
    IxS a prs.length (j : Int) 6 fun b o => LdV m b o fun v => UnI v .i64 fun x0 => LdV m b (o + 1) fun v => UnI v .u64 fun x1 => LdV m b (o + 2) fun v => UnI v .u64 fun x2 => LdV m b (o + 3) fun v => UnI v .u64 fun x3 => LdV m b (o + 4) fun v => UnI v .u64 fun x4 => LdV m b (o + 5) fun v => UnS v fun xa xl xc => K x0 x1 x2 x3 x4 xa xl xc := by
  refine IxS.rx hc hj ?_
  intro b o c0 c1 c2 c3 c4 c5
  rw [hv] at c5
  exact LdV.mk c0 (LdV.mk c1 (LdV.mk c2 (LdV.mk c3 (LdV.mk c4 (LdV.mk c5 q)))))
/-- A block's first word of an expression's kind. -/
theorem IxS.rxk {m : Mem} {a : Option Addr} {prs : List (Rx × Value)} (hc : CellsAt m a (prs.flatMap rxRow)) {j : Nat} (hj : j < prs.length) {K : Int → Prop} (q : K prs[j].1.k) : IxS a prs.length (j : Int) 6 fun b o => LdV m b o fun v => UnI v .i64 K := by
  refine IxS.rx hc hj ?_
  intro b o c0 c1 c2 c3 c4 c5
  exact LdV.mk c0 q
/-- An expression in a block of its own. -/
theorem newRx {m : Mem} {k : Int} {S : Nat → Bool} {v : Value} {T : TypeId} {K : Nat → Mem → Prop} (h : ∀ b m1, m b = none → Le m m1 → m1 b = some (.cells (rxO k S v) T (0, 0)) → K b m1) :
    NewC m #[.int .i64 k, .int .u64 (L S 0), .int .u64 (L S 1), .int .u64 (L S 2), .int .u64 (L S 3), v] T K := fun b hb => h b _ hb (Le.set hb _) (set_same _ _ _)
/-- A loop's own copy of a part. -/
theorem copyRx {m : Mem} {k : Int} {S : Nat → Bool} {a : Option Addr} {l c : Nat} {x0 x1 x2 x3 x4 x5 : Value} {T : TypeId} {K : Nat → Mem → Prop} (h : ∀ b m1, m b = none → Le m m1 → m1 b = some (.cells (rxO k S (.slice a l c)) T (0, 0)) → K b m1) :
    NewC m #[x0, x1, x2, x3, x4, x5] T fun b m1 => St1 m1 b 0 (.int .i64 k) fun m2 => St1 m2 b 1 (.int .u64 (L S 0)) fun m3 => St1 m3 b 2 (.int .u64 (L S 1)) fun m4 => St1 m4 b 3 (.int .u64 (L S 2)) fun m5 => St1 m5 b 4 (.int .u64 (L S 3)) fun m6 => St1 m6 b 5 (.slice a l c) fun m7 => K b m7 := by
  intro b hb
  refine St1.six (set_same _ _ _) rfl rfl rfl rfl rfl rfl ?_
  rw [set_set]
  exact h b _ hb (Le.set hb _) (set_same _ _ _)
end Go.E.Rg
set_option linter.unusedVariables false
set_option linter.unusedSimpArgs false
set_option maxRecDepth 20000
namespace Go.E.Rg
open Go.H Go.E
attribute [local irreducible] BiN MkS ConvN LookN MapUpN CallV HC limb dbTab
theorem sign_spec {k : Int} {m : Mem} {R : Ending → Mem → Prop} (h : R (.returned (.bool (sgK k))) m) : HC P regex_sign.id #[.int .i64 k] m R := by
  refine regex_sign.ok _ _ _ ?_
  unfold sgK at h
  refine BrD (fun h4 => ?_) (fun h4 => ?_)
  · have : decide (4 ≤ k) = true := by simpa using h4
    rw [this, Bool.true_and] at h; exact h
  · have : decide (4 ≤ k) = false := by simpa using h4
    rw [this, Bool.false_and] at h; exact h
theorem rank_spec {k : Int} {m : Mem} {R : Ending → Mem → Prop} (h : R (.returned (.int .i64 (rank k))) m) : HC P regex_rank.id #[.int .i64 k] m R := by
  refine regex_rank.ok _ _ _ ?_
  unfold rank at h
  refine BrE (fun e => by rw [if_pos e] at h; exact h) (fun e => ?_)
  rw [if_neg e] at h
  refine BrE (fun e => by rw [if_pos e] at h; exact h) (fun e => ?_)
  rw [if_neg e] at h
  refine BrE (fun e => by rw [if_pos e] at h; exact h) (fun e => ?_)
  rw [if_neg e] at h
  exact h
theorem form_mk (k : Int) (S : Nat → Bool) (ps : List Rx) : form (.mk k S ps) = (if k = 1 then ps.isEmpty && !emptyS S
    else if emptyS S = false then false
    else if k = 2 ∨ k = 3 then decide (2 ≤ ps.length) && formL k ps
    else if sgK k = true then decide (ps.length = 1) && !(ps.any fun a => sgK a.k) && formL k ps
    else false) := by conv => lhs; unfold form
theorem formL_cons (k : Int) (r : Rx) (rs : List Rx) : formL k (r :: rs) = ((decide (r.k ≠ k) && form r) && formL k rs) := by conv => lhs; unfold formL
theorem nodesL_cons (r : Rx) (rs : List Rx) : nodesL (r :: rs) = nodes r + nodesL rs := by conv => lhs; unfold nodesL
theorem depthL_cons (r : Rx) (rs : List Rx) : depthL (r :: rs) = max (depth r) (depthL rs) := by conv => lhs; unfold depthL
theorem nodes_mk (k : Int) (S : Nat → Bool) (ps : List Rx) : nodes (.mk k S ps) = nodesL ps + 1 := by conv => lhs; unfold nodes
theorem depth_nodes (r : Rx) : depth r ≤ nodes r := by
  refine Rx.rec (motive_1 := fun r => depth r ≤ nodes r) (motive_2 := fun ps => depthL ps ≤ nodesL ps) ?_ ?_ ?_ r
  · intro k S ps ih; rw [depth_mk, nodes_mk]; omega
  · unfold depthL nodesL; omega
  · intro r rs h1 h2; rw [depthL_cons, nodesL_cons]; omega
theorem nodesL_take : ∀ {ps : List Rx} {j : Nat} {p : Rx}, ps[j]? = some p → nodesL (ps.take (j + 1)) = nodesL (ps.take j) + nodes p ∧ depthL (ps.take (j + 1)) = max (depthL (ps.take j)) (depth p) ∧ nodesL (ps.take (j + 1)) ≤ nodesL ps
  | r :: rs, 0, p, h => by
    cases h
    simp only [List.take_succ_cons, List.take_zero]
    rw [nodesL_cons, depthL_cons, nodesL_cons]
    have e1 : nodesL [] = 0 := by unfold nodesL; rfl
    have e2 : depthL [] = 0 := by unfold depthL; rfl
    omega
  | r :: rs, j + 1, p, h => by
    obtain ⟨h1, h2, h3⟩ := nodesL_take (ps := rs) (j := j) (p := p) (by simpa using h)
    rw [List.take_succ_cons, List.take_succ_cons, nodesL_cons, nodesL_cons, depthL_cons, depthL_cons, nodesL_cons, h1, h2]
    rw [h1] at h3
    omega
section
variable {m : Mem} {R : Ending → Mem → Prop}
theorem formed_spec (r : Rx) : ∀ {m : Mem} {v : Value} {R : Ending → Mem → Prop}, ArgC m r v → (∀ m', Le m m' → R (.returned (.bool (form r))) m') → HC P regex_formed.id #[rxA r.k r.S v] m R := by
  refine Rx.ind (C := fun r => ∀ {m : Mem} {v : Value} {R : Ending → Mem → Prop}, ArgC m r v → (∀ m', Le m m' → R (.returned (.bool (form r))) m') → HC P regex_formed.id #[rxA r.k r.S v] m R) ?_ r
  intro k S ps ih m v R ha hk
  obtain ⟨prs, a, c, rfl, rfl, hl, hb, hc, hp⟩ := ha.inv
  show HC P regex_formed.id #[rxA k S (.slice a prs.length c)] m R
  refine regex_formed.ok _ _ _ _ _ _ _ _ _ _ ?_
  refine newRx ?_
  intro b1 m1 hb1 hle h1
  rw [form_mk] at hk
  have hlen : (prs.map (·.1)).length = prs.length := List.length_map _
  -- the loop over the parts
  have k2 : ∀ m2, Le m1 m2 → (∀ m', Le m m' → R (.returned (.bool (formL k (prs.map (·.1))))) m') → regex_formed.k2 b1 0 R m2 := by
    intro m2 hle2 hk2
    unfold regex_formed.k2
    refine LdV.s5 (hle2 _ _ h1) (UnS.mk ?_)
    refine ⟨fun N x1b x1o xa xl xc n i mm => x1b = b1 ∧ x1o = 0 ∧ xa = a ∧ xl = prs.length ∧ xc = c ∧ n = ((prs.length : Nat) : Int) ∧ ∃ j : Nat, i = (j : Int) ∧ j ≤ prs.length ∧ N = prs.length - j ∧ Le m1 mm ∧ formL k (prs.map (·.1)) = formL k ((prs.map (·.1)).drop j), prs.length,
      ⟨rfl, rfl, rfl, rfl, rfl, rfl, 0, rfl, by omega, by omega, hle2, rfl⟩, ?_⟩
    rintro N x1b x1o xa xl xc n i mm ⟨rfl, rfl, rfl, rfl, rfl, rfl, j, rfl, hj, rfl, hlm, hfl⟩
    unfold regex_formed.l3B
    refine BrD (fun hlt => ?_) (fun hge => ?_)
    · have hjl : j < prs.length := by omega
      have hpm := List.getElem_mem hjl
      obtain ⟨a', l', c', hv⟩ := (hp _ hpm).sl
      have hdrop : (prs.map (·.1)).drop j = prs[j].1 :: (prs.map (·.1)).drop (j + 1) := by
        rw [List.drop_eq_getElem_cons (by rw [hlen]; exact hjl), List.getElem_map]
      rw [hdrop, formL_cons] at hfl
      refine IxS.rx6 (hc.le (hle.trans hlm)) hjl hv ?_
      refine copyRx ?_
      intro b4 m7 hb4 hle7 h7
      have hl7 := hlm.trans hle7
      refine LdV.s0 h7 (UnI.mk ?_)
      refine LdV.s0 (hl7 _ _ h1) (UnI.mk ?_)
      refine BrE (fun e => ?_) (fun e => ?_)
      · have := hk2 m7 (hle.trans hl7)
        rw [hfl] at this
        rw [show decide (prs[j].1.k ≠ k) = false by simpa using e] at this
        simpa using this
      refine get6 h7 ?_
      have hih := ih prs[j].1 (List.mem_map.mpr ⟨_, hpm, rfl⟩) (m := m7) (v := .slice a' l' c') (R := Cont (fun v m8 => UnB v fun x65 => Br (!x65) (R (.returned (.bool false)) m8) (∃ N1, N1 < prs.length - j ∧ (x1b = x1b ∧ (0 : Nat) = 0 ∧ xa = xa ∧ prs.length = prs.length ∧ xc = xc ∧ ((prs.length : Nat) : Int) = ((prs.length : Nat) : Int) ∧ ∃ j' : Nat, IntKind.i64.wrap ((j : Int) + 1) = (j' : Int) ∧ j' ≤ prs.length ∧ N1 = prs.length - j' ∧ Le m1 m8 ∧ formL k (prs.map (·.1)) = formL k ((prs.map (·.1)).drop j')))) (panicR R)) (by
          have := hp _ hpm
          rw [hv] at this
          exact this.le (hle.trans hl7)) ?_
      · exact hih
      intro m8 hle8
      dsimp only [Cont]
      refine UnB.mk ?_
      have hdk : decide (prs[j].1.k ≠ k) = true := by simpa using e
      rw [hdk, Bool.true_and] at hfl
      refine Br.mk (fun hf => ?_) (fun hf => ?_)
      · have hf : form prs[j].1 = false := by simpa using hf
        have := hk2 m8 (hle.trans (hl7.trans hle8))
        rw [hfl, hf, Bool.false_and] at this
        exact this
      · have hf : form prs[j].1 = true := by simpa using hf
        rw [hf, Bool.true_and] at hfl
        refine ⟨prs.length - (j + 1), by omega, rfl, rfl, rfl, rfl, rfl, rfl, j + 1, ?_, by omega, rfl, hl7.trans hle8, hfl⟩
        rw [wi (by omega) (by omega)]; omega
    · have e : (prs.map (·.1)).drop j = [] := List.drop_eq_nil_of_le (by omega)
      rw [e] at hfl
      have := hk2 mm (hle.trans hlm)
      rw [hfl] at this
      have e2 : formL k [] = true := by unfold formL; rfl
      rw [e2] at this
      exact this
  refine LdV.s0 h1 (UnI.mk ?_)
  refine BrE (fun e => ?_) (fun e => ?_)
  · rw [if_pos e] at hk
    refine LdV.s5 h1 (UnS.mk ?_)
    refine BrE (fun e2 => ?_) (fun e2 => ?_)
    · have hz : prs = [] := List.eq_nil_of_length_eq_zero (by omega)
      refine LdV.s1 h1 (UnI.mk (LdV.s2 h1 (UnI.mk (LdV.s3 h1 (UnI.mk (LdV.s4 h1 (UnI.mk ?_)))))))
      rw [eq4_zero]
      have := hk m1 hle
      rw [hz] at this
      simpa using this
    · have := hk m1 hle
      have hz : (prs.map (·.1)).isEmpty = false := by
        cases prs with
        | nil => simp at e2
        | cons p qs => rfl
      rw [hz] at this
      simpa using this
  rw [if_neg e] at hk
  refine LdV.s1 h1 (UnI.mk (LdV.s2 h1 (UnI.mk (LdV.s3 h1 (UnI.mk (LdV.s4 h1 (UnI.mk ?_)))))))
  rw [eq4_zero]
  refine Br.mk (fun hS => ?_) (fun hS => ?_)
  · rw [if_pos (by simpa using hS)] at hk
    exact hk m1 hle
  rw [if_neg (by simpa using hS)] at hk
  refine LdV.s0 h1 (UnI.mk ?_)
  have k1t : (k = 2 ∨ k = 3) → regex_formed.k1 b1 0 true R m1 := by
    intro h23
    rw [if_pos h23, hlen] at hk
    unfold regex_formed.k1
    refine Br.t rfl ?_
    refine LdV.s5 h1 (UnS.mk ?_)
    refine BrD (fun h2 => ?_) (fun h2 => ?_)
    · have := hk m1 hle
      rw [show decide (2 ≤ prs.length) = false by simp; omega] at this
      simpa using this
    · refine k2 m1 (Le.refl _) ?_
      rw [show decide (2 ≤ prs.length) = true by simp; omega] at hk
      simpa using hk
  refine BrE (fun h2 => k1t (.inl h2)) (fun h2 => ?_)
  refine LdV.s0 h1 (UnI.mk ?_)
  by_cases h3 : k = 3
  · have : (k == 3) = true := by simpa using h3
    rw [this]
    exact k1t (.inr h3)
  have hk3 : (k == 3) = false := by simpa using h3
  rw [hk3]
  rw [if_neg (by rintro (h | h); exact h2 h; exact h3 h), hlen] at hk
  unfold regex_formed.k1
  refine Br.f rfl ?_
  refine LdV.s0 h1 (UnI.mk ?_)
  refine sign_spec ?_
  dsimp only [Cont]
  refine UnB.mk ?_
  refine Br.mk (fun hs => ?_) (fun hs => ?_)
  rotate_left
  · rw [if_neg (by rw [hs]; decide)] at hk
    exact hk m1 hle
  rw [if_pos hs] at hk
  refine LdV.s5 h1 (UnS.mk ?_)
  refine BrN (fun h1' => ?_) (fun h1' => ?_)
  · have := hk m1 hle
    rw [show decide (prs.length = 1) = false by simp; omega] at this
    simpa using this
  have hl1 : prs.length = 1 := by omega
  refine LdV.s5 h1 (UnS.mk ?_)
  refine IxS.rxk (hc.le hle) (j := 0) (by omega) ?_
  refine sign_spec ?_
  dsimp only [Cont]
  refine UnB.mk ?_
  obtain ⟨p, rfl⟩ := List.length_eq_one_iff.mp hl1
  refine Br.mk (fun hsg => ?_) (fun hsg => ?_)
  · have := hk m1 hle
    have hsg : sgK p.1.k = true := hsg
    simp [hsg] at this
    exact this
  · have hsg : sgK p.1.k = false := hsg
    refine k2 m1 (Le.refl _) ?_
    intro m' hm'
    have := hk m' hm'
    simp [hsg] at this
    exact this
theorem size_spec (r : Rx) : ∀ {m : Mem} {v : Value} {R : Ending → Mem → Prop}, ArgC m r v → nodes r ≤ 4000000000000000000 → (∀ m', Le m m' → R (.returned (.tuple #[.int .i64 (nodes r : Nat), .int .i64 (depth r : Nat)])) m') → HC P regex_size.id #[rxA r.k r.S v] m R := by
  refine Rx.ind (C := fun r => ∀ {m : Mem} {v : Value} {R : Ending → Mem → Prop}, ArgC m r v → nodes r ≤ 4000000000000000000 → (∀ m', Le m m' → R (.returned (.tuple #[.int .i64 (nodes r : Nat), .int .i64 (depth r : Nat)])) m') → HC P regex_size.id #[rxA r.k r.S v] m R) ?_ r
  intro k S ps ih m v R ha hn hk
  obtain ⟨prs, a, c, rfl, rfl, hl, hb, hc, hp⟩ := ha.inv
  show HC P regex_size.id #[rxA k S (.slice a prs.length c)] m R
  refine regex_size.ok _ _ _ _ _ _ _ _ _ _ ?_
  refine newRx ?_
  intro b1 m1 hb1 hle h1
  have hlen : (prs.map (·.1)).length = prs.length := List.length_map _
  rw [nodes_mk] at hn hk
  rw [depth_mk] at hk
  refine LdV.s5 h1 (UnS.mk ?_)
  refine ⟨fun N nd dp xa xl xc n i mm => xa = a ∧ xl = prs.length ∧ xc = c ∧ n = ((prs.length : Nat) : Int) ∧ ∃ j : Nat, i = (j : Int) ∧ j ≤ prs.length ∧ N = prs.length - j ∧ Le m1 mm ∧ nd = ((nodesL ((prs.map (·.1)).take j) : Nat) : Int) ∧ dp = ((depthL ((prs.map (·.1)).take j) : Nat) : Int), prs.length,
    ⟨rfl, rfl, rfl, rfl, 0, rfl, by omega, by omega, Le.refl _, by unfold nodesL; rfl, by unfold depthL; rfl⟩, ?_⟩
  rintro N nd dp xa xl xc n i mm ⟨rfl, rfl, rfl, rfl, j, rfl, hj, rfl, hlm, rfl, rfl⟩
  unfold regex_size.l1B
  refine BrD (fun hlt => ?_) (fun hge => ?_)
  · have hjl : j < prs.length := by omega
    have hpm := List.getElem_mem hjl
    obtain ⟨a', l', c', hv⟩ := (hp _ hpm).sl
    have hg : (prs.map (·.1))[j]? = some prs[j].1 := by rw [List.getElem?_map, List.getElem?_eq_getElem hjl]; rfl
    obtain ⟨e1, e2, e3⟩ := nodesL_take hg
    have e4 := depth_nodes prs[j].1
    refine IxS.rx6 (hc.le (hle.trans hlm)) hjl hv ?_
    refine copyRx ?_
    intro b4 m7 hb4 hle7 h7
    have hl7 := hlm.trans hle7
    refine get6 h7 ?_
    refine ih prs[j].1 (List.mem_map.mpr ⟨_, hpm, rfl⟩) (m := m7) (v := .slice a' l' c') (by
        have := hp _ hpm
        rw [hv] at this
        exact this.le (hle.trans hl7)) (by omega) ?_
    intro m8 hle8
    refine ⟨prs.length - (j + 1), by omega, rfl, rfl, rfl, rfl, j + 1, ?_, by omega, rfl, hl7.trans hle8, ?_, ?_⟩
    · rw [wi (by omega) (by omega)]; omega
    · rw [wi (by omega) (by omega), e1]; omega
    · rw [e2]; split <;> omega
  · have e : (prs.map (·.1)).take j = prs.map (·.1) := List.take_of_length_le (by omega)
    rw [e]
    unfold regex_size.k2
    have hd : depthL (prs.map (·.1)) ≤ nodesL (prs.map (·.1)) := by
      have := depth_nodes (.mk k S (prs.map (·.1)))
      rw [depth_mk, nodes_mk] at this; omega
    rw [wi (by omega) (by omega), wi (by omega) (by omega)]
    have := hk mm (hle.trans hlm)
    exact this
theorem May_spec {r : Rx} {m : Mem} {v : Value} {R : Ending → Mem → Prop} (ha : ArgC m r v) (hn : nodes r ≤ 4000000000000000000) (hk : ∀ m', Le m m' → R (.returned (.int .i64 (may r))) m') : HC P regex_May.id #[rxA r.k r.S v] m R := by
  obtain ⟨a, l, c, rfl⟩ := ha.sl
  refine regex_May.ok _ _ _ _ _ _ _ _ _ _ ?_
  refine newRx ?_
  intro b1 m1 hb1 hle h1
  refine get6 h1 ?_
  refine formed_spec r (ha.le hle) ?_
  intro m2 hle2
  dsimp only [Cont]
  refine UnB.mk ?_
  unfold may at hk
  refine Br.mk (fun hf => ?_) (fun hf => ?_)
  · rw [if_neg (by simpa using hf)] at hk
    exact hk m2 (hle.trans hle2)
  rw [if_pos (by simpa using hf)] at hk
  refine get6 (hle2 _ _ h1) ?_
  refine size_spec r (ha.le (hle.trans hle2)) hn ?_
  intro m3 hle3
  have hle3' := hle.trans (hle2.trans hle3)
  refine BrD (fun h4 => ?_) (fun h4 => ?_)
  · rw [if_pos (.inl (by omega))] at hk
    exact hk m3 hle3'
  refine BrD (fun h5 => ?_) (fun h5 => ?_)
  · rw [if_pos (.inr (by omega))] at hk
    exact hk m3 hle3'
  rw [if_neg (by omega)] at hk
  exact hk m3 hle3'
theorem nullA_cons (r : Rx) (rs : List Rx) : nullA (r :: rs) = (null r && nullA rs) := by conv => lhs; unfold nullA
theorem nullE_cons (r : Rx) (rs : List Rx) : nullE (r :: rs) = (null r || nullE rs) := by conv => lhs; unfold nullE
theorem Null_spec (r : Rx) : ∀ {m : Mem} {v : Value} {R : Ending → Mem → Prop}, ArgC m r v → (∀ m', Le m m' → R (.returned (.bool (null r))) m') → HC P regex_Null.id #[rxA r.k r.S v] m R := by
  refine Rx.ind (C := fun r => ∀ {m : Mem} {v : Value} {R : Ending → Mem → Prop}, ArgC m r v → (∀ m', Le m m' → R (.returned (.bool (null r))) m') → HC P regex_Null.id #[rxA r.k r.S v] m R) ?_ r
  intro k S ps ih m v R ha hk
  obtain ⟨prs, a, c, rfl, rfl, hl, hb, hc, hp⟩ := ha.inv
  show HC P regex_Null.id #[rxA k S (.slice a prs.length c)] m R
  refine regex_Null.ok _ _ _ _ _ _ _ _ _ _ ?_
  refine newRx ?_
  intro b1 m1 hb1 hle h1
  have hlen : (prs.map (·.1)).length = prs.length := List.length_map _
  rw [null_mk] at hk
  have hdrop : ∀ (j : Nat) (hjl : j < prs.length), (prs.map (·.1)).drop j = prs[j].1 :: (prs.map (·.1)).drop (j + 1) := by
    intro j hjl
    rw [List.drop_eq_getElem_cons (by rw [hlen]; exact hjl), List.getElem_map]
  have all : (∀ m', Le m m' → R (.returned (.bool (nullA (prs.map (·.1))))) m') → regex_Null.k2 b1 0 k true R m1 := by
    intro hk2
    unfold regex_Null.k2
    refine Br.t rfl ?_
    refine LdV.s5 h1 (UnS.mk ?_)
    refine ⟨fun N xa xl xc n i mm => xa = a ∧ xl = prs.length ∧ xc = c ∧ n = ((prs.length : Nat) : Int) ∧ ∃ j : Nat, i = (j : Int) ∧ j ≤ prs.length ∧ N = prs.length - j ∧ Le m1 mm ∧ nullA (prs.map (·.1)) = nullA ((prs.map (·.1)).drop j), prs.length,
      ⟨rfl, rfl, rfl, rfl, 0, rfl, by omega, by omega, Le.refl _, rfl⟩, ?_⟩
    rintro N xa xl xc n i mm ⟨rfl, rfl, rfl, rfl, j, rfl, hj, rfl, hlm, hfl⟩
    unfold regex_Null.l3B
    refine BrD (fun hlt => ?_) (fun hge => ?_)
    · have hjl : j < prs.length := by omega
      have hpm := List.getElem_mem hjl
      obtain ⟨a', l', c', hv⟩ := (hp _ hpm).sl
      rw [hdrop j hjl, nullA_cons] at hfl
      refine IxS.rx6 (hc.le (hle.trans hlm)) hjl hv ?_
      refine copyRx ?_
      intro b4 m7 hb4 hle7 h7
      have hl7 := hlm.trans hle7
      refine get6 h7 ?_
      refine ih prs[j].1 (List.mem_map.mpr ⟨_, hpm, rfl⟩) (m := m7) (v := .slice a' l' c') (by
          have := hp _ hpm
          rw [hv] at this
          exact this.le (hle.trans hl7)) ?_
      intro m8 hle8
      dsimp only [Cont]
      refine UnB.mk ?_
      refine Br.mk (fun hf => ?_) (fun hf => ?_)
      · have hf : null prs[j].1 = false := by simpa using hf
        rw [hf, Bool.false_and] at hfl
        rw [hfl] at hk2
        exact hk2 m8 (hle.trans (hl7.trans hle8))
      · have hf : null prs[j].1 = true := by simpa using hf
        rw [hf, Bool.true_and] at hfl
        refine ⟨prs.length - (j + 1), by omega, rfl, rfl, rfl, rfl, j + 1, ?_, by omega, rfl, hl7.trans hle8, hfl⟩
        rw [wi (by omega) (by omega)]; omega
    · have e : (prs.map (·.1)).drop j = [] := List.drop_eq_nil_of_le (by omega)
      have e2 : nullA [] = true := by unfold nullA; rfl
      rw [e, e2] at hfl
      rw [hfl] at hk2
      exact hk2 mm (hle.trans hlm)
  refine LdV.s0 h1 (UnI.mk ?_)
  have k1t : (k = 4 ∨ k = 6) → regex_Null.k1 b1 0 k true R m1 := by
    intro h
    rw [if_pos h] at hk
    unfold regex_Null.k1
    exact Br.t rfl (hk m1 hle)
  refine BrE (fun e => k1t (.inl e)) (fun e4 => ?_)
  by_cases e6 : k = 6
  · rw [show (k == 6) = true by simpa using e6]
    exact k1t (.inr e6)
  rw [show (k == 6) = false by simpa using e6]
  rw [if_neg (by rintro (h | h); exact e4 h; exact e6 h)] at hk
  unfold regex_Null.k1
  refine Br.f rfl ?_
  refine BrE (fun e2 => ?_) (fun e2 => ?_)
  · rw [if_pos (.inl e2)] at hk
    exact all hk
  by_cases e5 : k = 5
  · rw [show (k == 5) = true by simpa using e5]
    rw [if_pos (.inr e5)] at hk
    exact all hk
  rw [show (k == 5) = false by simpa using e5]
  rw [if_neg (by rintro (h | h); exact e2 h; exact e5 h)] at hk
  unfold regex_Null.k2
  refine Br.f rfl ?_
  refine BrE (fun e3 => ?_) (fun e3 => ?_)
  rotate_left
  · rw [if_neg e3] at hk
    exact hk m1 hle
  rw [if_pos e3] at hk
  refine LdV.s5 h1 (UnS.mk ?_)
  refine ⟨fun N xa xl xc n i mm => xa = a ∧ xl = prs.length ∧ xc = c ∧ n = ((prs.length : Nat) : Int) ∧ ∃ j : Nat, i = (j : Int) ∧ j ≤ prs.length ∧ N = prs.length - j ∧ Le m1 mm ∧ nullE (prs.map (·.1)) = nullE ((prs.map (·.1)).drop j), prs.length,
    ⟨rfl, rfl, rfl, rfl, 0, rfl, by omega, by omega, Le.refl _, rfl⟩, ?_⟩
  rintro N xa xl xc n i mm ⟨rfl, rfl, rfl, rfl, j, rfl, hj, rfl, hlm, hfl⟩
  unfold regex_Null.l4B
  refine BrD (fun hlt => ?_) (fun hge => ?_)
  · have hjl : j < prs.length := by omega
    have hpm := List.getElem_mem hjl
    obtain ⟨a', l', c', hv⟩ := (hp _ hpm).sl
    rw [hdrop j hjl, nullE_cons] at hfl
    refine IxS.rx6 (hc.le (hle.trans hlm)) hjl hv ?_
    refine copyRx ?_
    intro b4 m7 hb4 hle7 h7
    have hl7 := hlm.trans hle7
    refine get6 h7 ?_
    refine ih prs[j].1 (List.mem_map.mpr ⟨_, hpm, rfl⟩) (m := m7) (v := .slice a' l' c') (by
        have := hp _ hpm
        rw [hv] at this
        exact this.le (hle.trans hl7)) ?_
    intro m8 hle8
    dsimp only [Cont]
    refine UnB.mk ?_
    refine Br.mk (fun hf => ?_) (fun hf => ?_)
    · rw [hf, Bool.true_or] at hfl
      rw [hfl] at hk
      exact hk m8 (hle.trans (hl7.trans hle8))
    · rw [hf, Bool.false_or] at hfl
      refine ⟨prs.length - (j + 1), by omega, rfl, rfl, rfl, rfl, j + 1, ?_, by omega, rfl, hl7.trans hle8, hfl⟩
      rw [wi (by omega) (by omega)]; omega
  · have e : (prs.map (·.1)).drop j = [] := List.drop_eq_nil_of_le (by omega)
    have e2 : nullE [] = false := by unfold nullE; rfl
    rw [e, e2] at hfl
    rw [hfl] at hk
    exact hk mm (hle.trans hlm)
end
end Go.E.Rg
set_option linter.unusedVariables false
namespace Go.Proofs
open Go.Shelf
def Tryd.lays156_ren : Go.Shelf.Ren := ⟨fun | 156 => 43 | 165 => 59 | 166 => 60 | 169 => 61 | 240 => 75 | 241 => 76 | 276 => 81 | 277 => 82 | n => n, fun | 31 => 46 | 9 => 9 | 3 => 3 | 4 => 4 | 0 => 0 | 20 => 20 | 72 => 86 | 76 => 90 | 70 => 84 | 37 => 37 | 75 => 89 | 127 => 102 | 164 => 104 | 5 => 5 | 80 => 92 | n => n, fun | n => n⟩
theorem Tryd.lays156 : Go.Proofs.Lays.n156 Tryd.prog Tryd.lays156_ren := {
  mixed := by kernel_rfl
  f156 := Tryd.func43.trans (congrArg some (by kernel_rfl))
  f165 := Tryd.func59.trans (congrArg some (by kernel_rfl))
  f166 := Tryd.func60.trans (congrArg some (by kernel_rfl))
  f169 := Tryd.func61.trans (congrArg some (by kernel_rfl))
  f240 := Tryd.func75.trans (congrArg some (by kernel_rfl))
  f241 := Tryd.func76.trans (congrArg some (by kernel_rfl))
  f276 := Tryd.func81.trans (congrArg some (by kernel_rfl))
  f277 := Tryd.func82.trans (congrArg some (by kernel_rfl))
  t0 := Tryd.underlying0
  a0 := Tryd.isAgg0
  z0 := Tryd.sizeOf0
  v0 := Tryd.zeroValue0
  t3 := Tryd.underlying3
  a3 := Tryd.isAgg3
  z3 := Tryd.sizeOf3
  v3 := Tryd.zeroValue3
  t4 := Tryd.underlying4
  a4 := Tryd.isAgg4
  z4 := Tryd.sizeOf4
  v4 := Tryd.zeroValue4
  t9 := Tryd.underlying9
  a9 := Tryd.isAgg9
  z9 := Tryd.sizeOf9
  v9 := Tryd.zeroValue9
  t20 := Tryd.underlying20
  a20 := Tryd.isAgg20
  z20 := Tryd.sizeOf20
  v20 := Tryd.zeroValue20
  t31 := Tryd.underlying46
  a31 := Tryd.isAgg46
  z31 := Tryd.sizeOf46
  v31 := Tryd.zeroValue46
  t37 := Tryd.underlying37
  a37 := Tryd.isAgg37
  z37 := Tryd.sizeOf37
  v37 := Tryd.zeroValue37
  t70 := Tryd.underlying84
  a70 := Tryd.isAgg84
  z70 := Tryd.sizeOf84
  v70 := Tryd.zeroValue84
  t72 := Tryd.underlying86
  a72 := Tryd.isAgg86
  z72 := Tryd.sizeOf86
  v72 := Tryd.zeroValue86
  t75 := Tryd.underlying89
  a75 := Tryd.isAgg89
  z75 := Tryd.sizeOf89
  v75 := Tryd.zeroValue89
  t76 := Tryd.underlying90
  a76 := Tryd.isAgg90
  z76 := Tryd.sizeOf90
  v76 := Tryd.zeroValue90
  t127 := Tryd.underlying102
  a127 := Tryd.isAgg102
  z127 := Tryd.sizeOf102
  v127 := Tryd.zeroValue102
  t164 := Tryd.underlying104
  a164 := Tryd.isAgg104
  z164 := Tryd.sizeOf104
  v164 := Tryd.zeroValue104 }
theorem Tryd.Builder_Extra_156 : Builder.Extra Tryd.prog Tryd.lays156_ren := {
  sizeBuilder := by kernel_rfl
  liesBuilder := by kernel_rfl
  t5 := Tryd.underlying5
  a5 := Tryd.isAgg5
  z5 := Tryd.sizeOf5
  v5 := Tryd.zeroValue5
  infoByte := by kernel_rfl
  cellsByte := by kernel_rfl
  sizeByte := by kernel_rfl
  neB5 := by decide }
open Go.RowKit in
/-- No element: the empty string; the world is as it was. (Whatever the slice's address and capacity: a nil slice too.) (LAID: no walk: one application.) -/
theorem Tryd.strings_Join_none (a : Option Addr) (c : Nat) (sep : ByteArray) (w : World) :
    Calls Tryd.prog 43 #[.slice a 0 c, .string sep] w fun e w' => e = .returned (.string ⟨#[]⟩) ∧ w' = w := Any.strings_Join_none Tryd.lays156 Tryd.Builder_Extra_156 a c sep w
open Go.RowKit in
/-- strings.Join: "Join concatenates the elements of its first argument to create a single string. The separator string sep is placed between elements in the resulting string.": HOWEVER MANY ELEMENTS. Below the heap's end the world is as it was. (LAID: no walk: one application.) -/
theorem Tryd.strings_Join (bk o c : Nat) (xs : List ByteArray) (sep : ByteArray) (w : World) (hcells : ∀ (j : Nat) x, xs[j]? = some x → w.cell? ⟨bk, o + j, none⟩ = some (.string x)) (hbk : bk < w.heap.size) (hN : xs.length ≤ 140737488355328) (hcap : xs.length ≤ c) (hlen : (Lib.join (xs.map (·.data.toList)) sep.data.toList).length ≤ 140737488355328) :
    Calls Tryd.prog 43 #[.slice (some ⟨bk, o, none⟩) xs.length c, .string sep] w fun e w' => e = .returned (.string ⟨(Lib.join (xs.map (·.data.toList)) sep.data.toList).toArray⟩) ∧ Go.RowKit.Below w.heap.size w w' := Any.strings_Join Tryd.lays156 Tryd.Builder_Extra_156 bk o c xs sep w hcells hbk hN hcap hlen
end Go.Proofs
namespace Go.E
open Go.H Go.Proofs
/-- A contract over the whole world, as my logic tells it: no block that was told has turned. -/
theorem HC_below {f : FuncId} {fn : Func} {args : Array Value} {m : Mem} {R : Ending → Mem → Prop} {e0 : Ending} (hf : P.funcs[f]? = some fn) (hn : (fn.name == "runtime.NumGoroutine") = false) (hb : fn.body.isNone = false) (h0 : e0 ≠ .outgrown)
    (h : ∀ w, Fit m w → Calls P f args w fun e w' => e = e0 ∧ Go.RowKit.Below w.heap.size w w') (k : R e0 m) : HC P f args m R := by
  refine .inl ⟨fun w => callFunc_enters hf hn hb args w, fun w hF => ?_⟩
  refine (h w hF).mono ?_
  rintro e w' ⟨rfl, hw⟩
  refine ⟨m, h0, k, fun b o hb => ?_, hw.os, hw.tape, hw.output, hw.size, fun b hb _ => hw.block b hb, fun b _ hm => hm⟩
  rw [hw.block b (hF.lt hb)]
  exact hF b o hb
/-- strings.Join. -/
theorem Join_spec {m : Mem} {a : Option Addr} {c : Nat} {xs : List (List UInt8)} {sep : List UInt8} (hc : CellsAt m a (xs.map fun x => Value.string (bstr x))) (hN : xs.length ≤ 1000000) (hcap : xs.length ≤ c) (hlen : (sep.intercalate xs).length ≤ 1000000000) {R : Ending → Mem → Prop}
    (k : R (.returned (.string (bstr (sep.intercalate xs)))) m) : HC P strings_Join.id #[.slice a xs.length c, .string (bstr sep)] m R := by
  cases hx : xs with
  | nil =>
    subst hx
    refine HC_below (e0 := .returned (.string ⟨#[]⟩)) Go.Proofs.Tryd.func43 (by kernel_rfl) (by kernel_rfl) (by simp) (fun w hF => ?_) k
    refine (Go.Proofs.Tryd.strings_Join_none a c (bstr sep) w).mono ?_
    rintro e w' ⟨rfl, rfl⟩
    exact ⟨rfl, Go.RowKit.Below.refl _ _⟩
  | cons x r =>
    rw [← hx]
    rcases hc.cases with ⟨b, o, rfl, hcell⟩ | ⟨he, _⟩
    rotate_left
    · rw [hx] at he; cases he
    have hm : (xs.map bstr).map (·.data.toList) = xs := by
      rw [List.map_map]
      have : ((fun s : ByteArray => s.data.toList) ∘ bstr) = id := by funext l; simp [bstr]
      rw [this, List.map_id]
    have hs : (bstr sep).data.toList = sep := by simp [bstr]
    have hb : ∃ obj, m b = some obj := by
      have := hcell 0 (.string (bstr x)) (by rw [hx]; rfl)
      unfold Mem.cell at this
      cases hm' : m b with
      | none => rw [hm'] at this; cases this
      | some obj => exact ⟨obj, rfl⟩
    obtain ⟨obj, hobj⟩ := hb
    refine HC_below (e0 := .returned (.string (bstr (sep.intercalate xs)))) Go.Proofs.Tryd.func43 (by kernel_rfl) (by kernel_rfl) (by simp) (fun w hF => ?_) k
    have hl : (xs.map bstr).length = xs.length := List.length_map _
    have hj : Lib.join ((xs.map bstr).map (·.data.toList)) (bstr sep).data.toList = sep.intercalate xs := by rw [hm, hs]; rfl
    have := Go.Proofs.Tryd.strings_Join b o c (xs.map bstr) (bstr sep) w (fun j y hy => ?_) (hF.lt hobj) (by omega) (by omega) (by rw [hj]; omega)
    · rw [hj, hl] at this
      exact this
    · rw [List.getElem?_map] at hy
      cases hxj : xs[j]? with
      | none => rw [hxj] at hy; cases hy
      | some z =>
        rw [hxj] at hy
        cases hy
        refine cell?_of hF rfl (hcell j _ ?_)
        rw [List.getElem?_map, hxj]; rfl
end Go.E
set_option linter.unusedVariables false
set_option linter.unusedSimpArgs false
set_option maxRecDepth 20000
namespace Go.E.Rg
open Go.H Go.E
attribute [local irreducible] BiN MkS ConvN LookN MapUpN CallV HC limb dbTab
theorem eSt : ElemOK P T_sl_string T_string (.string (ByteArray.mk #[])) 1 16 := .of (by kernel_rfl) (by kernel_rfl) rfl
theorem inter_bar (xs : List (List UInt8)) : ([124] : List UInt8).intercalate xs = joinBar xs := by
  match xs with
  | [] => rfl
  | x :: r =>
    rw [joinBar_flat]
    induction r generalizing x with
    | nil => simp [List.intercalate]
    | cons y r ih =>
      have := ih y
      unfold List.intercalate at this ⊢
      rw [List.intersperse_cons_cons, List.flatten_cons, List.flatten_cons, this]
      simp
theorem inter_nil (xs : List (List UInt8)) : ([] : List UInt8).intercalate xs = xs.flatten := by
  match xs with
  | [] => rfl
  | x :: r =>
    induction r generalizing x with
    | nil => simp [List.intercalate]
    | cons y r ih =>
      have := ih y
      unfold List.intercalate at this ⊢
      rw [List.intersperse_cons_cons, List.flatten_cons, List.flatten_cons, this]
      simp
theorem shw_mk (k : Int) (S : Nat → Bool) (ps : List Rx) : shw (.mk k S ps) = (if k = 1 then shW S
    else if k = 3 then joinBar (ps.map (wt (rank k + 1)))
    else if sgK k = true then (ps.map (wt (rank k + 1))).flatten ++ [sgB k]
    else (ps.map (wt (rank k + 1))).flatten) := by
  conv => lhs; unfold shw
  rw [shwL_map]
theorem flat_len (l : Int) : ∀ (ps : List Rx), (∀ a ∈ ps, (shw a).length ≤ (joinBar (ps.map (wt l))).length ∧ (shw a).length ≤ ((ps.map (wt l)).flatten).length) ∧ ((ps.map (wt l)).flatten).length ≤ (joinBar (ps.map (wt l))).length
  | [] => by simp [joinBar]
  | p :: ps => by
    obtain ⟨ih, ih2⟩ := flat_len l ps
    have hw : ∀ a, (shw a).length ≤ (wt l a).length := by
      intro a
      unfold wt
      split
      · simp; omega
      · exact Nat.le_refl _
    have hj : (joinBar (ps.map (wt l))).length ≤ (((ps.map (wt l)).map fun y => 124 :: y).flatten).length := by
      cases ps with
      | nil => simp [joinBar]
      | cons q qs => rw [List.map_cons, joinBar_flat]; simp
    rw [List.map_cons, joinBar_flat, List.flatten_cons]
    refine ⟨fun a ha => ?_, ?_⟩
    · have h1 := hw p
      rcases List.mem_cons.mp ha with rfl | ha
      · rw [List.length_append, List.length_append]; omega
      · obtain ⟨h2, h3⟩ := ih a ha
        rw [List.length_append, List.length_append]; omega
    · rw [List.length_append, List.length_append]; omega
theorem kid_len {k : Int} {S : Nat → Bool} {ps : List Rx} (hk : k ≠ 1) : ∀ a ∈ ps, (shw a).length ≤ (shw (.mk k S ps)).length := by
  intro a ha
  obtain ⟨h1, _⟩ := flat_len (rank k + 1) ps
  rw [shw_mk, if_neg hk]
  split
  · exact (h1 a ha).1
  · split
    · rw [List.length_append]; have := (h1 a ha).2; omega
    · exact (h1 a ha).2
theorem nodesL_ge : ∀ (ps : List Rx), ps.length ≤ nodesL ps
  | [] => by simp
  | p :: ps => by
    have := nodesL_ge ps
    rw [nodesL_cons, List.length_cons]
    have : 1 ≤ nodes p := by cases p; rw [nodes_mk]; omega
    omega
theorem nodes_sub {k : Int} {S : Nat → Bool} {ps : List Rx} {a : Rx} (h : a ∈ ps) : nodes a + 1 ≤ nodes (.mk k S ps) := by
  rw [nodes_mk]
  have : ∀ (l : List Rx), a ∈ l → nodes a ≤ nodesL l := by
    intro l
    induction l with
    | nil => intro h; cases h
    | cons p l ih =>
      intro h
      rw [nodesL_cons]
      rcases List.mem_cons.mp h with rfl | h
      · omega
      · have := ih h; omega
  have := this ps h
  omega
def ShowOK (r : Rx) : Prop := ∀ {m : Mem} {v : Value} {R : Ending → Mem → Prop}, ArgC m r v → nodes r ≤ 1000000 → (shw r).length ≤ 100000000 → (∀ m', Le m m' → R (.returned (.string (bstr (shw r)))) m') → HC P regex_Show.id #[rxA r.k r.S v] m R
theorem within_spec {r : Rx} (hs : ShowOK r) {m : Mem} {v : Value} {l : Int} {R : Ending → Mem → Prop} (ha : ArgC m r v) (hn : nodes r ≤ 1000000) (hl : (shw r).length ≤ 100000000) (hk : ∀ m', Le m m' → R (.returned (.string (bstr (wt l r)))) m') :
    HC P regex_within.id #[rxA r.k r.S v, .int .i64 l] m R := by
  obtain ⟨a, len, c, rfl⟩ := ha.sl
  refine regex_within.ok _ _ _ _ _ _ _ _ _ _ _ ?_
  refine newRx ?_
  intro b1 m1 hb1 hle h1
  refine LdV.s0 h1 (UnI.mk ?_)
  refine rank_spec ?_
  dsimp only [Cont]
  refine UnI.mk ?_
  unfold wt at hk
  refine BrD (fun hr => ?_) (fun hr => ?_)
  · rw [if_pos hr] at hk
    refine get6 h1 ?_
    refine hs (ha.le hle) hn hl ?_
    intro m3 hle3
    dsimp only [Cont]
    have e1 : ByteArray.mk #[40] ++ bstr (shw r) = bstr ([40] ++ shw r) := bstr_append [40] _
    have e2 : bstr ([40] ++ shw r) ++ ByteArray.mk #[41] = bstr ([40] ++ shw r ++ [41]) := bstr_append _ [41]
    refine UnStr.mk ⟨by rw [bstr_size]; show 1 + _ ≤ _; omega, ?_⟩
    rw [e1, e2]
    refine ⟨by rw [bstr_size]; show _ + 1 ≤ _; simp; omega, ?_⟩
    exact hk m3 (hle.trans hle3)
  · rw [if_neg hr] at hk
    refine get6 h1 ?_
    refine hs (ha.le hle) hn hl ?_
    intro m3 hle3
    dsimp only [Cont]
    exact UnStr.mk (hk m3 (hle.trans hle3))
theorem sgB_cut {k : Int} (h4 : 4 ≤ k) (h6 : k ≤ 6) {K : ByteArray → Prop} (h : K (bstr [sgB k])) : SlB (ByteArray.mk #[42, 43, 63]) (IntKind.i64.wrap (k - 4)) (IntKind.i64.wrap (IntKind.i64.wrap (k - 4) + 1)) K := by
  rw [wi (n := k - 4) (by omega) (by omega), wi (n := k - 4 + 1) (by omega) (by omega)]
  rcases (by omega : k = 4 ∨ k = 5 ∨ k = 6) with rfl | rfl | rfl
  · exact ⟨by decide, by decide, by decide, h⟩
  · exact ⟨by decide, by decide, by decide, h⟩
  · exact ⟨by decide, by decide, by decide, h⟩
theorem Show_ok (r : Rx) : ShowOK r := by
  refine Rx.ind (C := ShowOK) ?_ r
  intro k S ps ih m v R ha hn hlen hk
  obtain ⟨prs, a, c, rfl, rfl, hl, hb, hc, hp⟩ := ha.inv
  show HC P regex_Show.id #[rxA k S (.slice a prs.length c)] m R
  refine regex_Show.ok _ _ _ _ _ _ _ _ _ _ ?_
  refine newRx ?_
  intro b1 m1 hb1 hle h1
  have hpl : (prs.map (·.1)).length = prs.length := List.length_map _
  have hnl := nodesL_ge (prs.map (·.1))
  refine LdV.s0 h1 (UnI.mk ?_)
  refine BrE (fun e => ?_) (fun e => ?_)
  · rw [shw_mk, if_pos e] at hk
    refine LdV.s1 h1 (UnI.mk (LdV.s2 h1 (UnI.mk (LdV.s3 h1 (UnI.mk (LdV.s4 h1 (UnI.mk ?_)))))))
    refine Show_spec ?_
    intro m2 hle2
    dsimp only [Cont]
    exact UnStr.mk (hk m2 (hle.trans hle2))
  have hkid := kid_len (k := k) (S := S) (ps := prs.map (·.1)) e
  refine LdV.s0 h1 (UnI.mk ?_)
  refine rank_spec ?_
  dsimp only [Cont]
  refine UnI.mk ?_
  refine LdV.s5 h1 (UnS.mk ?_)
  have hrk : rank k ≤ 3 ∧ 0 ≤ rank k := by unfold rank; split <;> (try split) <;> (try split) <;> omega
  rw [wi (n := rank k + 1) (by omega) (by omega)]
  obtain ⟨xs, hxs⟩ : ∃ xs, xs = (prs.map (·.1)).map (wt (rank k + 1)) := ⟨_, rfl⟩
  have hxl : xs.length = prs.length := by rw [hxs, List.length_map, hpl]
  rw [nodes_mk] at hn
  refine ⟨fun N rb ro l la ll lc xa xl xc n i mm => rb = b1 ∧ ro = 0 ∧ l = rank k + 1 ∧ xa = a ∧ xl = prs.length ∧ xc = c ∧ n = ((prs.length : Nat) : Int) ∧ Le m1 mm ∧ Fresh m1 la ∧ ∃ j : Nat, i = (j : Int) ∧ j ≤ prs.length ∧ N = prs.length - j ∧ ll = j ∧ Own mm T_string 1 la ll lc ((xs.take j).map fun x => Value.string (bstr x)), prs.length,
    ⟨rfl, rfl, rfl, rfl, rfl, rfl, rfl, Le.refl _, Fresh.none _, 0, rfl, by omega, by omega, rfl, by simpa using Own.nil m1 T_string 1⟩, ?_⟩
  rintro N rb ro l la ll lc xa xl xc n i mm ⟨rfl, rfl, rfl, rfl, rfl, rfl, rfl, hlm, hfr, j, rfl, hj, rfl, rfl, hown⟩
  unfold regex_Show.l1B
  refine BrD (fun hlt => ?_) (fun hge => ?_)
  · have hjl : ll < prs.length := by omega
    have hpm := List.getElem_mem hjl
    obtain ⟨a', l', c', hv⟩ := (hp _ hpm).sl
    have hmem : prs[ll].1 ∈ prs.map (·.1) := List.mem_map.mpr ⟨_, hpm, rfl⟩
    refine IxS.rx6 (hc.le (hle.trans hlm)) hjl hv ?_
    refine copyRx ?_
    intro b4 m7 hb4 hle7 h7
    have hl7 := hlm.trans hle7
    refine get6 h7 ?_
    have hns := nodes_sub (k := k) (S := S) hmem
    rw [nodes_mk] at hns
    refine within_spec (ih _ hmem) (m := m7) (v := .slice a' l' c') (by
        have := hp _ hpm
        rw [hv] at this
        exact this.le (hle.trans hl7)) (by omega) (by have := hkid _ hmem; omega) ?_
    intro m8 hle8
    dsimp only [Cont]
    refine UnStr.mk ?_
    have hown8 := Own.le (hle7.trans hle8) hown
    refine push_one eSt hown8 (v := .string (bstr (wt (rank k + 1) prs[ll].1))) rfl (by omega) (by decide) ?_
    intro a2 c2 m9 hch ho hg
    refine UnS.mk ?_
    have hl8 := hl7.trans hle8
    refine ⟨prs.length - (ll + 1), by omega, rfl, rfl, rfl, rfl, rfl, rfl, rfl, hch.to_le hl8 (fun b e => hfr b e), ?_, ll + 1, ?_, by omega, rfl, rfl, ?_⟩
    · intro b e
      rcases hg with e2 | e2
      · exact hfr b (e2 ▸ e)
      · exact Fresh.le hl8 e2 b e
    · rw [wi (by omega) (by omega)]; omega
    · have hxj : xs[ll]? = some (wt (rank k + 1) prs[ll].1) := by rw [hxs, List.getElem?_map, List.getElem?_map, List.getElem?_eq_getElem hjl]; rfl
      rw [List.take_add_one, hxj, Option.toList_some, List.map_append]
      exact ho
  · have hj2 : ll = prs.length := by omega
    have hlx : xs.take ll = xs := List.take_of_length_le (by omega)
    rw [hlx] at hown
    have hcap := hown.cap
    have hj3 : ll = xs.length := by omega
    subst hj3
    unfold regex_Show.k2
    rw [shw_mk, if_neg e, ← hxs] at hk hlen
    refine LdV.s0 (hlm _ _ h1) (UnI.mk ?_)
    refine BrE (fun e3 => ?_) (fun e3 => ?_)
    · rw [if_pos e3] at hk hlen
      refine Join_spec (sep := [124]) hown.cells (by omega) hcap (by rw [inter_bar]; omega) ?_
      dsimp only [Cont]
      rw [inter_bar]
      exact UnStr.mk (hk mm (hle.trans hlm))
    rw [if_neg e3] at hk hlen
    refine LdV.s0 (hlm _ _ h1) (UnI.mk ?_)
    refine sign_spec ?_
    dsimp only [Cont]
    refine UnB.mk ?_
    refine Br.mk (fun hs => ?_) (fun hs => ?_)
    · rw [if_pos hs] at hk hlen
      obtain ⟨h4, h6⟩ := sgK_iff.mp hs
      rw [List.length_append] at hlen
      refine LdV.s0 (hlm _ _ h1) (UnI.mk ?_)
      refine ⟨mm, Le.refl _, ?_⟩
      refine sgB_cut h4 h6 ?_
      refine Join_spec (sep := []) hown.cells (by omega) hcap (by rw [inter_nil]; omega) ?_
      dsimp only [Cont]
      rw [inter_nil]
      refine UnStr.mk ⟨by rw [bstr_size, bstr_size]; simp at hlen ⊢; omega, ?_⟩
      rw [bstr_append]
      exact hk mm (hle.trans hlm)
    · rw [if_neg (by rw [hs]; decide)] at hk hlen
      refine Join_spec (sep := []) hown.cells (by omega) hcap (by rw [inter_nil]; omega) ?_
      dsimp only [Cont]
      rw [inter_nil]
      exact UnStr.mk (hk mm (hle.trans hlm))
end Go.E.Rg
set_option linter.unusedVariables false
set_option linter.unusedSimpArgs false
set_option maxRecDepth 20000
namespace Go.E.Rg
open Go.H Go.E
attribute [local irreducible] BiN MkS ConvN LookN MapUpN CallV HC limb dbTab
theorem eBl : ElemOK P T_sl_bool T_bool (.bool false) 1 1 := .of (by kernel_rfl) (by kernel_rfl) rfl
def bl (l : List Bool) : List Value := l.map Value.bool
theorem bl_len (l : List Bool) : (bl l).length = l.length := by simp [bl]
theorem bl_get {l : List Bool} {i : Nat} {b : Bool} (h : l[i]? = some b) : (bl l)[i]? = some (.bool b) := by unfold bl; rw [List.getElem?_map, h]; rfl
theorem IxS.bl {m : Mem} {a : Option Addr} {len : Nat} {l : List Bool} (hc : CellsAt m a (bl l)) (hl : l.length = len) {i : Nat} {b : Bool} (hb : l[i]? = some b) {K : Value → Prop} (k : K (.bool b)) : IxS a len (i : Int) 1 (fun b o => LdV m b o K) := by
  have hi : i < l.length := by
    rcases Nat.lt_or_ge i l.length with h | h
    · exact h
    · rw [List.getElem?_eq_none h] at hb; cases hb
  refine IxS.ld hc (by rw [bl_len]; exact hl) (by omega) (by omega) ?_
  intro v hv
  rw [Int.toNat_natCast, bl_get hb] at hv
  cases hv; exact k
theorem own_new {m : Mem} {b n : Nat} {z : Value} {e : TypeId} (hn : n ≤ 1000000000) : Own (m.set b (.cells (List.replicate n z).toArray e (0, 0))) e 1 (some ⟨b, 0, none⟩) n n (List.replicate n z) := by
  refine ⟨by simp, .inr ⟨b, _, rfl, set_same _ _ _, Nat.le_refl _, by simp, by simp, by omega⟩⟩
theorem orL_succ {out l : List Bool} {j : Nat} {x y : Bool} (hx : out[j]? = some x) (hy : l[j]? = some y) (hl : out.length = l.length) :
    (orL (out.take j) (l.take j) ++ out.drop j).set j (x || y) = orL (out.take (j + 1)) (l.take (j + 1)) ++ out.drop (j + 1) ∧ newL (out.take (j + 1)) (l.take (j + 1)) = (newL (out.take j) (l.take j) || (y && !x)) ∧ (orL (out.take j) (l.take j) ++ out.drop j)[j]? = some x := by
  have hj : j < out.length := by
    rcases Nat.lt_or_ge j out.length with h | h
    · exact h
    · rw [List.getElem?_eq_none h] at hx; cases hx
  have hlen : (orL (out.take j) (l.take j)).length = j := by unfold orL; simp; omega
  have ht : (out.take j).length = (l.take j).length := by simp; omega
  have hd : out.drop j = x :: out.drop (j + 1) := by
    rw [List.drop_eq_getElem_cons hj]
    rw [List.getElem?_eq_getElem hj] at hx
    rw [Option.some.inj hx]
  refine ⟨?_, ?_, ?_⟩
  · rw [List.take_add_one, hx, List.take_add_one, hy, hd, List.set_append_right _ _ (by omega), hlen, Nat.sub_self, List.set_cons_zero]
    unfold orL
    rw [Option.toList_some, Option.toList_some, List.zipWith_append ht]
    simp
  · rw [List.take_add_one, hx, List.take_add_one, hy]
    unfold newL
    rw [Option.toList_some, Option.toList_some, List.zipWith_append ht, List.any_append]
    simp
  · rw [List.getElem?_append_right (by omega), hlen, Nat.sub_self, hd]; rfl
theorem join_spec {m : Mem} {ta la : Option Addr} {tc lc n : Nat} {out l : List Bool} (ho : Own m T_bool 1 ta n tc (bl out)) (hol : out.length = n) (hll : l.length = n) (hn : n ≤ 1000000000) (hl : CellsAt m la (bl l)) (hne : ∀ b, blk la = some b → blk ta ≠ some b) {R : Ending → Mem → Prop}
    (k : ∀ m', Chg (fun b => blk ta = some b) m m' → Own m' T_bool 1 ta n tc (bl (orL out l)) → R (.returned (.bool (newL out l))) m') : HC P regex_join.id #[.slice ta n tc, .slice la n lc] m R := by
  refine regex_join.ok _ _ _ _ _ _ _ _ ?_
  refine ⟨fun N a' l' c' t xa xl xc nn i mm => a' = ta ∧ l' = n ∧ c' = tc ∧ xa = la ∧ xl = n ∧ xc = lc ∧ nn = ((n : Nat) : Int) ∧ Chg (fun b => blk ta = some b) m mm ∧ ∃ j : Nat, i = (j : Int) ∧ j ≤ n ∧ N = n - j ∧ t = newL (out.take j) (l.take j) ∧ Own mm T_bool 1 ta n tc (bl (orL (out.take j) (l.take j) ++ out.drop j)), n,
    ⟨rfl, rfl, rfl, rfl, rfl, rfl, rfl, Chg.refl _ _, 0, rfl, by omega, by omega, by simp [newL], by simpa [orL] using ho⟩, ?_⟩
  rintro N a' l' c' t xa xl xc nn i mm ⟨rfl, rfl, rfl, rfl, rfl, rfl, rfl, hch, j, rfl, hj, rfl, rfl, hown⟩
  unfold regex_join.l1B
  refine BrD (fun hlt => ?_) (fun hge => ?_)
  rotate_left
  · have h1 : out.take j = out := List.take_of_length_le (by omega)
    have h2 : l.take j = l := List.take_of_length_le (by omega)
    have h3 : out.drop j = [] := List.drop_eq_nil_of_le (by omega)
    rw [h1, h2, h3, List.append_nil] at hown
    rw [h1, h2]
    exact k mm hch hown
  have hjn : j < xl := by omega
  obtain ⟨x, hx⟩ : ∃ x, out[j]? = some x := ⟨_, List.getElem?_eq_getElem (by omega)⟩
  obtain ⟨y, hy⟩ : ∃ y, l[j]? = some y := ⟨_, List.getElem?_eq_getElem (by omega)⟩
  obtain ⟨e1, e2, e3⟩ := orL_succ hx hy (by omega)
  have hlc := hl.chg hch (fun b e => hne b e)
  have hrl : (orL (out.take j) (l.take j) ++ out.drop j).length = xl := by
    have := hown.1
    rw [bl_len] at this; omega
  refine IxS.bl hlc hll hy (UnB.mk ?_)
  have kk : ∀ t', t' = newL (out.take (j + 1)) (l.take (j + 1)) → ∀ {K : Option Addr → Nat → Nat → Bool → Option Addr → Nat → Nat → Int → Int → Mem → Prop}, (∀ m', Chg (fun b => blk a' = some b) m m' → Own m' T_bool 1 a' xl c' (bl (orL (out.take (j + 1)) (l.take (j + 1)) ++ out.drop (j + 1))) → K a' xl c' (newL (out.take (j + 1)) (l.take (j + 1))) xa xl xc ((xl : Nat) : Int) ((j + 1 : Nat) : Int) m') → regex_join.k2 K a' xl c' t' (j : Int) y xa xl xc ((xl : Nat) : Int) (j : Int) R mm := by
    intro t' ht K hK
    subst ht
    unfold regex_join.k2
    have ew : IntKind.i64.wrap ((j : Int) + 1) = ((j + 1 : Nat) : Int) := by rw [wi (by omega) (by omega)]; omega
    rw [ew]
    refine IxS.bl hown.cells hrl e3 (UnB.mk ?_)
    refine Br.mk (fun h => ?_) (fun h => ?_)
    · refine hown.st (by omega) (by omega) (v := .bool true) rfl ?_
      intro m' hc' ho'
      refine hK m' (hch.trans hc' (fun b _ e => e)) ?_
      have : (bl (orL (out.take j) (l.take j) ++ out.drop j)).set (j : Int).toNat (.bool true) = bl (orL (out.take (j + 1)) (l.take (j + 1)) ++ out.drop (j + 1)) := by
        rw [← e1, h, Bool.true_or]
        unfold bl
        rw [Int.toNat_natCast, List.map_set]
      rw [← this]; exact ho'
    · refine hown.st (by omega) (by omega) (v := .bool y) rfl ?_
      intro m' hc' ho'
      refine hK m' (hch.trans hc' (fun b _ e => e)) ?_
      have : (bl (orL (out.take j) (l.take j) ++ out.drop j)).set (j : Int).toNat (.bool y) = bl (orL (out.take (j + 1)) (l.take (j + 1)) ++ out.drop (j + 1)) := by
        rw [← e1, h, Bool.false_or]
        unfold bl
        rw [Int.toNat_natCast, List.map_set]
      rw [← this]; exact ho'
  have fin : ∀ m', Chg (fun b => blk a' = some b) m m' → Own m' T_bool 1 a' xl c' (bl (orL (out.take (j + 1)) (l.take (j + 1)) ++ out.drop (j + 1))) → ∃ N1, N1 < xl - j ∧ (a' = a' ∧ xl = xl ∧ c' = c' ∧ xa = xa ∧ xl = xl ∧ xc = xc ∧ ((xl : Nat) : Int) = ((xl : Nat) : Int) ∧ Chg (fun b => blk a' = some b) m m' ∧ ∃ j' : Nat, ((j + 1 : Nat) : Int) = (j' : Int) ∧ j' ≤ xl ∧ N1 = xl - j' ∧ newL (out.take (j + 1)) (l.take (j + 1)) = newL (out.take j') (l.take j') ∧ Own m' T_bool 1 a' xl c' (bl (orL (out.take j') (l.take j') ++ out.drop j'))) :=
    fun m' hc' ho' => ⟨xl - (j + 1), by omega, rfl, rfl, rfl, rfl, rfl, rfl, rfl, hc', j + 1, rfl, by omega, rfl, rfl, ho'⟩
  refine Br.mk (fun ht => ?_) (fun ht => ?_)
  · exact kk true (by rw [e2, ht]; simp) fin
  · refine Br.mk (fun hyt => ?_) (fun hyt => ?_)
    · refine IxS.bl hown.cells hrl e3 (UnB.mk ?_)
      exact kk (!x) (by rw [e2, ht, hyt]; simp) fin
    · exact kk false (by rw [e2, ht, hyt]; simp) fin
end Go.E.Rg
set_option linter.unusedVariables false
set_option linter.unusedSimpArgs false
set_option maxRecDepth 20000
namespace Go.E.Rg
open Go.H Go.E
attribute [local irreducible] BiN MkS ConvN LookN MapUpN CallV HC limb dbTab
/-- The answer under way: its own row, and the expression's own block. -/
structure FO (m mm : Mem) (b3 b n : Nat) (obj : Obj) (out : List Bool) : Prop where
  le : Le m mm
  c3 : mm b3 = some obj
  own : Own mm T_bool 1 (some ⟨b, 0, none⟩) n n (bl out)
  hb : m b = none
  ne : b3 ≠ b
section
variable {m mm m' : Mem} {b3 b n : Nat} {obj : Obj} {out out' : List Bool}
theorem FO.up (h : FO m mm b3 b n obj out) (k : Le mm m') : FO m m' b3 b n obj out := ⟨h.le.trans k, k _ _ h.c3, Own.le k h.own, h.hb, h.ne⟩
theorem FO.to (h : FO m mm b3 b n obj out) (k : Chg (fun x => blk (some ⟨b, 0, none⟩) = some x) mm m') (o : Own m' T_bool 1 (some ⟨b, 0, none⟩) n n (bl out')) : FO m m' b3 b n obj out' :=
  ⟨k.to_le h.le (fun x e => by cases e; exact h.hb), k.eq _ _ h.c3 (fun e => by cases e; exact h.ne rfl), o, h.hb, h.ne⟩
theorem FO.len (h : FO m mm b3 b n obj out) : out.length = n := by have := h.own.1; rw [bl_len] at this; omega
theorem FO.fresh (h : FO m mm b3 b n obj out) : Fresh m (some ⟨b, 0, none⟩) := fun x e => by cases e; exact h.hb
/-- What is told of others is joined. -/
theorem FO.join (h : FO m mm b3 b n obj out) {la : Option Addr} {lc : Nat} {l : List Bool} (hll : l.length = n) (hn : n ≤ 1000000000) (hl : CellsAt mm la (bl l)) (hne : blk la ≠ some b) {R : Ending → Mem → Prop}
    (k : ∀ m', Chg (fun x => blk (some ⟨b, 0, none⟩) = some x) mm m' → FO m m' b3 b n obj (orL out l) → R (.returned (.bool (newL out l))) m') : HC P regex_join.id #[.slice (some ⟨b, 0, none⟩) n n, .slice la n lc] mm R := by
  refine join_spec h.own h.len hll hn hl (fun x e e2 => by cases e2; exact hne e) ?_
  intro m' hch ho
  exact k m' hch (h.to hch ho)
end
theorem zip_snoc {α β γ : Type} (f : α → β → γ) : ∀ {u : List β} {a : List α} {i : Nat} {x : α} {c : β}, u.length = i → a[i]? = some x → List.zipWith f a (u ++ [c]) = List.zipWith f a u ++ [f x c]
  | [], a, i, x, c, h, ha => by
    simp at h; subst h
    cases a with
    | nil => cases ha
    | cons y a => cases ha; simp
  | z :: u, a, i, x, c, h, ha => by
    obtain ⟨i, rfl⟩ : ∃ i', i = i' + 1 := ⟨u.length, by simpa using h.symm⟩
    cases a with
    | nil => cases ha
    | cons y a =>
      rw [List.cons_append, List.zipWith_cons_cons, List.zipWith_cons_cons, zip_snoc f (u := u) (a := a) (i := i) (by simpa using h) (by simpa using ha)]; rfl
theorem setE_succ {S : Nat → Bool} {w : List UInt8} {at_ : List Bool} {i : Nat} {c : UInt8} {x : Bool} (hw : w[i]? = some c) (ha : at_[i]? = some x) (hl : at_.length = w.length + 1) :
    (setE S (w.take i) at_ ++ List.replicate (w.length - i) false).set (i + 1) (x && S c.toNat) = setE S (w.take (i + 1)) at_ ++ List.replicate (w.length - (i + 1)) false := by
  have hi : i < w.length := by
    rcases Nat.lt_or_ge i w.length with h | h
    · exact h
    · rw [List.getElem?_eq_none h] at hw; cases hw
  have hlen : (setE S (w.take i) at_).length = i + 1 := by unfold setE; simp; omega
  have he : setE S (w.take (i + 1)) at_ = setE S (w.take i) at_ ++ [x && S c.toNat] := by
    unfold setE
    rw [List.take_add_one, hw, Option.toList_some, zip_snoc _ (u := w.take i) (i := i) (by simp; omega) ha]
    rfl
  rw [he, show w.length - i = (w.length - (i + 1)) + 1 by omega, List.replicate_succ, List.set_append_right _ _ (by omega), hlen, Nat.sub_self, List.set_cons_zero]
  simp
def FromOK (r : Rx) : Prop := ∀ {m : Mem} {v : Value} {wa aa : Option Addr} {wc ac : Nat} {w : List UInt8} {at_ : List Bool} {R : Ending → Mem → Prop}, ArgC m r v → form r = true → CellsAt m wa (u8s w) → CellsAt m aa (bl at_) → at_.length = w.length + 1 → w.length ≤ 1000000 →
  (∀ m' ra rc, Le m m' → Fresh m ra → CellsAt m' ra (bl (ends w r at_)) → R (.returned (.slice ra (w.length + 1) rc)) m') → HC P regex_from.id #[rxA r.k r.S v, .slice wa w.length wc, .slice aa (w.length + 1) ac] m R
theorem ends_mk (w : List UInt8) (k : Int) (S : Nat → Bool) (ps : List Rx) (at_ : List Bool) : ends w (.mk k S ps) at_ = (if k = 1 then setE S w at_
    else if k = 2 then endsC w ps at_
    else if k = 3 then endsA w ps at_ (List.replicate (w.length + 1) false)
    else if k = 6 then orL (orL (List.replicate (w.length + 1) false) at_) (ends1 w ps at_)
    else manyE (ends1 w ps) (w.length + 1) (if k = 4 then orL (List.replicate (w.length + 1) false) at_ else List.replicate (w.length + 1) false) (ends1 w ps at_)) := by conv => lhs; unfold ends
theorem endsC_cons (w : List UInt8) (r : Rx) (rs : List Rx) (a : List Bool) : endsC w (r :: rs) a = endsC w rs (ends w r a) := by conv => lhs; unfold endsC
theorem endsA_cons (w : List UInt8) (r : Rx) (rs : List Rx) (a o : List Bool) : endsA w (r :: rs) a o = endsA w rs a (orL o (ends w r a)) := by conv => lhs; unfold endsA
theorem ends1_cons (w : List UInt8) (r : Rx) (rs : List Rx) (a : List Bool) : ends1 w (r :: rs) a = ends w r a := by conv => lhs; unfold ends1
/-- A row that lives in a memory is none that is new. -/
theorem live_ne {m : Mem} {a : Option Addr} {l : List Bool} {b : Nat} (h : CellsAt m a (bl l)) (hl : 0 < l.length) (hb : m b = none) : blk a ≠ some b := by
  intro e
  rcases h.cases with ⟨b', o, rfl, hx⟩ | ⟨he, _⟩
  · cases e
    obtain ⟨x, hx'⟩ : ∃ x, l[0]? = some x := ⟨_, List.getElem?_eq_getElem hl⟩
    have := hx 0 _ (bl_get hx')
    unfold Mem.cell at this
    rw [hb] at this; cases this
  · have := bl_len l
    rw [he] at this; simp at this; omega
theorem from_ok (r : Rx) : FromOK r := by
  refine Rx.ind (C := FromOK) ?_ r
  intro k S ps ih m v wa aa wc ac w at_ R ha hf hw hat hal hwl hk
  obtain ⟨prs, a, c, rfl, rfl, hl, hb, hc, hp⟩ := ha.inv
  show HC P regex_from.id #[rxA k S (.slice a prs.length c), .slice wa w.length wc, .slice aa (w.length + 1) ac] m R
  refine regex_from.ok _ _ _ _ _ _ _ _ _ _ _ _ _ _ _ _ ?_
  refine newRx ?_
  intro b3 m1 hb3 hle h1
  have ew : IntKind.i64.wrap (((w.length : Nat) : Int) + 1) = ((w.length + 1 : Nat) : Int) := by rw [wi (by omega) (by omega)]; omega
  rw [ew]
  refine make_one eBl rfl (by omega) (by omega) (by omega) (by omega) ?_
  intro b hb0
  simp only [Int.toNat_natCast]
  refine UnS.mk ?_
  have hfb : m b = none := hle.new hb0
  have hne : b3 ≠ b := by rintro rfl; rw [h1] at hb0; cases hb0
  have hF : FO m (m1.set b (.cells (List.replicate (w.length + 1) (Value.bool false)).toArray T_bool (0, 0))) b3 b (w.length + 1) (.cells (rxO k S (.slice a prs.length c)) T_api_Rx (0, 0)) (List.replicate (w.length + 1) false) :=
    ⟨hle.trans (Le.set hb0 _), Le.set hb0 _ _ _ h1, by
      have := own_new (m := m1) (b := b) (n := w.length + 1) (z := .bool false) (e := T_bool) (by omega)
      unfold bl
      rw [List.map_replicate]; exact this, hfb, hne⟩
  generalize m1.set b (.cells (List.replicate (w.length + 1) (Value.bool false)).toArray T_bool (0, 0)) = m2 at hF
  have hpl : (prs.map (·.1)).length = prs.length := List.length_map _
  have hdrop : ∀ (j : Nat) (hjl : j < prs.length), (prs.map (·.1)).drop j = prs[j].1 :: (prs.map (·.1)).drop (j + 1) := by
    intro j hjl
    rw [List.drop_eq_getElem_cons (by rw [hpl]; exact hjl), List.getElem_map]
  have hel : ∀ (r : Rx) (a : List Bool), a.length = w.length + 1 → (ends w r a).length = w.length + 1 := fun r a h => (ends_iff w r a h).1
  have hatb : blk aa ≠ some b := live_ne hat (by omega) hfb
  rw [ends_mk] at hk
  refine LdV.s0 hF.c3 (UnI.mk ?_)
  refine BrE (fun e1 => ?_) (fun e1 => ?_)
  · -- a set
    rw [if_pos e1] at hk
    refine ⟨fun N xa xl xc xb xo oa ol oc ya yl yc nn i mm => xa = aa ∧ xl = w.length + 1 ∧ xc = ac ∧ xb = b3 ∧ xo = 0 ∧ oa = some ⟨b, 0, none⟩ ∧ ol = w.length + 1 ∧ oc = w.length + 1 ∧ ya = wa ∧ yl = w.length ∧ yc = wc ∧ nn = ((w.length : Nat) : Int) ∧ ∃ i' : Nat, i = (i' : Int) ∧ i' ≤ w.length ∧ N = w.length - i' ∧ FO m mm b3 b (w.length + 1) (.cells (rxO k S (.slice a prs.length c)) T_api_Rx (0, 0)) (setE S (w.take i') at_ ++ List.replicate (w.length - i') false), w.length,
      ⟨rfl, rfl, rfl, rfl, rfl, rfl, rfl, rfl, rfl, rfl, rfl, rfl, 0, rfl, by omega, by omega, by
        have : setE S (w.take 0) at_ ++ List.replicate (w.length - 0) false = List.replicate (w.length + 1) false := by unfold setE; simp [List.replicate_succ]
        rw [this]; exact hF⟩, ?_⟩
    rintro N xa xl xc xb xo oa ol oc ya yl yc nn i mm ⟨rfl, rfl, rfl, rfl, rfl, rfl, rfl, rfl, rfl, rfl, rfl, rfl, i', rfl, hi, rfl, hFO⟩
    unfold regex_from.l1B
    refine BrD (fun hlt => ?_) (fun hge => ?_)
    rotate_left
    · have e : w.take i' = w := List.take_of_length_le (by omega)
      rw [e, show w.length - i' = 0 by omega, List.replicate_zero, List.append_nil] at hFO
      exact hk mm _ _ hFO.le hFO.fresh hFO.own.cells
    have hiw : i' < w.length := by omega
    obtain ⟨ch, hch⟩ : ∃ ch, w[i']? = some ch := ⟨_, List.getElem?_eq_getElem hiw⟩
    obtain ⟨x, hx⟩ : ∃ x, at_[i']? = some x := ⟨_, List.getElem?_eq_getElem (by omega)⟩
    have hstep := setE_succ (S := S) hch hx hal
    have ei : IntKind.i64.wrap ((i' : Int) + 1) = ((i' + 1 : Nat) : Int) := by rw [wi (by omega) (by omega)]; omega
    rw [ei]
    refine IxS.u8s (hw.le hFO.le) rfl (by omega) (by omega) ?_
    intro ch' hch'
    rw [Int.toNat_natCast, hch] at hch'
    cases hch'
    refine UnI.mk ?_
    refine IxS.bl (hat.le hFO.le) hal hx (UnB.mk ?_)
    have nxt : ∀ {mm' : Mem} {y : Bool}, FO m mm' xb b (w.length + 1) (.cells (rxO k S (.slice a prs.length c)) T_api_Rx (0, 0)) (setE S (w.take i') at_ ++ List.replicate (w.length - i') false) → y = (x && S ch.toNat) → ∀ {K : Mem → Prop}, (∀ m', FO m m' xb b (w.length + 1) (.cells (rxO k S (.slice a prs.length c)) T_api_Rx (0, 0)) (setE S (w.take (i' + 1)) at_ ++ List.replicate (w.length - (i' + 1)) false) → K m') → IxS (some ⟨b, 0, none⟩) (w.length + 1) ((i' + 1 : Nat) : Int) 1 fun bb oo => St1 mm' bb oo (.bool y) K := by
      intro mm' y h hy K hK
      refine h.own.st (by omega) (by omega) (v := .bool y) rfl ?_
      intro m' hc' ho'
      refine hK m' (h.to hc' ?_)
      rw [← hstep]
      unfold bl at ho' ⊢
      rw [Int.toNat_natCast] at ho'
      rw [List.map_set, ← hy]; exact ho'
    have fin : ∀ m', FO m m' xb b (w.length + 1) (.cells (rxO k S (.slice a prs.length c)) T_api_Rx (0, 0)) (setE S (w.take (i' + 1)) at_ ++ List.replicate (w.length - (i' + 1)) false) → ∃ N1, N1 < w.length - i' ∧ (xa = xa ∧ w.length + 1 = w.length + 1 ∧ xc = xc ∧ xb = xb ∧ 0 = 0 ∧ (some ⟨b, 0, none⟩ : Option Addr) = some ⟨b, 0, none⟩ ∧ w.length + 1 = w.length + 1 ∧ w.length + 1 = w.length + 1 ∧ ya = ya ∧ w.length = w.length ∧ yc = yc ∧ ((w.length : Nat) : Int) = ((w.length : Nat) : Int) ∧ ∃ i2 : Nat, ((i' + 1 : Nat) : Int) = (i2 : Int) ∧ i2 ≤ w.length ∧ N1 = w.length - i2 ∧ FO m m' xb b (w.length + 1) (.cells (rxO k S (.slice a prs.length c)) T_api_Rx (0, 0)) (setE S (w.take i2) at_ ++ List.replicate (w.length - i2) false)) :=
      fun m' h => ⟨w.length - (i' + 1), by omega, rfl, rfl, rfl, rfl, rfl, rfl, rfl, rfl, rfl, rfl, rfl, rfl, i' + 1, rfl, by omega, rfl, h⟩
    refine Br.mk (fun hxt => ?_) (fun hxt => ?_)
    · refine LdV.s1 hFO.c3 (UnI.mk (LdV.s2 hFO.c3 (UnI.mk (LdV.s3 hFO.c3 (UnI.mk (LdV.s4 hFO.c3 (UnI.mk ?_)))))))
      refine Has_spec (f := S) (b := ch.toNat) (UInt8.toNat_lt ch) ?_
      intro m4 hle4
      dsimp only [Cont]
      refine UnB.mk ?_
      exact nxt (hFO.up hle4) (by rw [hxt, Bool.true_and]) fin
    · exact nxt hFO (by rw [hxt, Bool.false_and]) fin
  rw [if_neg e1] at hk
  have hcases : (∀ a' ∈ prs.map (·.1), a'.k ≠ k ∧ form a' = true) ∧ (((k = 2 ∨ k = 3) ∧ 2 ≤ (prs.map (·.1)).length) ∨ (4 ≤ k ∧ k ≤ 6 ∧ ∃ x, prs.map (·.1) = [x] ∧ sgK x.k = false)) := by
    rcases form_cases hf with ⟨h, _⟩ | ⟨_, h2, h3⟩
    · exact absurd h e1
    · exact ⟨h2, h3⟩
  obtain ⟨hforms, hshape⟩ := hcases
  -- one part
  have part : ∀ (j : Nat) (hjl : j < prs.length) {mm : Mem} {xa : Option Addr} {xc : Nat} {x : List Bool} {v' : Value} {Q : Ending → Mem → Prop}, prs[j].2 = v' → Le m mm → CellsAt mm xa (bl x) → x.length = w.length + 1 →
      (∀ m' ra rc, Le mm m' → Fresh mm ra → CellsAt m' ra (bl (ends w prs[j].1 x)) → Q (.returned (.slice ra (w.length + 1) rc)) m') → HC P regex_from.id #[rxA prs[j].1.k prs[j].1.S v', .slice wa w.length wc, .slice xa (w.length + 1) xc] mm Q := by
    intro j hjl mm xa xc x v' Q hv hlm hx hxl hQ
    have hpm := List.getElem_mem hjl
    have hmem : prs[j].1 ∈ prs.map (·.1) := List.mem_map.mpr ⟨_, hpm, rfl⟩
    refine ih _ hmem (by have := hp _ hpm; rw [hv] at this; exact this.le hlm) (hforms _ hmem).2 (hw.le hlm) hx hxl hwl hQ
  refine BrE (fun e2 => ?_) (fun e2 => ?_)
  · -- one behind the other
    rw [if_pos e2] at hk
    have hl2 : 2 ≤ prs.length := by
      rcases hshape with ⟨_, h⟩ | ⟨h, _⟩
      · rw [hpl] at h; exact h
      · omega
    refine LdV.s5 hF.c3 (UnS.mk ?_)
    refine ⟨fun N wa' wl' wc' xa xl xc ya yl yc nn i mm => wa' = wa ∧ wl' = w.length ∧ wc' = wc ∧ xl = w.length + 1 ∧ ya = a ∧ yl = prs.length ∧ yc = c ∧ nn = ((prs.length : Nat) : Int) ∧ Le m mm ∧ ∃ (j : Nat) (x : List Bool), i = (j : Int) ∧ j ≤ prs.length ∧ N = prs.length - j ∧ CellsAt mm xa (bl x) ∧ x.length = w.length + 1 ∧ endsC w (prs.map (·.1)) at_ = endsC w ((prs.map (·.1)).drop j) x ∧ (j = 0 ∨ Fresh m xa), prs.length,
      ⟨rfl, rfl, rfl, rfl, rfl, rfl, rfl, rfl, hF.le, 0, at_, rfl, by omega, by omega, hat.le hF.le, hal, rfl, .inl rfl⟩, ?_⟩
    rintro N wa' wl' wc' xa xl xc ya yl yc nn i mm ⟨rfl, rfl, rfl, rfl, rfl, rfl, rfl, rfl, hlm, j, x, rfl, hj, rfl, hx, hxl, hend, hfr⟩
    unfold regex_from.l2B
    refine BrD (fun hlt => ?_) (fun hge => ?_)
    · have hjl : j < prs.length := by omega
      obtain ⟨a', l', c', hv⟩ := (hp _ (List.getElem_mem hjl)).sl
      refine IxS.rx6 (hc.le hlm) hjl hv ?_
      refine copyRx ?_
      intro b4 m7 hb4 hle7 h7
      refine get6 h7 ?_
      refine part j hjl hv (hlm.trans hle7) (hx.le hle7) hxl ?_
      intro m8 ra rc hle8 hfr8 hx8
      dsimp only [Cont]
      refine UnS.mk ?_
      rw [hdrop j hjl, endsC_cons] at hend
      refine ⟨prs.length - (j + 1), by omega, rfl, rfl, rfl, rfl, rfl, rfl, rfl, rfl, hlm.trans (hle7.trans hle8), j + 1, _, ?_, by omega, rfl, hx8, hel _ _ hxl, hend, .inr (Fresh.le (hlm.trans hle7) hfr8)⟩
      rw [wi (by omega) (by omega)]; omega
    · have e : (prs.map (·.1)).drop j = [] := List.drop_eq_nil_of_le (by omega)
      have e' : endsC w [] x = x := by unfold endsC; rfl
      rw [e, e'] at hend
      refine hk mm xa xc hlm (hfr.resolve_left (by omega)) ?_
      rw [hend]; exact hx
  rw [if_neg e2] at hk
  refine BrE (fun e3 => ?_) (fun e3 => ?_)
  · -- one of them
    rw [if_pos e3] at hk
    refine LdV.s5 hF.c3 (UnS.mk ?_)
    refine ⟨fun N wa' wl' wc' xa xl xc oa ol oc ya yl yc nn i mm => wa' = wa ∧ wl' = w.length ∧ wc' = wc ∧ xa = aa ∧ xl = w.length + 1 ∧ xc = ac ∧ oa = some ⟨b, 0, none⟩ ∧ ol = w.length + 1 ∧ oc = w.length + 1 ∧ ya = a ∧ yl = prs.length ∧ yc = c ∧ nn = ((prs.length : Nat) : Int) ∧ ∃ (j : Nat) (o : List Bool), i = (j : Int) ∧ j ≤ prs.length ∧ N = prs.length - j ∧ FO m mm b3 b (w.length + 1) (.cells (rxO k S (.slice a prs.length c)) T_api_Rx (0, 0)) o ∧ endsA w (prs.map (·.1)) at_ (List.replicate (w.length + 1) false) = endsA w ((prs.map (·.1)).drop j) at_ o, prs.length,
      ⟨rfl, rfl, rfl, rfl, rfl, rfl, rfl, rfl, rfl, rfl, rfl, rfl, rfl, 0, _, rfl, by omega, by omega, hF, rfl⟩, ?_⟩
    rintro N wa' wl' wc' xa xl xc oa ol oc ya yl yc nn i mm ⟨rfl, rfl, rfl, rfl, rfl, rfl, rfl, rfl, rfl, rfl, rfl, rfl, rfl, j, o, rfl, hj, rfl, hFO, hend⟩
    unfold regex_from.l3B
    refine BrD (fun hlt => ?_) (fun hge => ?_)
    · have hjl : j < prs.length := by omega
      obtain ⟨a', l', c', hv⟩ := (hp _ (List.getElem_mem hjl)).sl
      refine IxS.rx6 (hc.le hFO.le) hjl hv ?_
      refine copyRx ?_
      intro b4 m7 hb4 hle7 h7
      refine get6 h7 ?_
      have hF7 := hFO.up hle7
      refine part j hjl hv hF7.le (hat.le hF7.le) hal ?_
      intro m8 ra rc hle8 hfr8 hx8
      dsimp only [Cont]
      refine UnS.mk ?_
      have hF8 := hF7.up hle8
      refine hF8.join (hel _ _ hal) (by omega) hx8 (fun e => hF7.own.live b rfl (hfr8 b e)) ?_
      intro m9 hc9 hF9
      dsimp only [Cont]
      refine UnB.mk ?_
      rw [hdrop j hjl, endsA_cons] at hend
      refine ⟨prs.length - (j + 1), by omega, rfl, rfl, rfl, rfl, rfl, rfl, rfl, rfl, rfl, rfl, rfl, rfl, rfl, j + 1, _, ?_, by omega, rfl, hF9, hend⟩
      rw [wi (by omega) (by omega)]; omega
    · have e : (prs.map (·.1)).drop j = [] := List.drop_eq_nil_of_le (by omega)
      have e' : endsA w [] at_ o = o := by unfold endsA; rfl
      rw [e, e'] at hend
      refine hk mm _ _ hFO.le hFO.fresh ?_
      rw [hend]; exact hFO.own.cells
  rw [if_neg e3] at hk
  -- a sign: there is one part
  have hone : ∃ p, prs = [p] := by
    rcases hshape with ⟨h | h, _⟩ | ⟨_, _, x, h, _⟩
    · exact absurd h e2
    · exact absurd h e3
    · have := congrArg List.length h
      rw [hpl] at this
      exact List.length_eq_one_iff.mp this
  obtain ⟨p, rfl⟩ := hone
  have h01 : ends1 w ([p].map (·.1)) = ends w p.1 := by funext y; exact ends1_cons w _ _ y
  obtain ⟨pa, pl, pc, hv⟩ := (hp p (by simp)).sl
  rw [h01] at hk
  refine BrE (fun e6 => ?_) (fun e6 => ?_)
  · rw [if_pos e6] at hk
    refine hF.join hal (by omega) (hat.le hF.le) hatb ?_
    intro m3 hc3 hF3
    dsimp only [Cont]
    refine UnB.mk ?_
    refine LdV.s5 hF3.c3 (UnS.mk ?_)
    refine IxS.rx6 (hc.le hF3.le) (j := 0) (by simp) hv ?_
    refine part 0 (by simp) hv hF3.le (hat.le hF3.le) hal ?_
    intro m4 ra rc hle4 hfr4 hx4
    dsimp only [Cont]
    refine UnS.mk ?_
    have hF4 := hF3.up hle4
    refine hF4.join (hel _ _ hal) (by omega) hx4 (fun e => hF3.own.live b rfl (hfr4 b e)) ?_
    intro m5 hc5 hF5
    dsimp only [Cont]
    refine UnB.mk ?_
    exact hk m5 _ _ hF5.le hF5.fresh hF5.own.cells
  rw [if_neg e6] at hk
  have k4 : ∀ {mm : Mem} {o : List Bool}, FO m mm b3 b (w.length + 1) (.cells (rxO k S (.slice a [p].length c)) T_api_Rx (0, 0)) o → (∀ m' ra rc, Le m m' → Fresh m ra → CellsAt m' ra (bl (manyE (ends w p.1) (w.length + 1) o (ends w p.1 at_))) → R (.returned (.slice ra (w.length + 1) rc)) m') →
      regex_from.k4 wa w.length wc aa (w.length + 1) ac b3 0 (some ⟨b, 0, none⟩) (w.length + 1) (w.length + 1) R mm := by
    intro mm o hFO hq
    unfold regex_from.k4
    refine LdV.s5 hFO.c3 (UnS.mk ?_)
    refine IxS.rx6 (hc.le hFO.le) (j := 0) (by simp) hv ?_
    refine part 0 (by simp) hv hFO.le (hat.le hFO.le) hal ?_
    intro m4 ra rc hle4 hfr4 hx4
    dsimp only [Cont]
    refine UnS.mk ?_
    have hF4 := hFO.up hle4
    refine ⟨fun N wa' wl' wc' xb xo oa ol oc ya yl yc mm => wa' = wa ∧ wl' = w.length ∧ wc' = wc ∧ xb = b3 ∧ xo = 0 ∧ oa = some ⟨b, 0, none⟩ ∧ ol = w.length + 1 ∧ oc = w.length + 1 ∧ yl = w.length + 1 ∧ ∃ (o y : List Bool), FO m mm b3 b (w.length + 1) (.cells (rxO k S (.slice a [p].length c)) T_api_Rx (0, 0)) o ∧ CellsAt mm ya (bl y) ∧ y.length = w.length + 1 ∧ blk ya ≠ some b ∧ free o ≤ N ∧ ∀ m' ra rc, Le m m' → Fresh m ra → CellsAt m' ra (bl (manyE (ends w p.1) N o y)) → R (.returned (.slice ra (w.length + 1) rc)) m', w.length + 1,
      ⟨rfl, rfl, rfl, rfl, rfl, rfl, rfl, rfl, rfl, o, _, hF4, hx4, hel _ _ hal, (fun e => hFO.own.live b rfl (hfr4 b e)), by have := free_le o; rw [hFO.len] at this; exact this, hq⟩, ?_⟩
    rintro N wa' wl' wc' xb xo oa ol oc ya yl yc mm' ⟨rfl, rfl, rfl, rfl, rfl, rfl, rfl, rfl, rfl, o', y, hF', hy, hyl, hyb, hfree, hq'⟩
    unfold regex_from.l5B
    refine hF'.join hyl (by omega) hy hyb ?_
    intro m5 hc5 hF5
    dsimp only [Cont]
    refine UnB.mk ?_
    have holy : o'.length = y.length := by rw [hF'.len, hyl]
    refine Br.mk (fun hnew => ?_) (fun hnew => ?_)
    · have hlt := (free_or holy).2 hnew
      obtain ⟨N', rfl⟩ : ∃ N', N = N' + 1 := ⟨N - 1, by omega⟩
      unfold manyE at hq'
      rw [if_pos hnew] at hq'
      refine LdV.s5 hF5.c3 (UnS.mk ?_)
      refine IxS.rx6 (hc.le hF5.le) (j := 0) (by simp) hv ?_
      have hy5 : CellsAt m5 ya (bl y) := hy.chg hc5 (fun x e e2 => by cases e2; exact hyb e)
      refine part 0 (by simp) hv hF5.le hy5 hyl ?_
      intro m6 ra2 rc2 hle6 hfr6 hx6
      dsimp only [Cont]
      refine UnS.mk ?_
      exact ⟨N', by omega, rfl, rfl, rfl, rfl, rfl, rfl, rfl, rfl, rfl, _, _, hF5.up hle6, hx6, hel _ _ hyl, (fun e => hF5.own.live b rfl (hfr6 b e)), by omega, hq'⟩
    · have : manyE (ends w p.1) N o' y = orL o' y := by
        cases N with
        | zero =>
          have := (free_zero holy (by omega)).2
          unfold manyE; rw [this]
        | succ N => unfold manyE; rw [if_neg (by rw [hnew]; decide)]
      rw [this] at hq'
      exact hq' m5 _ _ hF5.le hF5.fresh hF5.own.cells
  refine LdV.s0 hF.c3 (UnI.mk ?_)
  refine BrE (fun e4 => ?_) (fun e4 => ?_)
  · rw [if_pos e4] at hk
    refine hF.join hal (by omega) (hat.le hF.le) hatb ?_
    intro m3 hc3 hF3
    dsimp only [Cont]
    refine UnB.mk ?_
    exact k4 hF3 hk
  · rw [if_neg e4] at hk
    exact k4 hF hk
end Go.E.Rg
set_option linter.unusedVariables false
set_option linter.unusedSimpArgs false
set_option maxRecDepth 20000
namespace Go.E.Rg
open Go.H Go.E
attribute [local irreducible] BiN MkS ConvN LookN MapUpN CallV HC limb dbTab
theorem In_spec {r : Rx} {m : Mem} {v : Value} {wa : Option Addr} {wc : Nat} {w : List UInt8} {R : Ending → Mem → Prop} (ha : ArgC m r v) (hn : nodes r ≤ 4000000000000000000) (hw : CellsAt m wa (u8s w)) (hwl : w.length ≤ 1000000)
    (hk : ∀ m', Le m m' → R (.returned (.bool (isIn r w))) m') : HC P regex_In.id #[rxA r.k r.S v, .slice wa w.length wc] m R := by
  obtain ⟨a, l, c, rfl⟩ := ha.sl
  refine regex_In.ok _ _ _ _ _ _ _ _ _ _ _ _ _ ?_
  refine newRx ?_
  intro b1 m1 hb1 hle h1
  refine get6 h1 ?_
  refine May_spec (ha.le hle) hn ?_
  intro m2 hle2
  dsimp only [Cont]
  refine UnI.mk ?_
  have h12 := hle.trans hle2
  unfold isIn at hk
  refine BrN (fun h0 => ?_) (fun h0 => ?_)
  · rw [show decide (may r = 0) = false by simpa using h0, Bool.false_and] at hk
    exact hk m2 h12
  rw [show decide (may r = 0) = true by simpa using h0, Bool.true_and] at hk
  have hform := (may_form h0).1
  have ew : IntKind.i64.wrap (((w.length : Nat) : Int) + 1) = ((w.length + 1 : Nat) : Int) := by rw [wi (by omega) (by omega)]; omega
  rw [ew]
  refine make_one eBl rfl (by omega) (by omega) (by omega) (by omega) ?_
  intro b hb0
  simp only [Int.toNat_natCast]
  refine UnS.mk ?_
  have hle3 := Le.set hb0 (.cells (List.replicate (w.length + 1) (Value.bool false)).toArray T_bool (0, 0))
  have ho := own_new (m := m2) (b := b) (n := w.length + 1) (z := .bool false) (e := T_bool) (by omega)
  refine ho.st (i := 0) (by omega) (by omega) (v := .bool true) rfl ?_
  intro m4 hch ho4
  have hbm : m b = none := h12.new hb0
  have hle4 : Le m m4 := hch.to_le (h12.trans hle3) (fun x e => by cases e; exact hbm)
  have hbb : b1 ≠ b := by
    rintro rfl
    have := hle2 _ _ h1
    rw [this] at hb0; cases hb0
  have h14 : m4 b1 = some (.cells (rxO r.k r.S (.slice a l c)) T_api_Rx (0, 0)) := hch.eq _ _ (hle3 _ _ (hle2 _ _ h1)) (fun e => by cases e; exact hbb rfl)
  have hat : CellsAt m4 (some ⟨b, 0, none⟩) (bl (true :: List.replicate w.length false)) := by
    have := ho4.cells
    have e : (List.replicate (w.length + 1) (Value.bool false)).set (0 : Int).toNat (.bool true) = bl (true :: List.replicate w.length false) := by
      rw [List.replicate_succ]
      show Value.bool true :: _ = _
      unfold bl
      rw [List.map_cons, List.map_replicate]
    rw [e] at this
    exact this
  refine get6 h14 ?_
  refine from_ok r (ha.le hle4) hform (hw.le hle4) hat (by simp) hwl ?_
  intro m5 ra rc hle5 hfr hx
  dsimp only [Cont]
  refine UnS.mk ?_
  obtain ⟨hel, _⟩ := ends_iff w r (true :: List.replicate w.length false) (by simp)
  obtain ⟨y, hy⟩ : ∃ y, (ends w r (true :: List.replicate w.length false))[w.length]? = some y := ⟨_, List.getElem?_eq_getElem (by omega)⟩
  refine IxS.bl hx hel hy (UnB.mk ?_)
  rw [List.getD_eq_getElem?_getD, hy] at hk
  exact hk m5 (hle4.trans hle5)
end Go.E.Rg
set_option linter.unusedVariables false
set_option linter.unusedSimpArgs false
set_option maxRecDepth 20000
namespace Go.E.Rg
open Go.H Go.E
theorem prts_len {l : List UInt8} : ∀ (k i : Nat) (S : Nat → Bool) {S' : Nat → Bool} {e : Nat}, prts l k i S = some (S', e) → 0 < e ∧ e ≤ l.length
  | 0, i, S, S', e, h => by unfold prts at h; cases h
  | k + 1, i, S, S', e, h => by
    unfold prts at h
    split at h
    · rename_i h93
      cases h
      rcases Nat.lt_or_ge i l.length with hi | hi
      · omega
      · rw [nx_out hi] at h93; cases h93
    · cases hp : prt l i with
      | none => rw [hp] at h; cases h
      | some x =>
        obtain ⟨⟨a, b⟩, n⟩ := x
        rw [hp] at h
        exact prts_len k n _ h
theorem cls_len {l : List UInt8} {S : Nat → Bool} {n : Nat} (h : cls l = some (S, n)) : 0 < n ∧ n ≤ l.length := by
  unfold cls at h
  cases h0 : cls0 l with
  | none => rw [h0] at h; cases h
  | some x =>
    obtain ⟨S0, e⟩ := x
    rw [h0] at h
    dsimp only at h
    split at h; · cases h
    cases h
    unfold cls0 at h0
    split at h0
    · rename_i h46
      cases h0
      rcases Nat.lt_or_ge 0 l.length with hi | hi
      · omega
      · rw [nx_out hi] at h46; cases h46
    split at h0
    · cases hp : prt l (if nx l 1 = 94 then 2 else 1) with
      | none => rw [hp] at h0; cases h0
      | some y =>
        obtain ⟨⟨a, b⟩, k⟩ := y
        rw [hp] at h0
        dsimp only at h0
        cases hq : prts l (l.length + 1) k (fromTo a b) with
        | none => rw [hq] at h0; cases h0
        | some z =>
          obtain ⟨S1, e1⟩ := z
          rw [hq] at h0
          cases h0
          exact prts_len _ _ _ hq
    · cases hs : sgn l 0 with
      | none => rw [hs] at h0; cases h0
      | some y =>
        obtain ⟨c, k⟩ := y
        rw [hs] at h0
        cases h0
        have := sgn_lt hs
        omega
def Shr (alt : Nat → List UInt8 → Res) : Prop := ∀ d s x t, alt d s = .ok (x, t) → t.length < s.length
section
variable {alt : Nat → List UInt8 → Res} {d : Nat} {s t : List UInt8} {x : Rx}
theorem atom_len (ha : Shr alt) (h : atomF alt d s = .ok (x, t)) : t.length < s.length := by
  unfold atomF at h
  split at h
  · rename_i s'
    split at h; · cases h
    split at h
    · rename_i x' s'' he
      cases h
      have := ha _ _ _ _ he
      simp at this ⊢; omega
    · cases h
    · cases h
  · rename_i hs
    cases hc : cls s with
    | none => rw [hc] at h; cases h
    | some y =>
      obtain ⟨S, n⟩ := y
      rw [hc] at h
      cases h
      have := cls_len hc
      simp; omega
theorem rep_len (ha : Shr alt) (h : repF alt d s = .ok (x, t)) : t.length < s.length := by
  unfold repF at h
  cases hb : atomF alt d s with
  | error e => rw [hb] at h; cases h
  | ok y =>
    obtain ⟨y, t'⟩ := y
    have h1 := atom_len ha hb
    rw [hb] at h
    cases t' with
    | nil => cases h; exact h1
    | cons c s' =>
      dsimp only at h
      cases hk : sgI c with
      | none => rw [hk] at h; cases h; exact h1
      | some k => rw [hk] at h; cases h; simp at h1; omega
theorem catL_len (ha : Shr alt) : ∀ (n : Nat) (l : List Rx) (s : List UInt8) {l' : List Rx} {t : List UInt8}, catL alt d n l s = .ok (l', t) → t.length ≤ s.length
  | 0, l, s, l', t, h => by unfold catL at h; cases h
  | n + 1, l, s, l', t, h => by
    unfold catL at h
    cases s with
    | nil => cases h; simp
    | cons c s =>
      dsimp only at h
      split at h
      · cases h; simp
      · cases hb : repF alt d (c :: s) with
        | error e => rw [hb] at h; cases h
        | ok y =>
          obtain ⟨y, t'⟩ := y
          rw [hb] at h
          have h1 := rep_len ha hb
          have h2 := catL_len ha n _ _ h
          omega
theorem cat_len (ha : Shr alt) (h : catF alt d s = .ok (x, t)) : t.length < s.length := by
  unfold catF at h
  cases hb : repF alt d s with
  | error e => rw [hb] at h; cases h
  | ok y =>
    obtain ⟨y, t'⟩ := y
    rw [hb] at h
    dsimp only at h
    have h1 := rep_len ha hb
    cases hc : catL alt d (t'.length + 1) [y] t' with
    | error e => rw [hc] at h; cases h
    | ok z =>
      obtain ⟨z, t2⟩ := z
      rw [hc] at h
      cases h
      have := catL_len ha _ _ _ hc
      omega
theorem altL_len (ha : Shr alt) : ∀ (n : Nat) (l : List Rx) (s : List UInt8) {l' : List Rx} {t : List UInt8}, altL alt d n l s = .ok (l', t) → t.length ≤ s.length
  | 0, l, s, l', t, h => by unfold altL at h; cases h
  | n + 1, l, s, l', t, h => by
    unfold altL at h
    split at h
    · rename_i s'
      cases hb : catF alt d s' with
      | error e => rw [hb] at h; cases h
      | ok y =>
        obtain ⟨y, t'⟩ := y
        rw [hb] at h
        have h1 := cat_len ha hb
        have h2 := altL_len ha n _ _ h
        simp; omega
    · cases h; simp
theorem alt_len (ha : Shr alt) (h : altF alt d s = .ok (x, t)) : t.length < s.length := by
  unfold altF at h
  cases hb : catF alt d s with
  | error e => rw [hb] at h; cases h
  | ok y =>
    obtain ⟨y, t'⟩ := y
    rw [hb] at h
    dsimp only at h
    have h1 := cat_len ha hb
    cases hc : altL alt d (t'.length + 1) [y] t' with
    | error e => rw [hc] at h; cases h
    | ok z =>
      obtain ⟨z, t2⟩ := z
      rw [hc] at h
      cases h
      have := altL_len ha _ _ _ hc
      omega
end
theorem pAlt_len : ∀ n, Shr (pAlt n)
  | 0 => fun d s x t h => by unfold pAlt at h; cases h
  | n + 1 => fun d s x t h => by unfold pAlt at h; exact alt_len (pAlt_len n) h
theorem nodes_mk' (k : Int) (S : Nat → Bool) (ps : List Rx) : nodes (.mk k S ps) = nodesL ps + 1 := by conv => lhs; unfold nodes
theorem nodesL_nil : nodesL [] = 0 := by unfold nodesL; rfl
theorem nodesL_cons' (r : Rx) (rs : List Rx) : nodesL (r :: rs) = nodes r + nodesL rs := by conv => lhs; unfold nodesL
theorem nodesL_app : ∀ (a b : List Rx), nodesL (a ++ b) = nodesL a + nodesL b
  | [], b => by rw [nodesL_nil]; simp
  | r :: a, b => by rw [List.cons_append, nodesL_cons', nodesL_cons', nodesL_app a b]; omega
def Few (alt : Nat → List UInt8 → Res) : Prop := ∀ d s x t, alt d s = .ok (x, t) → nodes x + 1 + 2 * t.length ≤ 2 * s.length
theorem one_nodes {k : Int} {l : List Rx} {A B : Nat} (h : nodesL l + l.length + 2 * A ≤ 2 * B) (hl : 1 ≤ l.length) : nodes (one k l) + 1 + 2 * A ≤ 2 * B := by
  unfold one
  split
  · rename_i x
    rw [nodesL_cons', nodesL_nil] at h
    simp at h; omega
  · rename_i hno
    rw [nodes_mk']
    have : l.length ≠ 1 := by
      intro e
      obtain ⟨x, rfl⟩ := List.length_eq_one_iff.mp e
      exact hno x rfl
    omega
section
variable {alt : Nat → List UInt8 → Res} {d : Nat} {s t : List UInt8} {x : Rx}
theorem atom_few (ha : Few alt) (h : atomF alt d s = .ok (x, t)) : nodes x + 1 + 2 * t.length ≤ 2 * s.length := by
  unfold atomF at h
  split at h
  · rename_i s'
    split at h; · cases h
    split at h
    · rename_i x' s'' he
      cases h
      have := ha _ _ _ _ he
      simp at this ⊢; omega
    · cases h
    · cases h
  · rename_i hs
    cases hc : cls s with
    | none => rw [hc] at h; cases h
    | some y =>
      obtain ⟨S, n⟩ := y
      rw [hc] at h
      cases h
      have := cls_len hc
      rw [nodes_mk', nodesL_nil]
      simp; omega
theorem rep_few (ha : Few alt) (h : repF alt d s = .ok (x, t)) : nodes x + 1 + 2 * t.length ≤ 2 * s.length := by
  unfold repF at h
  cases hb : atomF alt d s with
  | error e => rw [hb] at h; cases h
  | ok y =>
    obtain ⟨y, t'⟩ := y
    have h1 := atom_few ha hb
    rw [hb] at h
    cases t' with
    | nil => cases h; exact h1
    | cons c s' =>
      dsimp only at h
      cases hk : sgI c with
      | none => rw [hk] at h; cases h; exact h1
      | some k =>
        rw [hk] at h; cases h
        rw [nodes_mk', nodesL_cons', nodesL_nil]
        simp at h1; omega
theorem catL_few (ha : Few alt) {B : Nat} : ∀ (n : Nat) (l : List Rx) (s : List UInt8) {l' : List Rx} {t : List UInt8}, catL alt d n l s = .ok (l', t) → 1 ≤ l.length → nodesL l + l.length + 2 * s.length ≤ 2 * B → nodesL l' + l'.length + 2 * t.length ≤ 2 * B ∧ 1 ≤ l'.length
  | 0, l, s, l', t, h, _, _ => by unfold catL at h; cases h
  | n + 1, l, s, l', t, h, hl, hB => by
    unfold catL at h
    cases s with
    | nil => cases h; exact ⟨hB, hl⟩
    | cons c s =>
      dsimp only at h
      split at h
      · cases h; exact ⟨hB, hl⟩
      · cases hb : repF alt d (c :: s) with
        | error e => rw [hb] at h; cases h
        | ok y =>
          obtain ⟨y, t'⟩ := y
          rw [hb] at h
          have h1 := rep_few ha hb
          refine catL_few ha n _ _ h (by simp) ?_
          rw [nodesL_app, nodesL_cons', nodesL_nil]
          simp only [List.length_append, List.length_cons, List.length_nil] at *
          omega
theorem cat_few (ha : Few alt) (h : catF alt d s = .ok (x, t)) : nodes x + 1 + 2 * t.length ≤ 2 * s.length := by
  unfold catF at h
  cases hb : repF alt d s with
  | error e => rw [hb] at h; cases h
  | ok y =>
    obtain ⟨y, t'⟩ := y
    rw [hb] at h
    dsimp only at h
    have h1 := rep_few ha hb
    cases hc : catL alt d (t'.length + 1) [y] t' with
    | error e => rw [hc] at h; cases h
    | ok z =>
      obtain ⟨z, t2⟩ := z
      rw [hc] at h
      cases h
      have := catL_few ha (B := s.length) _ _ _ hc (by simp) (by rw [nodesL_cons', nodesL_nil]; simp; omega)
      exact one_nodes this.1 this.2
theorem altL_few (ha : Few alt) {B : Nat} : ∀ (n : Nat) (l : List Rx) (s : List UInt8) {l' : List Rx} {t : List UInt8}, altL alt d n l s = .ok (l', t) → 1 ≤ l.length → nodesL l + l.length + 2 * s.length ≤ 2 * B → nodesL l' + l'.length + 2 * t.length ≤ 2 * B ∧ 1 ≤ l'.length
  | 0, l, s, l', t, h, _, _ => by unfold altL at h; cases h
  | n + 1, l, s, l', t, h, hl, hB => by
    unfold altL at h
    split at h
    · rename_i s'
      cases hb : catF alt d s' with
      | error e => rw [hb] at h; cases h
      | ok y =>
        obtain ⟨y, t'⟩ := y
        rw [hb] at h
        have h1 := cat_few ha hb
        refine altL_few ha n _ _ h (by simp) ?_
        rw [nodesL_app, nodesL_cons', nodesL_nil]
        simp only [List.length_append, List.length_cons, List.length_nil] at *
        omega
    · cases h; exact ⟨hB, hl⟩
theorem alt_few (ha : Few alt) (h : altF alt d s = .ok (x, t)) : nodes x + 1 + 2 * t.length ≤ 2 * s.length := by
  unfold altF at h
  cases hb : catF alt d s with
  | error e => rw [hb] at h; cases h
  | ok y =>
    obtain ⟨y, t'⟩ := y
    rw [hb] at h
    dsimp only at h
    have h1 := cat_few ha hb
    cases hc : altL alt d (t'.length + 1) [y] t' with
    | error e => rw [hc] at h; cases h
    | ok z =>
      obtain ⟨z, t2⟩ := z
      rw [hc] at h
      cases h
      have := altL_few ha (B := s.length) _ _ _ hc (by simp) (by rw [nodesL_cons', nodesL_nil]; simp; omega)
      exact one_nodes this.1 this.2
end
theorem pAlt_few : ∀ n, Few (pAlt n)
  | 0 => fun d s x t h => by unfold pAlt at h; cases h
  | n + 1 => fun d s x t h => by unfold pAlt at h; exact alt_few (pAlt_few n) h
end Go.E.Rg
set_option linter.unusedVariables false
set_option linter.unusedSimpArgs false
set_option maxRecDepth 20000
namespace Go.E.Rg
open Go.H Go.E
attribute [local irreducible] BiN MkS ConvN LookN MapUpN CallV HC limb dbTab
/-- What is new since m. -/
noncomputable abbrev newB (m m' : Mem) : Mem := on m' (fun b => m b = none)
theorem newB_mono {S : Nat → Prop} {m mm m' : Mem} (h : Chg S mm m') (hs : ∀ b, S b → m b ≠ none) : Le (newB m mm) (newB m m') :=
  on_mono h (fun b hb _ hS => hs b hS hb) (fun b hb _ => hb)
theorem newB_up {m mm m' : Mem} (h : ∀ b, m b ≠ none → mm b ≠ none) : Le (newB mm m') (newB m m') := fun b o hb => by
  obtain ⟨h1, h2⟩ := on_live hb
  have : m b = none := by
    cases hm : m b with
    | none => rfl
    | some o => exact absurd h1 (h b (by rw [hm]; simp))
  show on m' (fun b => m b = none) b = some o
  rw [on_in (G := fun b => m b = none) this]; exact h2
theorem newB_le {m mm m' : Mem} (h : Le mm m') : Le (newB m mm) (newB m m') := newB_mono (h.chg fun _ => False) (fun _ h => h.elim)
theorem CellsAt.on {m : Mem} {G : Nat → Prop} {a : Option Addr} {vs : List Value} (h : CellsAt m a vs) (hn : ∀ b, blk a = some b → G b) : CellsAt (on m G) a vs := by
  rcases h.cases with ⟨b, o, rfl, hx⟩ | ⟨rfl, _⟩
  · intro j u hu
    have := hx j u hu
    unfold Mem.cell at *
    rw [on_in (hn b rfl)]; exact this
  · exact CellsAt.empty _ _
/-- A place of one's own, while only r turns besides. -/
structure Cl (T : TypeId) (m mm : Mem) (r b : Nat) (c : Array Value) : Prop where
  at_ : mm b = some (.cells c T (0, 0))
  ne : b ≠ r
  new : m b = none
  ch : Chg (fun x => x = r) m mm
section
variable {T : TypeId} {m mm m' : Mem} {r b : Nat} {c : Array Value}
theorem Cl.mk0 (hr : m r ≠ none) (hb : m b = none) : Cl T m (m.set b (.cells c T (0, 0))) r b c := ⟨set_same _ _ _, fun e => hr (e ▸ hb), hb, (Le.set hb _).chg _⟩
theorem Cl.step (h : Cl T m mm r b c) (k : Chg (fun x => x = r) mm m') : Cl T m m' r b c := ⟨k.eq _ _ h.at_ h.ne, h.ne, h.new, h.ch.trans k (fun _ _ e => e)⟩
theorem Cl.le (h : Cl T m mm r b c) (k : Le mm m') : Cl T m m' r b c := h.step (k.chg _)
theorem Cl.put (h : Cl T m mm r b c) (c' : Array Value) : Cl T m (mm.set b (.cells c' T (0, 0))) r b c' := by
  refine ⟨set_same _ _ _, h.ne, h.new, ?_⟩
  refine ⟨fun x o hx hn => ?_, fun x hx => ?_⟩
  · have : x ≠ b := fun e => by subst e; rw [h.new] at hx; cases hx
    rw [set_other _ _ this]
    exact h.ch.eq x o hx hn
  · by_cases e : x = b
    · subst e; rw [set_same]; simp
    · rw [set_other _ _ e]; exact h.ch.live x hx
theorem Cl.mkAt (h : Chg (fun x => x = r) m mm) (hr : m r ≠ none) (hb : mm b = none) : Cl T m (mm.set b (.cells c T (0, 0))) r b c := by
  have hbm : m b = none := h.new hb
  exact ⟨set_same _ _ _, fun e => hr (e ▸ hbm), hbm, h.trans ((Le.set hb _).chg _) (fun _ _ e => e)⟩
end
theorem ContRx.mk {k u0 u1 u2 u3 : Int} {a : Option Addr} {l c : Nat} {K : Int → Int → Int → Int → Int → Option Addr → Nat → Nat → Mem → Prop} {Pn : List PanicEntry → Mem → Prop} {m : Mem} (h : K k u0 u1 u2 u3 a l c m) :
    Cont (fun v m => UnAgg v fun l => UnCons l fun v l => UnI v .i64 fun x0 => UnCons l fun v l => UnI v .u64 fun x1 => UnCons l fun v l => UnI v .u64 fun x2 => UnCons l fun v l => UnI v .u64 fun x3 => UnCons l fun v l => UnI v .u64 fun x4 => UnCons l fun v l => UnS v fun xa xl xc => UnNil l (K x0 x1 x2 x3 x4 xa xl xc m)) Pn
      (.returned (.agg #[.int .i64 k, .int .u64 u0, .int .u64 u1, .int .u64 u2, .int .u64 u3, .slice a l c])) m := h
theorem put6 {m : Mem} {b : Nat} {x0 x1 x2 x3 x4 x5 : Value} {k : Int} {S : Nat → Bool} {a : Option Addr} {l c : Nat} {e : TypeId} {K : Mem → Prop} (h : m b = some (.cells #[x0, x1, x2, x3, x4, x5] e (0, 0)))
    (q : K (m.set b (.cells (rxO k S (.slice a l c)) e (0, 0)))) : St1 m b 0 (.int .i64 k) fun m1 => St1 m1 b 1 (.int .u64 (L S 0)) fun m2 => St1 m2 b 2 (.int .u64 (L S 1)) fun m3 => St1 m3 b 3 (.int .u64 (L S 2)) fun m4 => St1 m4 b 4 (.int .u64 (L S 3)) fun m5 => St1 m5 b 5 (.slice a l c) K :=
  St1.six h rfl rfl rfl rfl rfl rfl q
theorem out6 {m : Mem} {b : Nat} {x0 x1 x2 x3 x4 x5 : Value} {k : Int} {S : Nat → Bool} {a : Option Addr} {l c : Nat} {e : TypeId} {K : Int → Int → Int → Int → Int → Option Addr → Nat → Nat → Mem → Prop} (h : m b = some (.cells #[x0, x1, x2, x3, x4, x5] e (0, 0)))
    (q : K k (L S 0) (L S 1) (L S 2) (L S 3) a l c (m.set b (.cells (rxO k S (.slice a l c)) e (0, 0)))) : St1 m b 0 (.int .i64 k) fun m1 => St1 m1 b 1 (.int .u64 (L S 0)) fun m2 => St1 m2 b 2 (.int .u64 (L S 1)) fun m3 => St1 m3 b 3 (.int .u64 (L S 2)) fun m4 => St1 m4 b 4 (.int .u64 (L S 3)) fun m5 => St1 m5 b 5 (.slice a l c) fun m6 =>
      LdV m6 b 0 fun v => UnI v .i64 fun y0 => LdV m6 b 1 fun v => UnI v .u64 fun y1 => LdV m6 b 2 fun v => UnI v .u64 fun y2 => LdV m6 b 3 fun v => UnI v .u64 fun y3 => LdV m6 b 4 fun v => UnI v .u64 fun y4 => LdV m6 b 5 fun v => UnS v fun ya yl yc => K y0 y1 y2 y3 y4 ya yl yc m6 :=
  put6 h (get6 (set_same _ _ _) q)
theorem noS_L (j : Nat) : L noS j = 0 := by have := L_zero j; exact this
abbrev rg (m : Mem) (r : Nat) (s : ByteArray) (d : Nat) : Prop := m r = some (.cells #[.string s, .int .i64 (d : Int)] T_regex_reader (0, 0))
abbrev refv (e : Int) : Value := .iface T_regex_refusal (.agg #[.int .i64 e])
abbrev pan (e : Int) : Ending := .panicked [{ v := refv e, recovered := false }]
/-- Glob but for what r has. -/
abbrev GlobR (m : Mem) (r : Nat) : Prop := Glob (m.wo fun b => b = r)
theorem GlobR.chg {m m' : Mem} {r : Nat} (h : GlobR m r) (k : Chg (fun b => b = r) m m') : GlobR m' r := by
  refine Glob.le h ?_
  intro b o hb
  by_cases e : b = r
  · rw [wo_out (F := fun b => b = r) e] at hb; cases hb
  · rw [wo_in (F := fun b => b = r) e] at hb ⊢
    exact k.eq b o hb e
theorem GlobR.glob {m : Mem} {r : Nat} (h : GlobR m r) : Glob m := Glob.le h (wo_le _ _)
def hdIs (l : List UInt8) (c : Nat) : Bool := decide (0 < l.length) && (nx l 0 == c)
theorem hdIs_t {l : List UInt8} {c : Nat} (h : hdIs l c = true) : ∃ x t, l = x :: t ∧ x.toNat = c := by
  unfold hdIs at h
  cases l with
  | nil => simp at h
  | cons x t =>
    refine ⟨x, t, rfl, ?_⟩
    rw [nx_cons0] at h
    simpa using h
theorem hdIs_f {l : List UInt8} {c : Nat} (h : hdIs l c = false) : ∀ x t, l = x :: t → x.toNat ≠ c := by
  rintro x t rfl
  unfold hdIs at h
  rw [nx_cons0] at h
  simpa using h
theorem u8_of {x : UInt8} {c : UInt8} (h : x.toNat = c.toNat) : x = c := UInt8.toNat_inj.mp h
theorem lst_extract (s : ByteArray) (i : Nat) : lst (s.extract i s.size) = (lst s).drop i := by
  unfold lst
  rw [ByteArray.data_extract, Array.toList_extract, List.extract_eq_take_drop]
  refine List.take_of_length_le ?_
  rw [List.length_drop, Array.length_toList]
  exact Nat.le_refl _
theorem sees_spec {m : Mem} {r : Nat} {s : ByteArray} {d c : Nat} (hr : rg m r s d) {R : Ending → Mem → Prop} (k : R (.returned (.bool (hdIs (lst s) c))) m) : HC P regex_reader_sees.id #[.pointer (some ⟨r, 0, none⟩), .int .u8 (c : Int)] m R := by
  have hll := lst_len s
  refine regex_reader_sees.ok _ _ _ _ ?_
  unfold hdIs at k
  refine LdV.s0 hr (UnStr.mk ?_)
  refine BrD (fun h => ?_) (fun h => ?_)
  · refine LdV.s0 hr (UnStr.mk ?_)
    refine ⟨by omega, by omega, ?_⟩
    show R (.returned (.bool (bt s ((0 : Nat) : Int) == (c : Int)))) m
    rw [bt_nx (by omega)]
    rw [show decide (0 < (lst s).length) = true from decide_eq_true (by omega), Bool.true_and] at k
    have : (((nx s.data.toList 0 : Nat) : Int) == (c : Int)) = (nx (lst s) 0 == c) := by
      rw [Bool.eq_iff_iff, beq_iff_eq, beq_iff_eq]; exact Int.ofNat_inj
    rw [this]; exact k
  · rw [show decide (0 < (lst s).length) = false from decide_eq_false (by omega), Bool.false_and] at k
    exact k
/-- A list of expressions under way, its own slice; what its parts have is new and elsewhere. -/
structure RL (m mm : Mem) (a : Option Addr) (c : Nat) (prs : List (Rx × Value)) : Prop where
  own : Own mm T_api_Rx 6 a prs.length c (prs.flatMap rxRow)
  fr : Fresh m a
  ok : ∀ p ∈ prs, ArgC (on mm fun b => m b = none ∧ blk a ≠ some b) p.1 p.2
theorem eRx : ElemOK P T_sl_api_Rx T_api_Rx (.agg #[.int .i64 0, .int .u64 0, .int .u64 0, .int .u64 0, .int .u64 0, .slice none 0 0]) 6 64 := .of (by kernel_rfl) (by kernel_rfl) rfl
end Go.E.Rg
set_option linter.unusedVariables false
set_option linter.unusedSimpArgs false
set_option maxRecDepth 20000
namespace Go.E.Rg
open Go.H Go.E
attribute [local irreducible] BiN MkS ConvN LookN MapUpN CallV HC limb dbTab
section
variable {m mm m3 m' : Mem} {a : Option Addr} {c : Nat} {prs : List (Rx × Value)} {r : Nat}
theorem RL.up {S : Nat → Prop} (h : RL m mm a c prs) (k : Chg S mm m3) (hs : ∀ b, S b → m b ≠ none) : RL m m3 a c prs := by
  refine ⟨h.own.chg k (fun b hb hS => hs b hS (h.fr b hb)), h.fr, fun p hp => (h.ok p hp).le ?_⟩
  exact on_mono k (fun b hb _ hS => hs b hS hb.1) (fun b hb _ => hb)
theorem RL.part (h : RL m mm a c prs) (k : Le mm m') {p : Rx × Value} (hp : p ∈ prs) : ArgC (newB m m') p.1 p.2 :=
  (h.ok p hp).le (on_mono (k.chg fun _ => False) (fun _ _ _ h => h) (fun b hb _ => hb.1))
theorem RL.arg (h : RL m mm a c prs) (k : Le mm m') (hl : prs.length ≤ 9223372036854775807) (kd : Int) (S : Nat → Bool) : ArgC (newB m m') (.mk kd S (prs.map (·.1))) (.slice a prs.length c) :=
  .mk h.own.cap hl (CellsAt.on (h.own.cells.le k) (fun b hb => h.fr b hb)) (fun p hp => h.part k hp)
theorem RL.in_ (h : RL m mm a c prs) (hm : ∀ b, m b ≠ none → mm b ≠ none) {x : Rx} {v : Value} (hx : ArgC (newB mm m3) x v) : ArgC (on m3 fun b => m b = none ∧ blk a ≠ some b) x v := by
  refine hx.le ?_
  intro b o hb
  obtain ⟨h1, h2⟩ := on_live hb
  have e1 : m b = none := by
    cases e : m b with
    | none => rfl
    | some o => exact absurd h1 (hm b (by rw [e]; simp))
  have e2 : blk a ≠ some b := fun e => h.own.live b e h1
  rw [on_in (G := fun b => m b = none ∧ blk a ≠ some b) ⟨e1, e2⟩]; exact h2
theorem RL.push (h : RL m mm a c prs) {x : Rx} {v : Value} (hv : notOne v = false) (hx : ArgC (on mm fun b => m b = none ∧ blk a ≠ some b) x v) (hlen : prs.length ≤ 1000000000) (hmm : ∀ b, m b ≠ none → mm b ≠ none) {ty : TypeId} {cs : Array Bool} {K : Value → Mem → Prop} {Pn : List PanicEntry → Mem → Prop}
    (k : ∀ a' c' m5, Chg (fun b => blk a = some b) mm m5 → RL m m5 a' c' (prs ++ [(x, v)]) → K (.slice a' (prs.length + 1) c') m5) :
    ∀ b, mm b = none → BiN P .append #[T_sl_api_Rx, T_sl_api_Rx] ty cs #[.slice a prs.length c, .slice (some ⟨b, 0, none⟩) 1 1] (mm.set b (.cells #[.int .i64 x.k, .int .u64 (L x.S 0), .int .u64 (L x.S 1), .int .u64 (L x.S 2), .int .u64 (L x.S 3), v] T_api_Rx (0, 0))) K Pn := by
  refine push_row eRx (by decide) h.own rfl ?_ hlen (by decide) ?_
  · intro u hu
    simp only [List.mem_cons, List.not_mem_nil, or_false] at hu
    rcases hu with rfl | rfl | rfl | rfl | rfl | rfl <;> first | rfl | exact hv
  intro a' c' m5 hch ho hfr
  have hf' : Fresh m a' := by
    rcases hfr with e | e
    · intro b hb; rw [e] at hb; exact h.fr b hb
    · intro b hb
      have := e b hb
      cases e2 : m b with
      | none => rfl
      | some o => exact absurd this (hmm b (by rw [e2]; simp))
  have hle : Le (on mm fun b => m b = none ∧ blk a ≠ some b) (on m5 fun b => m b = none ∧ blk a' ≠ some b) := by
    refine on_mono hch (fun b hb _ hS => hb.2 hS) (fun b hb hl => ⟨hb.1, fun e => ?_⟩)
    rcases hfr with e2 | e2
    · rw [e2] at e; exact hb.2 e
    · exact hl (e2 b e)
  refine k a' c' m5 hch ⟨?_, hf', ?_⟩
  · rw [List.flatMap_append, List.length_append]
    exact ho
  · intro p hp
    rcases List.mem_append.mp hp with hp | hp
    · exact (h.ok p hp).le hle
    · have : p = (x, v) := by simpa using hp
      subst this
      exact hx.le hle
theorem RL.one (hb : m3 r = none) (hm : ∀ b, m b ≠ none → m3 b ≠ none) {x : Rx} {v : Value} (hx : ArgC (newB m m3) x v) : RL m (m3.set r (.cells #[.int .i64 x.k, .int .u64 (L x.S 0), .int .u64 (L x.S 1), .int .u64 (L x.S 2), .int .u64 (L x.S 3), v] T_api_Rx (0, 0))) (some ⟨r, 0, none⟩) 1 [(x, v)] := by
  have hmr : m r = none := by
    cases e : m r with
    | none => rfl
    | some o => exact absurd hb (hm r (by rw [e]; simp))
  refine ⟨⟨by simp [rxRow], .inr ⟨r, _, rfl, set_same _ _ _, Nat.le_refl _, by simp, by simp [rxRow], by omega⟩⟩, fun b e => by cases e; exact hmr, ?_⟩
  intro p hp
  have : p = (x, v) := by simpa using hp
  subst this
  refine hx.le ?_
  refine on_mono ((Le.set hb _).chg fun _ => False) (fun _ _ _ h => h) (fun b h1 h2 => ⟨h1, fun e => ?_⟩)
  cases e
  exact h2 hb
end
theorem one_many (k : Int) {l : List Rx} (h : l.length ≠ 1) : one k l = .mk k noS l := by
  unfold one
  split
  · simp at h
  · rfl
theorem one_spec {m mm : Mem} {a : Option Addr} {c : Nat} {prs : List (Rx × Value)} {kind : Int} (h : RL m mm a c prs) (hne : prs ≠ []) (hl : prs.length ≤ 1000000000) {R : Ending → Mem → Prop}
    (k : ∀ m' v, Le mm m' → ArgC (newB m m') (one kind (prs.map (·.1))) v → R (.returned (rxA (one kind (prs.map (·.1))).k (one kind (prs.map (·.1))).S v)) m') :
    HC P regex_one.id #[.int .i64 kind, .slice a prs.length c] mm R := by
  refine regex_one.ok _ _ _ _ _ _ ?_
  intro b4 hb4
  have hle := Le.set hb4 (.cells #[.int .i64 0, .int .u64 0, .int .u64 0, .int .u64 0, .int .u64 0, .slice none 0 0] T_api_Rx (0, 0))
  have h4 : (mm.set b4 (.cells #[.int .i64 0, .int .u64 0, .int .u64 0, .int .u64 0, .int .u64 0, .slice none 0 0] T_api_Rx (0, 0))) b4 = _ := set_same _ _ _
  have fin : ∀ o, Le mm ((mm.set b4 (.cells #[.int .i64 0, .int .u64 0, .int .u64 0, .int .u64 0, .int .u64 0, .slice none 0 0] T_api_Rx (0, 0))).set b4 o) := by
    intro o; rw [set_set]; exact Le.set hb4 _
  refine BrE (fun e => ?_) (fun e => ?_)
  · obtain ⟨p, rfl⟩ := List.length_eq_one_iff.mp (show prs.length = 1 by omega)
    obtain ⟨a', l', c', hv⟩ := (h.ok p (by simp)).sl
    refine IxS.rx6 (prs := [p]) (h.own.cells.le hle) (j := 0) (by simp) (a' := a') (l' := l') (c' := c') hv ?_
    refine out6 h4 ?_
    have := k _ p.2 (fin _) (h.part (fin (.cells (rxO p.1.k p.1.S (.slice a' l' c')) T_api_Rx (0, 0))) (by simp))
    rw [hv] at this
    exact this
  · have e1 := one_many kind (l := prs.map (·.1)) (by rw [List.length_map]; omega)
    rw [e1] at k
    have hz : ∀ j, L noS j = 0 := noS_L
    have := k _ (.slice a prs.length c) (fin (.cells (rxO kind noS (.slice a prs.length c)) T_api_Rx (0, 0))) (h.arg (fin _) (by omega) kind noS)
    have key := out6 (k := kind) (S := noS) (a := a) (l := prs.length) (c := c) (e := T_api_Rx) (K := fun y0 y1 y2 y3 y4 ya yl yc m6 => R (.returned (.agg #[.int .i64 y0, .int .u64 y1, .int .u64 y2, .int .u64 y3, .int .u64 y4, .slice ya yl yc])) m6) h4 this
    rw [hz, hz, hz, hz] at key
    exact key
/-- A part of the reader: what it reads, or how it fails. -/
def RdOK (id : FuncId) (f : List UInt8 → Res) (d : Nat) : Prop := ∀ {m : Mem} {r : Nat} {s : ByteArray} {R : Ending → Mem → Prop}, rg m r s d → GlobR m r → s.size ≤ 1000000 →
  (∀ x t, f (lst s) = .ok (x, t) → ∀ m' v s', Chg (fun b => b = r) m m' → rg m' r s' d → lst s' = t → ArgC (newB m m') x v → R (.returned (rxA x.k x.S v)) m') →
  (∀ e, f (lst s) = .error e → ∀ m', Chg (fun b => b = r) m m' → R (pan e) m') → HC P id #[.pointer (some ⟨r, 0, none⟩)] m R
abbrev zRx : Array Value := #[.int .i64 0, .int .u64 0, .int .u64 0, .int .u64 0, .int .u64 0, .slice none 0 0]
theorem atom_ok {n d : Nat} (hd : d ≤ 13) (hA : d < 13 → RdOK regex_reader_alt.id (pAlt n (d + 1)) (d + 1)) : RdOK regex_reader_atom.id (atomF (pAlt n) d) d := by
  intro m r s R hr hG hs k kp
  have hll := lst_len s
  have hrl : m r ≠ none := by rw [hr]; simp
  refine regex_reader_atom.ok _ _ _ ?_
  intro b2 hb2
  have c2 := Cl.mk0 (T := T_api_Rx) (c := zRx) hrl hb2
  have hle1 : Le m (m.set b2 (.cells zRx T_api_Rx (0, 0))) := Le.set hb2 _
  have hl2 : (m.set b2 (.cells zRx T_api_Rx (0, 0))) b2 ≠ none := by rw [set_same]; simp
  generalize m.set b2 (.cells zRx T_api_Rx (0, 0)) = m1 at c2 hle1 hl2 ⊢
  have hr1 : rg m1 r s d := hle1 _ _ hr
  have hup : ∀ b, m b ≠ none → m1 b ≠ none := fun b hb => hle1.live hb
  refine sees_spec (c := 40) hr1 ?_
  dsimp only [Cont]
  refine UnB.mk ?_
  refine Br.mk (fun h => ?_) (fun h => ?_)
  · have hno : hdIs (lst s) 40 = false := by simpa using h
    have hf : atomF (pAlt n) d (lst s) = (match cls (lst s) with
        | some (S, n) => .ok (.mk 1 S [], (lst s).drop n)
        | none => .error 2) := by
      unfold atomF
      split
      · rename_i t e
        exact absurd rfl (hdIs_f hno 40 t e)
      · rfl
    rw [hf] at k kp
    refine LdV.s0 hr1 (UnStr.mk ?_)
    refine Parse_spec (hG.chg c2.ch).glob (by omega) (fun S e hc m3 hle3 => ?_) (fun hc m3 hle3 => ?_)
    · have hcl := cls_len hc
      refine ContP.mk ?_
      refine own4 ?_
      intro b3 m8 hle8 hb3 e3
      have hr8 : rg m8 r s d := hle8 _ _ (hle3 _ _ hr1)
      have c3 := c2.le (hle3.trans hle8)
      have h3r : b3 ≠ r := by rintro rfl; rw [hle3 _ _ hr1] at hb3; cases hb3
      refine BrNf rfl ?_
      refine LdV.s0 hr8 (UnStr.mk ?_)
      refine ⟨by omega, by omega, by omega, ?_⟩
      simp only [Int.toNat_natCast]
      refine St1.to #[.string (s.extract e s.size), .int .i64 (d : Int)] hr8 (by simp) rfl rfl ?_
      have c4 := c3.step (Chg.set m8 r (.cells #[.string (s.extract e s.size), .int .i64 (d : Int)] T_regex_reader (0, 0)))
      refine get4 (by rw [set_other _ _ h3r]; exact e3) ?_
      refine out6 (S := S) c4.at_ ?_
      have c5 := c4.put (rxO 1 S (.slice none 0 0))
      refine k (.mk 1 S []) _ (by rw [hc]) _ (.slice none 0 0) (s.extract e s.size) c5.ch ?_ (lst_extract s e) ArgC.none
      show _ = _
      rw [set_other _ _ c5.ne.symm]; exact set_same _ _ _
    · refine ContP.mk ?_
      refine own4 ?_
      intro b3 m8 hle8 hb3 e3
      refine BrNt (by decide) ?_
      exact kp 2 (by rw [hc]) m8 (c2.le (hle3.trans hle8)).ch
  · have hyes : hdIs (lst s) 40 = true := by simpa using h
    obtain ⟨x0, t, hst, hx0⟩ := hdIs_t hyes
    have : x0 = 40 := u8_of hx0
    subst this
    have hf : atomF (pAlt n) d (lst s) = (if 13 ≤ d then .error 6 else match pAlt n (d + 1) t with
      | .ok (x, 41 :: s'') => .ok (x, s'')
      | .ok _ => .error 2
      | .error e => .error e) := by
      rw [hst]; rfl
    rw [hf] at k kp
    refine LdV.s1 hr1 (UnI.mk ?_)
    rw [wi (by omega) (by omega)]
    refine St1.to #[.string s, .int .i64 ((d + 1 : Nat) : Int)] hr1 (by simp) rfl rfl ?_
    have c3 := c2.step (Chg.set m1 r (.cells #[.string s, .int .i64 ((d + 1 : Nat) : Int)] T_regex_reader (0, 0)))
    have hr3 : rg (m1.set r (.cells #[.string s, .int .i64 ((d + 1 : Nat) : Int)] T_regex_reader (0, 0))) r s (d + 1) := set_same _ _ _
    refine LdV.s1 hr3 (UnI.mk ?_)
    refine BrD (fun hgt => ?_) (fun hle => ?_)
    · exact kp 6 (by rw [if_pos (by omega)]) _ c3.ch
    have hd13 : d < 13 := by omega
    rw [if_neg (by omega)] at k kp
    refine LdV.s0 hr3 (UnStr.mk ?_)
    have hsz : 1 ≤ s.size := by rw [← hll, hst]; simp
    refine ⟨by omega, by omega, by omega, ?_⟩
    refine St1.to #[.string (s.extract 1 s.size), .int .i64 ((d + 1 : Nat) : Int)] hr3 (by simp) rfl (by simp) ?_
    rw [set_set]
    have hr4 : rg (m1.set r (.cells #[.string (s.extract 1 s.size), .int .i64 ((d + 1 : Nat) : Int)] T_regex_reader (0, 0))) r (s.extract 1 s.size) (d + 1) := set_same _ _ _
    have hch4 := Chg.set m1 r (.cells #[.string (s.extract 1 s.size), .int .i64 ((d + 1 : Nat) : Int)] T_regex_reader (0, 0))
    have hlt : lst (s.extract 1 s.size) = t := by rw [lst_extract, hst]; rfl
    have hzt : (s.extract 1 s.size).size ≤ 1000000 := by
      rw [← lst_len, hlt]
      have : t.length + 1 = s.size := by rw [← hll, hst]; simp
      omega
    have hl14 : ∀ b, m1 b ≠ none → (m1.set r (.cells #[.string (s.extract 1 s.size), .int .i64 ((d + 1 : Nat) : Int)] T_regex_reader (0, 0))) b ≠ none := fun b hb => hch4.live b hb
    generalize (m1.set r (.cells #[.string (s.extract 1 s.size), .int .i64 ((d + 1 : Nat) : Int)] T_regex_reader (0, 0))) = m4 at hr4 hch4 hl14 ⊢
    have c4 := c2.step hch4
    refine hA hd13 hr4 (hG.chg c4.ch) hzt (fun x t' hx m5 v s' hch5 hr5 hs' hv => ?_) (fun e he m5 hch5 => ?_)
    rotate_left
    · rw [hlt] at he
      exact kp e (by rw [he]) m5 (c4.step hch5).ch
    rw [hlt] at hx
    rw [hx] at k kp
    have c5 := c4.step hch5
    obtain ⟨a', l', c', rfl⟩ := hv.sl
    refine ContRx.mk ?_
    refine copyRx ?_
    intro b6 m12 hb6 hle12 e6
    have hr12 : rg m12 r s' (d + 1) := hle12 _ _ hr5
    have c6 := c5.le hle12
    refine sees_spec (c := 41) hr12 ?_
    dsimp only [Cont]
    refine UnB.mk ?_
    rw [hs']
    refine Br.mk (fun h41 => ?_) (fun h41 => ?_)
    · have h41 : hdIs t' 41 = false := by simpa using h41
      refine kp 2 ?_ _ c6.ch
      split
      · rename_i x' t'' e
        cases e
        exact absurd rfl (hdIs_f h41 41 _ rfl)
      · rfl
      · rename_i e; cases e
    have h41 : hdIs t' 41 = true := by simpa using h41
    obtain ⟨x1, t2, rfl, hx1⟩ := hdIs_t h41
    have : x1 = 41 := u8_of hx1
    subst this
    have hz' : 1 ≤ s'.size := by rw [← lst_len s', hs']; simp
    have h6r : b6 ≠ r := by rintro rfl; rw [hr5] at hb6; cases hb6
    refine LdV.s0 hr12 (UnStr.mk ?_)
    refine ⟨by omega, by omega, by omega, ?_⟩
    refine St1.to #[.string (s'.extract 1 s'.size), .int .i64 ((d + 1 : Nat) : Int)] hr12 (by simp) rfl (by simp) ?_
    have hr13 : rg (m12.set r (.cells #[.string (s'.extract 1 s'.size), .int .i64 ((d + 1 : Nat) : Int)] T_regex_reader (0, 0))) r (s'.extract 1 s'.size) (d + 1) := set_same _ _ _
    refine LdV.s1 hr13 (UnI.mk ?_)
    rw [wi (n := ((d + 1 : Nat) : Int) - 1) (by omega) (by omega), show ((d + 1 : Nat) : Int) - 1 = (d : Int) by omega]
    refine St1.to #[.string (s'.extract 1 s'.size), .int .i64 (d : Int)] hr13 (by simp) rfl rfl ?_
    rw [set_set]
    have hch14 := Chg.set m12 r (.cells #[.string (s'.extract 1 s'.size), .int .i64 (d : Int)] T_regex_reader (0, 0))
    have hr14 : rg (m12.set r (.cells #[.string (s'.extract 1 s'.size), .int .i64 (d : Int)] T_regex_reader (0, 0))) r (s'.extract 1 s'.size) d := set_same _ _ _
    have e6' : (m12.set r (.cells #[.string (s'.extract 1 s'.size), .int .i64 (d : Int)] T_regex_reader (0, 0))) b6 = _ := (set_other _ _ h6r).trans e6
    generalize (m12.set r (.cells #[.string (s'.extract 1 s'.size), .int .i64 (d : Int)] T_regex_reader (0, 0))) = m14 at hch14 hr14 e6' ⊢
    have c7 := c6.step hch14
    refine get6 e6' ?_
    refine out6 (S := x.S) c7.at_ ?_
    have c8 := c7.put (rxO x.k x.S (.slice a' l' c'))
    refine k x t2 rfl _ (.slice a' l' c') (s'.extract 1 s'.size) c8.ch ?_ (by rw [lst_extract, hs']; rfl) ?_
    · show _ = _
      rw [set_other _ _ c8.ne.symm]; exact hr14
    · have h1 : ArgC (newB m4 m14) x (.slice a' l' c') := hv.le ((newB_le hle12).trans (newB_mono hch14 (fun b e => by rw [show b = r from e, hr4]; simp)))
      have h2 : ArgC (newB m4 (m14.set b2 (.cells (rxO x.k x.S (.slice a' l' c')) T_api_Rx (0, 0)))) x (.slice a' l' c') := h1.le (newB_mono (Chg.set m14 b2 _) (fun b e => by rw [show b = b2 from e]; exact hl14 _ hl2))
      exact h2.le (newB_up fun b hb => hl14 b (hup b hb))
end Go.E.Rg
set_option linter.unusedVariables false
set_option linter.unusedSimpArgs false
set_option maxRecDepth 20000
namespace Go.E.Rg
open Go.H Go.E
attribute [local irreducible] BiN MkS ConvN LookN MapUpN CallV HC limb dbTab
theorem ix_sg : ∀ c, c < 256 → ixB (ByteArray.mk #[42, 43, 63]) c = (match sgI (UInt8.ofNat c) with | some k => k - 4 | none => -1) := by decide +kernel
theorem sgI_in {c : UInt8} {k : Int} (h : sgI c = some k) : 4 ≤ k ∧ k ≤ 6 := by
  unfold sgI at h
  split at h; · cases h; omega
  split at h; · cases h; omega
  split at h
  · cases h; omega
  · cases h
theorem rep_ok {alt : Nat → List UInt8 → Res} {d : Nat} (hA : RdOK regex_reader_atom.id (atomF alt d) d) : RdOK regex_reader_rep.id (repF alt d) d := by
  intro m r s R hr hG hs k kp
  have hrl : m r ≠ none := by rw [hr]; simp
  refine regex_reader_rep.ok _ _ _ ?_
  intro b2 hb2
  have c2 := Cl.mk0 (T := T_api_Rx) (c := zRx) hrl hb2
  have hle1 : Le m (m.set b2 (.cells zRx T_api_Rx (0, 0))) := Le.set hb2 _
  have hl2 : (m.set b2 (.cells zRx T_api_Rx (0, 0))) b2 ≠ none := by rw [set_same]; simp
  generalize m.set b2 (.cells zRx T_api_Rx (0, 0)) = m1 at c2 hle1 hl2 ⊢
  have hr1 : rg m1 r s d := hle1 _ _ hr
  have hrl1 : m1 r ≠ none := by rw [hr1]; simp
  have hup : ∀ b, m b ≠ none → m1 b ≠ none := fun b hb => hle1.live hb
  refine hA hr1 (hG.chg c2.ch) hs (fun x t hx m2 v s' hch2 hr2 hs' hv => ?_) (fun e he m2 hch2 => ?_)
  rotate_left
  · exact kp e (by unfold repF; rw [he]) m2 (c2.step hch2).ch
  have hll := lst_len s'
  obtain ⟨a', l', c', rfl⟩ := hv.sl
  refine ContRx.mk ?_
  refine copyRx ?_
  intro b3 m9 hb3 hle9 e3
  have c9 := (c2.step hch2).le hle9
  have hr9 : rg m9 r s' d := hle9 _ _ hr2
  have h3r : b3 ≠ r := by rintro rfl; rw [hr2] at hb3; cases hb3
  have hv9 := hv.le (newB_le hle9)
  -- the answer x itself
  have plain : ∀ m10, Le m9 m10 → repF alt d (lst s) = .ok (x, t) →
      (LdV m10 b3 0 fun v => UnI v .i64 fun y0 => LdV m10 b3 1 fun v => UnI v .u64 fun y1 => LdV m10 b3 2 fun v => UnI v .u64 fun y2 => LdV m10 b3 3 fun v => UnI v .u64 fun y3 => LdV m10 b3 4 fun v => UnI v .u64 fun y4 => LdV m10 b3 5 fun v => UnS v fun ya yl yc =>
        St1 m10 b2 0 (.int .i64 y0) fun m1 => St1 m1 b2 1 (.int .u64 y1) fun m2 => St1 m2 b2 2 (.int .u64 y2) fun m3 => St1 m3 b2 3 (.int .u64 y3) fun m4 => St1 m4 b2 4 (.int .u64 y4) fun m5 => St1 m5 b2 5 (.slice ya yl yc) fun m6 =>
        LdV m6 b2 0 fun v => UnI v .i64 fun y0 => LdV m6 b2 1 fun v => UnI v .u64 fun y1 => LdV m6 b2 2 fun v => UnI v .u64 fun y2 => LdV m6 b2 3 fun v => UnI v .u64 fun y3 => LdV m6 b2 4 fun v => UnI v .u64 fun y4 => LdV m6 b2 5 fun v => UnS v fun ya yl yc =>
        R (.returned (.agg #[.int .i64 y0, .int .u64 y1, .int .u64 y2, .int .u64 y3, .int .u64 y4, .slice ya yl yc])) m6) := by
    intro m10 hle10 hrep
    have c10 := c9.le hle10
    refine get6 (hle10 _ _ e3) ?_
    refine out6 (S := x.S) c10.at_ ?_
    have c11 := c10.put (rxO x.k x.S (.slice a' l' c'))
    refine k x t hrep _ (.slice a' l' c') s' c11.ch ?_ hs' ?_
    · show _ = _
      rw [set_other _ _ c11.ne.symm]; exact hle10 _ _ hr9
    · exact (hv9.le ((newB_le hle10).trans (newB_mono (Chg.set m10 b2 _) (fun b e => by rw [show b = b2 from e]; exact hl2)))).le (newB_up hup)
  refine LdV.s0 hr9 (UnStr.mk ?_)
  refine BrE (fun h0 => ?_) (fun h0 => ?_)
  · have : t = [] := List.eq_nil_of_length_eq_zero (by rw [← hs', hll]; omega)
    exact plain m9 (Le.refl _) (by unfold repF; rw [hx, this])
  obtain ⟨c, t', ht⟩ : ∃ c t', t = c :: t' := by
    cases t with
    | nil => rw [hs'] at hll; simp at hll; omega
    | cons c t' => exact ⟨c, t', rfl⟩
  refine LdV.s0 hr9 (UnStr.mk ?_)
  refine ⟨by omega, by omega, ?_⟩
  have hb : bt s' 0 = (c.toNat : Int) := by
    show bt s' ((0 : Nat) : Int) = _
    rw [bt_nx (by omega)]
    show ((nx (lst s') 0 : Nat) : Int) = _
    rw [hs', ht, nx_cons0]
  rw [hb]
  have hc := UInt8.toNat_lt c
  refine IndexByte_spec hc ?_
  dsimp only [Cont]
  refine UnI.mk ?_
  rw [ix_sg _ hc, UInt8.ofNat_toNat]
  cases hk : sgI c with
  | none =>
    refine BrDt (by decide) ?_
    exact plain m9 (Le.refl _) (by unfold repF; rw [hx, ht]; dsimp only; rw [hk])
  | some kk =>
    have hkk := sgI_in hk
    refine BrDf (show ¬ (kk - 4 < 0) by omega) ?_
    have hrep : repF alt d (lst s) = .ok (.mk kk noS [x], t') := by unfold repF; rw [hx, ht]; dsimp only; rw [hk]
    refine LdV.s0 hr9 (UnStr.mk ?_)
    refine ⟨by omega, by omega, by omega, ?_⟩
    refine St1.to #[.string (s'.extract 1 s'.size), .int .i64 (d : Int)] hr9 (by simp) rfl (by simp) ?_
    have hch11 := Chg.set m9 r (.cells #[.string (s'.extract 1 s'.size), .int .i64 (d : Int)] T_regex_reader (0, 0))
    have hr11 : rg (m9.set r (.cells #[.string (s'.extract 1 s'.size), .int .i64 (d : Int)] T_regex_reader (0, 0))) r (s'.extract 1 s'.size) d := set_same _ _ _
    have e3' : (m9.set r (.cells #[.string (s'.extract 1 s'.size), .int .i64 (d : Int)] T_regex_reader (0, 0))) b3 = _ := (set_other _ _ h3r).trans e3
    generalize (m9.set r (.cells #[.string (s'.extract 1 s'.size), .int .i64 (d : Int)] T_regex_reader (0, 0))) = m11 at hch11 hr11 e3' ⊢
    have c11 := c9.step hch11
    have hv11 := hv9.le (newB_mono hch11 (fun b e => by rw [show b = r from e]; exact hrl1))
    have hup11 : ∀ b, m1 b ≠ none → m11 b ≠ none := fun b hb => hch11.live b (hle9.live (hch2.live b hb))
    refine get6 e3' ?_
    intro b34 hb34
    have hL := RL.one (m := m1) hb34 hup11 hv11
    have c12 := c11.le (Le.set hb34 (.cells #[.int .i64 x.k, .int .u64 (L x.S 0), .int .u64 (L x.S 1), .int .u64 (L x.S 2), .int .u64 (L x.S 3), .slice a' l' c'] T_api_Rx (0, 0)))
    have hr12 : rg (m11.set b34 (.cells #[.int .i64 x.k, .int .u64 (L x.S 0), .int .u64 (L x.S 1), .int .u64 (L x.S 2), .int .u64 (L x.S 3), .slice a' l' c'] T_api_Rx (0, 0))) r (s'.extract 1 s'.size) d := Le.set hb34 _ _ _ hr11
    generalize (m11.set b34 (.cells #[.int .i64 x.k, .int .u64 (L x.S 0), .int .u64 (L x.S 1), .int .u64 (L x.S 2), .int .u64 (L x.S 3), .slice a' l' c'] T_api_Rx (0, 0))) = m12 at hL c12 hr12 ⊢
    have ekk : IntKind.i64.wrap (4 + (kk - 4)) = kk := by rw [wi (by omega) (by omega)]; omega
    rw [ekk]
    have c13 := c12.put (rxO kk noS (.slice (some ⟨b34, 0, none⟩) 1 1))
    have hL13 := hL.up (Chg.set m12 b2 (.cells (rxO kk noS (.slice (some ⟨b34, 0, none⟩) 1 1)) T_api_Rx (0, 0))) (fun b e => by rw [show b = b2 from e]; exact hl2)
    have hfin := k (.mk kk noS [x]) t' hrep _ (.slice (some ⟨b34, 0, none⟩) 1 1) (s'.extract 1 s'.size) c13.ch (by
      show _ = _
      rw [set_other _ _ c13.ne.symm]; exact hr12) (by rw [lst_extract, hs', ht]; rfl) ((hL13.arg (Le.refl _) (by simp) kk noS).le (newB_up hup))
    have key := out6 (k := kk) (S := noS) (a := some ⟨b34, 0, none⟩) (l := 1) (c := 1) (e := T_api_Rx) (K := fun y0 y1 y2 y3 y4 ya yl yc m6 => R (.returned (.agg #[.int .i64 y0, .int .u64 y1, .int .u64 y2, .int .u64 y3, .int .u64 y4, .slice ya yl yc])) m6) c12.at_ hfin
    rw [noS_L, noS_L, noS_L, noS_L] at key
    exact key
theorem Cl.app {T : TypeId} {m m1 mm m' : Mem} {r b : Nat} {c : Array Value} {a : Option Addr} (h : Cl T m mm r b c) (k : Chg (fun x => blk a = some x) mm m') (hf : Fresh m1 a) (hb : m1 b ≠ none) (hm : ∀ b, m b ≠ none → m1 b ≠ none) : Cl T m m' r b c := by
  refine ⟨k.eq _ _ h.at_ (fun e => hb (hf b e)), h.ne, h.new, ?_⟩
  refine h.ch.trans k (fun x hx e => ?_)
  exact absurd (hf x e) (hm x hx)
/-- The end of a list: what 'one' makes of it is the answer. -/
theorem one_fin {m m1 mm : Mem} {r b2 d : Nat} {kind : Int} {a : Option Addr} {c : Nat} {prs : List (Rx × Value)} {s' : ByteArray} {R : Ending → Mem → Prop} (c2 : Cl T_api_Rx m mm r b2 zRx) (hl2 : m1 b2 ≠ none) (hup : ∀ b, m b ≠ none → m1 b ≠ none)
    (hr : rg mm r s' d) (hL : RL m1 mm a c prs) (hne : prs ≠ []) (hl : prs.length ≤ 1000000000)
    (k : ∀ m' v, Chg (fun b => b = r) m m' → rg m' r s' d → ArgC (newB m m') (one kind (prs.map (·.1))) v → R (.returned (rxA (one kind (prs.map (·.1))).k (one kind (prs.map (·.1))).S v)) m') :
    HC P regex_one.id #[.int .i64 kind, .slice a prs.length c] mm (Cont (fun v m => UnAgg v fun l => UnCons l fun v l => UnI v .i64 fun x0 => UnCons l fun v l => UnI v .u64 fun x1 => UnCons l fun v l => UnI v .u64 fun x2 => UnCons l fun v l => UnI v .u64 fun x3 => UnCons l fun v l => UnI v .u64 fun x4 => UnCons l fun v l => UnS v fun xa xl xc => UnNil l (
      St1 m b2 0 (.int .i64 x0) fun m1 => St1 m1 b2 1 (.int .u64 x1) fun m2 => St1 m2 b2 2 (.int .u64 x2) fun m3 => St1 m3 b2 3 (.int .u64 x3) fun m4 => St1 m4 b2 4 (.int .u64 x4) fun m5 => St1 m5 b2 5 (.slice xa xl xc) fun m6 =>
        LdV m6 b2 0 fun v => UnI v .i64 fun y0 => LdV m6 b2 1 fun v => UnI v .u64 fun y1 => LdV m6 b2 2 fun v => UnI v .u64 fun y2 => LdV m6 b2 3 fun v => UnI v .u64 fun y3 => LdV m6 b2 4 fun v => UnI v .u64 fun y4 => LdV m6 b2 5 fun v => UnS v fun ya yl yc =>
        R (.returned (.agg #[.int .i64 y0, .int .u64 y1, .int .u64 y2, .int .u64 y3, .int .u64 y4, .slice ya yl yc])) m6)) (panicR R)) := by
  refine one_spec hL hne hl ?_
  intro m3 v hle3 hv
  obtain ⟨a', l', c', rfl⟩ := hv.sl
  refine ContRx.mk ?_
  have c3 := c2.le hle3
  refine out6 (S := (one kind (prs.map (·.1))).S) c3.at_ ?_
  have c4 := c3.put (rxO (one kind (prs.map (·.1))).k (one kind (prs.map (·.1))).S (.slice a' l' c'))
  refine k _ (.slice a' l' c') c4.ch ?_ ?_
  · show _ = _
    rw [set_other _ _ c4.ne.symm]; exact hle3 _ _ hr
  · exact (hv.le (newB_mono (Chg.set m3 b2 _) (fun b e => by rw [show b = b2 from e]; exact hl2))).le (newB_up hup)
theorem cat_ok {alt : Nat → List UInt8 → Res} (hsh : Shr alt) {d : Nat} (hA : RdOK regex_reader_rep.id (repF alt d) d) : RdOK regex_reader_cat.id (catF alt d) d := by
  intro m r s R hr hG hs k kp
  have hll := lst_len s
  have hrl : m r ≠ none := by rw [hr]; simp
  refine regex_reader_cat.ok _ _ _ ?_
  intro b2 hb2
  have c2 := Cl.mk0 (T := T_api_Rx) (c := zRx) hrl hb2
  have hle1 : Le m (m.set b2 (.cells zRx T_api_Rx (0, 0))) := Le.set hb2 _
  have hl2 : (m.set b2 (.cells zRx T_api_Rx (0, 0))) b2 ≠ none := by rw [set_same]; simp
  generalize m.set b2 (.cells zRx T_api_Rx (0, 0)) = m1 at c2 hle1 hl2 ⊢
  have hr1 : rg m1 r s d := hle1 _ _ hr
  have hrl1 : m1 r ≠ none := by rw [hr1]; simp
  have hup : ∀ b, m b ≠ none → m1 b ≠ none := fun b hb => hle1.live hb
  refine hA hr1 (hG.chg c2.ch) hs (fun x t hx m2 v s1 hch2 hr2 hs1 hv => ?_) (fun e he m2 hch2 => ?_)
  rotate_left
  · exact kp e (by unfold catF; rw [he]) m2 (c2.step hch2).ch
  obtain ⟨a', l', c', rfl⟩ := hv.sl
  have hlen1 := rep_len hsh hx
  refine ContRx.mk ?_
  intro b6 hb6
  have hup2 : ∀ b, m1 b ≠ none → m2 b ≠ none := fun b hb => hch2.live b hb
  have hL0 := RL.one (m := m1) hb6 hup2 hv
  have c3 := (c2.step hch2).le (Le.set hb6 (.cells #[.int .i64 x.k, .int .u64 (L x.S 0), .int .u64 (L x.S 1), .int .u64 (L x.S 2), .int .u64 (L x.S 3), .slice a' l' c'] T_api_Rx (0, 0)))
  have hr3 : rg (m2.set b6 (.cells #[.int .i64 x.k, .int .u64 (L x.S 0), .int .u64 (L x.S 1), .int .u64 (L x.S 2), .int .u64 (L x.S 3), .slice a' l' c'] T_api_Rx (0, 0))) r s1 d := Le.set hb6 _ _ _ hr2
  have hup3 : ∀ b, m1 b ≠ none → (m2.set b6 (.cells #[.int .i64 x.k, .int .u64 (L x.S 0), .int .u64 (L x.S 1), .int .u64 (L x.S 2), .int .u64 (L x.S 3), .slice a' l' c'] T_api_Rx (0, 0))) b ≠ none := fun b hb => (Le.set hb6 _).live (hup2 b hb)
  generalize (m2.set b6 (.cells #[.int .i64 x.k, .int .u64 (L x.S 0), .int .u64 (L x.S 1), .int .u64 (L x.S 2), .int .u64 (L x.S 3), .slice a' l' c'] T_api_Rx (0, 0))) = m3 at hL0 c3 hr3 hup3 ⊢
  have hcat : catF alt d (lst s) = (match catL alt d (t.length + 1) [x] t with
    | .ok (l, s'') => .ok (one 2 l, s'')
    | .error e => .error e) := by unfold catF; rw [hx]; first | done | rfl
  refine ⟨fun N r0 x2b x2o la ll lc mm => r0 = some ⟨r, 0, none⟩ ∧ x2b = b2 ∧ x2o = 0 ∧ ∃ (prs : List (Rx × Value)) (s' : ByteArray), ll = prs.length ∧ prs ≠ [] ∧ prs.length + (lst s').length ≤ s.size ∧ N = (lst s').length ∧ Cl T_api_Rx m mm r b2 zRx ∧ rg mm r s' d ∧ RL m1 mm la lc prs ∧ (∀ b, m1 b ≠ none → mm b ≠ none) ∧ ∃ n, (lst s').length < n ∧ catL alt d n (prs.map (·.1)) (lst s') = catL alt d (t.length + 1) [x] t,
    t.length, ⟨rfl, rfl, rfl, [(x, .slice a' l' c')], s1, rfl, by simp, by rw [hs1]; simp; omega, by rw [hs1], c3, hr3, hL0, hup3, t.length + 1, by rw [hs1]; omega, by rw [hs1]; rfl⟩, ?_⟩
  rintro N r0 x2b x2o la ll lc mm ⟨rfl, rfl, rfl, prs, s', rfl, hne, hbd, rfl, cm, hrm, hL, hupm, n, hn, hcl⟩
  have hls := lst_len s'
  unfold regex_reader_cat.l1B
  obtain ⟨n, rfl⟩ : ∃ n', n = n' + 1 := ⟨n - 1, by omega⟩
  -- the end
  have stop : catL alt d (n + 1) (prs.map (·.1)) (lst s') = .ok (prs.map (·.1), lst s') → ∀ {R' : Ending → Mem → Prop}, R' = R → HC P regex_one.id #[.int .i64 2, .slice la prs.length lc] mm (Cont (fun v m => UnAgg v fun l => UnCons l fun v l => UnI v .i64 fun x0 => UnCons l fun v l => UnI v .u64 fun x1 => UnCons l fun v l => UnI v .u64 fun x2 => UnCons l fun v l => UnI v .u64 fun x3 => UnCons l fun v l => UnI v .u64 fun x4 => UnCons l fun v l => UnS v fun xa xl xc => UnNil l (
      St1 m x2b 0 (.int .i64 x0) fun m1 => St1 m1 x2b 1 (.int .u64 x1) fun m2 => St1 m2 x2b 2 (.int .u64 x2) fun m3 => St1 m3 x2b 3 (.int .u64 x3) fun m4 => St1 m4 x2b 4 (.int .u64 x4) fun m5 => St1 m5 x2b 5 (.slice xa xl xc) fun m6 =>
        LdV m6 x2b 0 fun v => UnI v .i64 fun y0 => LdV m6 x2b 1 fun v => UnI v .u64 fun y1 => LdV m6 x2b 2 fun v => UnI v .u64 fun y2 => LdV m6 x2b 3 fun v => UnI v .u64 fun y3 => LdV m6 x2b 4 fun v => UnI v .u64 fun y4 => LdV m6 x2b 5 fun v => UnS v fun ya yl yc =>
        R (.returned (.agg #[.int .i64 y0, .int .u64 y1, .int .u64 y2, .int .u64 y3, .int .u64 y4, .slice ya yl yc])) m6)) (panicR R')) := by
    rintro hst R' rfl
    refine one_fin cm hl2 hup hrm hL hne (by omega) ?_
    intro m' v hch hr' hv'
    refine k _ (lst s') ?_ m' v s' hch hr' rfl hv'
    rw [hcat, ← hcl, hst]
  refine LdV.s0 hrm (UnStr.mk ?_)
  refine BrD (fun hpos => ?_) (fun hz => ?_)
  rotate_left
  · have : lst s' = [] := List.eq_nil_of_length_eq_zero (by omega)
    exact stop (by unfold catL; rw [this]) rfl
  obtain ⟨c, t', ht⟩ : ∃ c t', lst s' = c :: t' := by
    cases h : lst s' with
    | nil => rw [h] at hls; simp at hls; omega
    | cons c t' => exact ⟨c, t', rfl⟩
  have hlen' : t'.length + 1 = s'.size := by rw [← hls, ht]; simp
  refine sees_spec (c := 124) hrm ?_
  dsimp only [Cont]
  refine UnB.mk ?_
  refine Br.mk (fun h1 => ?_) (fun h1 => ?_)
  rotate_left
  · have h1 : hdIs (lst s') 124 = true := by simpa using h1
    obtain ⟨c0, t0, e0, hc0⟩ := hdIs_t h1
    have : c0 = 124 := u8_of hc0
    subst this
    exact stop (by unfold catL; rw [e0]; dsimp only; rw [if_pos (.inl rfl)]) rfl
  have h1 : hdIs (lst s') 124 = false := by simpa using h1
  refine sees_spec (c := 41) hrm ?_
  dsimp only [Cont]
  refine UnB.mk ?_
  refine Br.mk (fun h2 => ?_) (fun h2 => ?_)
  rotate_left
  · have h2 : hdIs (lst s') 41 = true := by simpa using h2
    obtain ⟨c0, t0, e0, hc0⟩ := hdIs_t h2
    have : c0 = 41 := u8_of hc0
    subst this
    exact stop (by unfold catL; rw [e0]; dsimp only; rw [if_pos (.inr rfl)]) rfl
  have h2 : hdIs (lst s') 41 = false := by simpa using h2
  have hno : ¬ (c = 124 ∨ c = 41) := by
    rintro (rfl | rfl)
    · exact hdIs_f h1 _ _ ht rfl
    · exact hdIs_f h2 _ _ ht rfl
  have hstep : catL alt d (n + 1) (prs.map (·.1)) (lst s') = (match repF alt d (lst s') with
      | .ok (x, s') => catL alt d n ((prs.map (·.1)) ++ [x]) s'
      | .error e => .error e) := by
    rw [ht]
    conv => lhs; unfold catL
    dsimp only
    rw [if_neg hno]
    first | done | rfl
  rw [hstep] at hcl
  refine hA hrm (hG.chg cm.ch) (by omega) (fun x2 t2 hx2 m5 v2 s2 hch5 hr5 hs2 hv2 => ?_) (fun e he m5 hch5 => ?_)
  rotate_left
  · exact kp e (by rw [hcat, ← hcl, he]) m5 (cm.step hch5).ch
  obtain ⟨a2, l2, c2', rfl⟩ := hv2.sl
  have hlen2 := rep_len hsh hx2
  refine ContRx.mk ?_
  have hL5 := hL.up hch5 (fun b e => by rw [show b = r from e]; exact hrl1)
  have hx5 := hL.in_ hupm hv2
  have hup5 : ∀ b, m1 b ≠ none → m5 b ≠ none := fun b hb => hch5.live b (hupm b hb)
  refine RL.push hL5 (x := x2) rfl hx5 (by omega) hup5 ?_
  intro a6 c6 m6 hch6 hL6
  refine UnS.mk ?_
  have cm6 := (cm.step hch5).app hch6 hL5.fr hl2 hup
  have hr6 : rg m6 r s2 d := hch6.eq _ _ hr5 (fun e => hrl1 (hL5.fr r e))
  rw [hx2] at hcl
  dsimp only at hcl
  rw [hs2.symm] at hlen2 hcl
  have hls2 := lst_len s2
  refine ⟨(lst s2).length, by omega, rfl, rfl, rfl, prs ++ [(x2, .slice a2 l2 c2')], s2, by simp, by simp, by simp; omega, rfl, cm6, hr6, hL6, fun b hb => hch6.live b (hup5 b hb), n, by omega, ?_⟩
  rw [List.map_append]
  exact hcl
end Go.E.Rg
set_option linter.unusedVariables false
set_option linter.unusedSimpArgs false
set_option maxRecDepth 20000
namespace Go.E.Rg
open Go.H Go.E
attribute [local irreducible] BiN MkS ConvN LookN MapUpN CallV HC limb dbTab
theorem alt_ok {alt : Nat → List UInt8 → Res} (hsh : Shr alt) {d : Nat} (hA : RdOK regex_reader_cat.id (catF alt d) d) : RdOK regex_reader_alt.id (altF alt d) d := by
  intro m r s R hr hG hs k kp
  have hll := lst_len s
  have hrl : m r ≠ none := by rw [hr]; simp
  refine regex_reader_alt.ok _ _ _ ?_
  intro b2 hb2
  have c2 := Cl.mk0 (T := T_api_Rx) (c := zRx) hrl hb2
  have hle1 : Le m (m.set b2 (.cells zRx T_api_Rx (0, 0))) := Le.set hb2 _
  have hl2 : (m.set b2 (.cells zRx T_api_Rx (0, 0))) b2 ≠ none := by rw [set_same]; simp
  generalize m.set b2 (.cells zRx T_api_Rx (0, 0)) = m1 at c2 hle1 hl2 ⊢
  have hr1 : rg m1 r s d := hle1 _ _ hr
  have hrl1 : m1 r ≠ none := by rw [hr1]; simp
  have hup : ∀ b, m b ≠ none → m1 b ≠ none := fun b hb => hle1.live hb
  refine hA hr1 (hG.chg c2.ch) hs (fun x t hx m2 v s1 hch2 hr2 hs1 hv => ?_) (fun e he m2 hch2 => ?_)
  rotate_left
  · exact kp e (by unfold altF; rw [he]) m2 (c2.step hch2).ch
  obtain ⟨a', l', c', rfl⟩ := hv.sl
  have hlen1 := cat_len hsh hx
  refine ContRx.mk ?_
  intro b6 hb6
  have hup2 : ∀ b, m1 b ≠ none → m2 b ≠ none := fun b hb => hch2.live b hb
  have hL0 := RL.one (m := m1) hb6 hup2 hv
  have c3 := (c2.step hch2).le (Le.set hb6 (.cells #[.int .i64 x.k, .int .u64 (L x.S 0), .int .u64 (L x.S 1), .int .u64 (L x.S 2), .int .u64 (L x.S 3), .slice a' l' c'] T_api_Rx (0, 0)))
  have hr3 : rg (m2.set b6 (.cells #[.int .i64 x.k, .int .u64 (L x.S 0), .int .u64 (L x.S 1), .int .u64 (L x.S 2), .int .u64 (L x.S 3), .slice a' l' c'] T_api_Rx (0, 0))) r s1 d := Le.set hb6 _ _ _ hr2
  have hup3 : ∀ b, m1 b ≠ none → (m2.set b6 (.cells #[.int .i64 x.k, .int .u64 (L x.S 0), .int .u64 (L x.S 1), .int .u64 (L x.S 2), .int .u64 (L x.S 3), .slice a' l' c'] T_api_Rx (0, 0))) b ≠ none := fun b hb => (Le.set hb6 _).live (hup2 b hb)
  generalize (m2.set b6 (.cells #[.int .i64 x.k, .int .u64 (L x.S 0), .int .u64 (L x.S 1), .int .u64 (L x.S 2), .int .u64 (L x.S 3), .slice a' l' c'] T_api_Rx (0, 0))) = m3 at hL0 c3 hr3 hup3 ⊢
  have hcat : altF alt d (lst s) = (match altL alt d (t.length + 1) [x] t with
    | .ok (l, s'') => .ok (one 3 l, s'')
    | .error e => .error e) := by unfold altF; rw [hx]; first | done | rfl
  refine ⟨fun N r0 x2b x2o la ll lc mm => r0 = some ⟨r, 0, none⟩ ∧ x2b = b2 ∧ x2o = 0 ∧ ∃ (prs : List (Rx × Value)) (s' : ByteArray), ll = prs.length ∧ prs ≠ [] ∧ prs.length + (lst s').length ≤ s.size ∧ N = (lst s').length ∧ Cl T_api_Rx m mm r b2 zRx ∧ rg mm r s' d ∧ RL m1 mm la lc prs ∧ (∀ b, m1 b ≠ none → mm b ≠ none) ∧ ∃ n, (lst s').length < n ∧ altL alt d n (prs.map (·.1)) (lst s') = altL alt d (t.length + 1) [x] t,
    t.length, ⟨rfl, rfl, rfl, [(x, .slice a' l' c')], s1, rfl, by simp, by rw [hs1]; simp; omega, by rw [hs1], c3, hr3, hL0, hup3, t.length + 1, by rw [hs1]; omega, by rw [hs1]; rfl⟩, ?_⟩
  rintro N r0 x2b x2o la ll lc mm ⟨rfl, rfl, rfl, prs, s', rfl, hne, hbd, rfl, cm, hrm, hL, hupm, n, hn, hcl⟩
  have hls := lst_len s'
  unfold regex_reader_alt.l1B
  obtain ⟨n, rfl⟩ : ∃ n', n = n' + 1 := ⟨n - 1, by omega⟩
  refine sees_spec (c := 124) hrm ?_
  dsimp only [Cont]
  refine UnB.mk ?_
  refine Br.mk (fun h1 => ?_) (fun h1 => ?_)
  rotate_left
  · refine one_fin cm hl2 hup hrm hL hne (by omega) ?_
    intro m' v hch hr' hv'
    refine k _ (lst s') ?_ m' v s' hch hr' rfl hv'
    have hst : altL alt d (n + 1) (prs.map (·.1)) (lst s') = .ok (prs.map (·.1), lst s') := by
      unfold altL
      split
      · rename_i t0 e0
        exact absurd rfl (hdIs_f h1 _ _ e0)
      · rfl
    rw [hcat, ← hcl, hst]
  obtain ⟨c0, t', ht, hc0⟩ := hdIs_t h1
  have : c0 = 124 := u8_of hc0
  subst this
  have hlen' : t'.length + 1 = s'.size := by rw [← hls, ht]; simp
  have hstep : altL alt d (n + 1) (prs.map (·.1)) (lst s') = (match catF alt d t' with
      | .ok (x, s') => altL alt d n ((prs.map (·.1)) ++ [x]) s'
      | .error e => .error e) := by
    rw [ht]
    conv => lhs; unfold altL
    rfl
  rw [hstep] at hcl
  refine LdV.s0 hrm (UnStr.mk ?_)
  refine ⟨by omega, by omega, by omega, ?_⟩
  refine St1.to #[.string (s'.extract 1 s'.size), .int .i64 (d : Int)] hrm (by simp) rfl (by simp) ?_
  have hch4 := Chg.set mm r (.cells #[.string (s'.extract 1 s'.size), .int .i64 (d : Int)] T_regex_reader (0, 0))
  have hr4 : rg (mm.set r (.cells #[.string (s'.extract 1 s'.size), .int .i64 (d : Int)] T_regex_reader (0, 0))) r (s'.extract 1 s'.size) d := set_same _ _ _
  generalize mm.set r (.cells #[.string (s'.extract 1 s'.size), .int .i64 (d : Int)] T_regex_reader (0, 0)) = m4 at hch4 hr4 ⊢
  have hlt : lst (s'.extract 1 s'.size) = t' := by rw [lst_extract, ht]; rfl
  have hl4 := lst_len (s'.extract 1 s'.size)
  rw [hlt] at hl4
  have cm4 := cm.step hch4
  have hL4 := hL.up hch4 (fun b e => by rw [show b = r from e]; exact hrl1)
  have hup4 : ∀ b, m1 b ≠ none → m4 b ≠ none := fun b hb => hch4.live b (hupm b hb)
  refine hA hr4 (hG.chg cm4.ch) (by omega) (fun x2 t2 hx2 m5 v2 s2 hch5 hr5 hs2 hv2 => ?_) (fun e he m5 hch5 => ?_)
  rotate_left
  · rw [hlt] at he
    exact kp e (by rw [hcat, ← hcl, he]) m5 (cm4.step hch5).ch
  rw [hlt] at hx2
  obtain ⟨a2, l2, c2', rfl⟩ := hv2.sl
  have hlen2 := cat_len hsh hx2
  refine ContRx.mk ?_
  have hL5 := hL4.up hch5 (fun b e => by rw [show b = r from e]; exact hrl1)
  have hx5 := hL4.in_ hup4 hv2
  have hup5 : ∀ b, m1 b ≠ none → m5 b ≠ none := fun b hb => hch5.live b (hup4 b hb)
  refine RL.push hL5 (x := x2) rfl hx5 (by omega) hup5 ?_
  intro a6 c6 m6 hch6 hL6
  refine UnS.mk ?_
  have cm6 := (cm4.step hch5).app hch6 hL5.fr hl2 hup
  have hr6 : rg m6 r s2 d := hch6.eq _ _ hr5 (fun e => hrl1 (hL5.fr r e))
  rw [hx2] at hcl
  dsimp only at hcl
  rw [hs2.symm] at hlen2 hcl
  have hls2 := lst_len s2
  refine ⟨(lst s2).length, by omega, rfl, rfl, rfl, prs ++ [(x2, .slice a2 l2 c2')], s2, by simp, by simp, by simp; omega, rfl, cm6, hr6, hL6, fun b hb => hch6.live b (hup5 b hb), n, by omega, ?_⟩
  rw [List.map_append]
  exact hcl
theorem alt_all : ∀ (n d : Nat), d ≤ 13 → 14 ≤ n + d → RdOK regex_reader_alt.id (pAlt n d) d
  | 0, d, h, h' => by omega
  | n + 1, d, h, h' => alt_ok (pAlt_len n) (cat_ok (pAlt_len n) (rep_ok (atom_ok h fun h2 => alt_all n (d + 1) (by omega) (by omega))))
abbrev ptr (b : Nat) : Value := .pointer (some ⟨b, 0, none⟩)
/-- A failure ends so. -/
theorem Parse_fail {m mm : Mem} {b2 b3 : Nat} {x0 x1 x2 x3 x4 x5 y : Value} {e : Int} (hle : Le m mm) (n23 : b2 ≠ b3) (w2 : m b2 = none) (w3 : m b3 = none) (a2 : mm b2 = some (.cells #[x0, x1, x2, x3, x4, x5] T_api_Rx (0, 0))) (a3 : mm b3 = some (.cells #[y] T_api_Errno (0, 0))) {R : Ending → Mem → Prop}
    (k : ∀ m', Le m m' → R (.returned (.tuple #[rxA 0 noS (.slice none 0 0), .int .i64 e])) m') : DefR P regex_Parse_1.id #[ptr b2, ptr b3] (regex_Parse.out b2 0 b3 0 R) (pan e) mm := by
  refine ⟨refv e, rfl, regex_Parse_1.df_some _ _ e _ _ ?_⟩
  unfold regex_Parse_1.tsome
  intro bf hbf
  have hbfm : m bf = none := hle.new hbf
  refine St1.to #[.int .i64 e] (set_same _ _ _) (by simp) rfl rfl ?_
  rw [set_set]
  have hle2 := Le.set hbf (.cells #[.int .i64 e] T_regex_refusal (0, 0))
  have hf2 : (mm.set bf (.cells #[.int .i64 e] T_regex_refusal (0, 0))) bf = _ := set_same _ _ _
  have ne2 : bf ≠ b2 := by rintro rfl; rw [a2] at hbf; cases hbf
  have ne3 : bf ≠ b3 := by rintro rfl; rw [a3] at hbf; cases hbf
  have a2' := hle2 _ _ a2
  have a3' := hle2 _ _ a3
  have hle' := hle.trans hle2
  generalize mm.set bf (.cells #[.int .i64 e] T_regex_refusal (0, 0)) = m2 at hf2 a2' a3' hle' ⊢
  refine ⟨m2.wo (fun b => b = b2), wo_le _ _, ?_⟩
  refine LdV.s0 ((wo_in (F := fun b => b = b2) ne2).trans hf2) (UnI.mk ?_)
  have key := put6 (k := 0) (S := noS) (a := none) (l := 0) (c := 0) (e := T_api_Rx) (K := fun m9 => Lk (m2.wo fun b => b = b2) m9 fun r10 => St1 m9 b3 0 (.int .i64 e) fun m11 => regex_Parse.out b2 0 b3 0 R m11) a2' (by
    refine ⟨_, Le.refl _, ?_, ?_⟩
    · intro b o hb
      by_cases eb : b = b2
      · rw [wo_out (F := fun b => b = b2) eb] at hb; cases hb
      · rw [set_other _ _ eb, ← wo_in (m := m2) (F := fun b => b = b2) eb]; exact hb
    have a3'' : (m2.set b2 (.cells (rxO 0 noS (.slice none 0 0)) T_api_Rx (0, 0))) b3 = _ := (set_other _ _ n23.symm).trans a3'
    have hch : Chg (fun b => b = b2) m2 (m2.set b2 (.cells (rxO 0 noS (.slice none 0 0)) T_api_Rx (0, 0))) := Chg.set _ _ _
    have hle3 := hch.to_le hle' (fun b e => by rw [show b = b2 from e]; exact w2)
    have hs2 : (m2.set b2 (.cells (rxO 0 noS (.slice none 0 0)) T_api_Rx (0, 0))) b2 = _ := set_same _ _ _
    generalize m2.set b2 (.cells (rxO 0 noS (.slice none 0 0)) T_api_Rx (0, 0)) = m9 at a3'' hle3 hs2 ⊢
    refine St1.to #[.int .i64 e] a3'' (by simp) rfl rfl ?_
    have hle4 := (Chg.set m9 b3 (.cells #[.int .i64 e] T_api_Errno (0, 0))).to_le hle3 (fun b e => by rw [show b = b3 from e]; exact w3)
    unfold regex_Parse.out
    refine get6 ((set_other _ _ n23).trans hs2) ?_
    refine LdV.s0 (set_same _ _ _) (UnI.mk ?_)
    exact k _ hle4)
  rw [noS_L, noS_L, noS_L, noS_L] at key
  exact key
theorem Parse_ok {s : ByteArray} {m : Mem} (hG : Glob m) (hs : s.size ≤ 1000000) {R : Ending → Mem → Prop}
    (k : ∀ x, parse (lst s) = .ok x → ∀ m' v, Le m m' → ArgC m' x v → R (.returned (.tuple #[rxA x.k x.S v, .int .i64 0])) m')
    (kp : ∀ e, parse (lst s) = .error e → ∀ m', Le m m' → R (.returned (.tuple #[rxA 0 noS (.slice none 0 0), .int .i64 e])) m') : HC P regex_Parse.id #[.string s] m R := by
  refine regex_Parse.ok _ _ _ ?_
  intro b2 h2 b3 h3
  have n32 : b3 ≠ b2 := fun e => by subst e; rw [set_same] at h3; cases h3
  have w3 : m b3 = none := by rw [set_other _ _ n32] at h3; exact h3
  have hle2 : Le m ((m.set b2 (.cells zRx T_api_Rx (0, 0))).set b3 (.cells #[.int .i64 0] T_api_Errno (0, 0))) := (Le.set h2 _).trans (Le.set h3 _)
  have a2 : ((m.set b2 (.cells zRx T_api_Rx (0, 0))).set b3 (.cells #[.int .i64 0] T_api_Errno (0, 0))) b2 = some (.cells zRx T_api_Rx (0, 0)) := by rw [set_other _ _ n32.symm, set_same]
  have a3 : ((m.set b2 (.cells zRx T_api_Rx (0, 0))).set b3 (.cells #[.int .i64 0] T_api_Errno (0, 0))) b3 = some (.cells #[.int .i64 0] T_api_Errno (0, 0)) := set_same _ _ _
  generalize (m.set b2 (.cells zRx T_api_Rx (0, 0))).set b3 (.cells #[.int .i64 0] T_api_Errno (0, 0)) = m2 at hle2 a2 a3
  unfold regex_Parse.rest0 regex_Parse.k1
  intro b9 h9
  have w9 : m b9 = none := hle2.new h9
  have n92 : b9 ≠ b2 := fun e => by subst e; rw [a2] at h9; cases h9
  have n93 : b9 ≠ b3 := fun e => by subst e; rw [a3] at h9; cases h9
  have hle3 := Le.set h9 (.cells #[.string s, .int .i64 0] T_regex_reader (0, 0))
  have hr : rg (m2.set b9 (.cells #[.string s, .int .i64 0] T_regex_reader (0, 0))) b9 s 0 := set_same _ _ _
  have a2' := hle3 _ _ a2
  have a3' := hle3 _ _ a3
  have hl3 := hle2.trans hle3
  have hGR : GlobR (m2.set b9 (.cells #[.string s, .int .i64 0] T_regex_reader (0, 0))) b9 := by
    refine hG.le (le_wo hl3 ?_)
    rintro b rfl; exact w9
  generalize m2.set b9 (.cells #[.string s, .int .i64 0] T_regex_reader (0, 0)) = m3 at hr a2' a3' hl3 hGR ⊢
  have hparse : parse (lst s) = (match pAlt 14 0 (lst s) with
    | .ok (x, []) => if may x = 0 then .ok x else .error (may x)
    | .ok _ => .error 2
    | .error e => .error e) := rfl
  refine alt_all 14 0 (by omega) (by omega) hr hGR hs (fun x t hx m4 v s' hch hr4 hs' hv => ?_) (fun e he m4 hch => ?_)
  rotate_left
  · refine Parse_fail (hch.to_le hl3 (fun b e => by rw [show b = b9 from e]; exact w9)) n32.symm h2 w3 (hch.eq _ _ a2' n92.symm) (hch.eq _ _ a3' n93.symm) ?_
    exact kp e (by rw [hparse, he])
  have hle4 := hch.to_le hl3 (fun b e => by rw [show b = b9 from e]; exact w9)
  have a24 := hch.eq _ _ a2' n92.symm
  have a34 := hch.eq _ _ a3' n93.symm
  obtain ⟨a', l', c', rfl⟩ := hv.sl
  refine ContRx.mk ?_
  refine put6 (S := x.S) a24 ?_
  have hch8 := Chg.set m4 b2 (.cells (rxO x.k x.S (.slice a' l' c')) T_api_Rx (0, 0))
  have a28 : (m4.set b2 (.cells (rxO x.k x.S (.slice a' l' c')) T_api_Rx (0, 0))) b2 = _ := set_same _ _ _
  have a38 := hch8.eq _ _ a34 n32
  have hr8 := hch8.eq _ _ hr4 n92
  have hle8 := hch8.to_le hle4 (fun b e => by rw [show b = b2 from e]; exact h2)
  have hv8 : ArgC (newB m3 (m4.set b2 (.cells (rxO x.k x.S (.slice a' l' c')) T_api_Rx (0, 0)))) x (.slice a' l' c') := hv.le (newB_mono hch8 (fun b e => by rw [show b = b2 from e, a2']; simp))
  generalize m4.set b2 (.cells (rxO x.k x.S (.slice a' l' c')) T_api_Rx (0, 0)) = m8 at hch8 a28 a38 hr8 hle8 hv8 ⊢
  refine LdV.s0 hr8 (UnStr.mk ?_)
  have hmt : ((s'.toList == (ByteArray.mk #[]).toList) = true) ↔ t = [] := by
    rw [beq_iff_eq, ← hs']
    constructor
    · intro h
      rw [ByteArray.toList_eq, ByteArray.toList_eq] at h
      exact h
    · intro h
      have : s' = ByteArray.mk #[] := by rw [← bstr_lst s', h]; rfl
      rw [this]
  refine Br.mk (fun h0 => ?_) (fun h0 => ?_)
  · refine Parse_fail hle8 n32.symm h2 w3 a28 a38 ?_
    refine kp 2 ?_
    rw [hparse, hx]
    cases t with
    | nil => rw [hmt.mpr rfl] at h0; cases h0
    | cons c t => rfl
  have ht : t = [] := hmt.mp (by simpa using h0)
  subst ht
  refine get6 a28 ?_
  have hfew := pAlt_few 14 _ _ _ _ hx
  have hls := lst_len s
  refine May_spec (hv8.le (on_le _ _)) (by omega) ?_
  intro m9 hle9
  dsimp only [Cont]
  refine UnI.mk ?_
  have hle9' := hle8.trans hle9
  have a29 := hle9 _ _ a28
  have a39 := hle9 _ _ a38
  refine BrN (fun hne => ?_) (fun heq => ?_)
  · refine Parse_fail hle9' n32.symm h2 w3 a29 a39 ?_
    refine kp (may x) ?_
    rw [hparse, hx]
    exact if_neg hne
  refine get6 a29 ?_
  refine put6 (S := x.S) a29 ?_
  have hch10 := Chg.set m9 b2 (.cells (rxO x.k x.S (.slice a' l' c')) T_api_Rx (0, 0))
  have a210 : (m9.set b2 (.cells (rxO x.k x.S (.slice a' l' c')) T_api_Rx (0, 0))) b2 = _ := set_same _ _ _
  have a310 := hch10.eq _ _ a39 n32
  have hle10 := hch10.to_le hle9' (fun b e => by rw [show b = b2 from e]; exact h2)
  have hv10 : ArgC (newB m3 (m9.set b2 (.cells (rxO x.k x.S (.slice a' l' c')) T_api_Rx (0, 0)))) x (.slice a' l' c') := hv8.le ((newB_le hle9).trans (newB_mono hch10 (fun b e => by rw [show b = b2 from e, a2']; simp)))
  generalize m9.set b2 (.cells (rxO x.k x.S (.slice a' l' c')) T_api_Rx (0, 0)) = m10 at hch10 a210 a310 hle10 hv10 ⊢
  refine St1.to #[.int .i64 0] a310 (by simp) rfl rfl ?_
  have hch11 := Chg.set m10 b3 (.cells #[.int .i64 0] T_api_Errno (0, 0))
  have a211 := hch11.eq _ _ a210 n32.symm
  have a311 : (m10.set b3 (.cells #[.int .i64 0] T_api_Errno (0, 0))) b3 = _ := set_same _ _ _
  have hle11 := hch11.to_le hle10 (fun b e => by rw [show b = b3 from e]; exact w3)
  have hv11 : ArgC (newB m3 (m10.set b3 (.cells #[.int .i64 0] T_api_Errno (0, 0)))) x (.slice a' l' c') := hv10.le (newB_mono hch11 (fun b e => by rw [show b = b3 from e, a3']; simp))
  generalize m10.set b3 (.cells #[.int .i64 0] T_api_Errno (0, 0)) = m11 at hch11 a211 a311 hle11 hv11 ⊢
  refine regex_Parse_1.df_none _ _ _ _ ?_
  unfold regex_Parse_1.tnone
  intro bf hbf
  refine St1.to #[.int .i64 0] (set_same _ _ _) (by simp) rfl rfl ?_
  rw [set_set]
  have hle12 := Le.set hbf (.cells #[.int .i64 0] T_regex_refusal (0, 0))
  unfold regex_Parse.out
  refine get6 (hle12 _ _ a211) ?_
  refine LdV.s0 (hle12 _ _ a311) (UnI.mk ?_)
  exact k x (by rw [hparse, hx]; exact if_pos heq) _ _ (hle11.trans hle12) ((hv11.le (on_le _ _)).le hle12)
end Go.E.Rg
set_option linter.unusedVariables false
set_option linter.unusedSimpArgs false
set_option maxRecDepth 20000
namespace Go.E.Rg
open Go.H Go.E
attribute [local irreducible] BiN MkS ConvN LookN MapUpN CallV HC limb dbTab
abbrev rb (m : Mem) (r : Nat) (s : ByteArray) (i d : Nat) (e : Int) : Prop := m r = some (.cells #[.string s, .int .i64 (i : Int), .int .i64 (d : Int), .int .i64 e] T_eyotref8_reader (0, 0))
theorem ContU.mk {K : Mem → Prop} {Pn : List PanicEntry → Mem → Prop} {m : Mem} (h : K m) : Cont (fun v m => UnTup v fun us0 => UnNil us0 (K m)) Pn (.returned (.tuple #[])) m := h
theorem k3_spec {m m1 mm : Mem} {r b2 b4 : Nat} {s : ByteArray} {i n d : Nat} {e : Int} {S : Nat → Bool} (hr : rb mm r s i d e) (hn : i + n ≤ 1000000) (c2 : Cl T_api_Rx m mm r b2 zRx) (h4 : mm b4 = some (.cells (cells4 S) T_api_Set (0, 0))) {R : Ending → Mem → Prop}
    (k : ∀ m', Chg (fun b => b = r) m m' → rb m' r s (i + n) d e → R (.returned (rxA 1 S (.slice none 0 0))) m') : eyotref8_reader_atom.k3 (some ⟨r, 0, none⟩) b2 0 b4 0 (n : Int) R mm := by
  unfold eyotref8_reader_atom.k3
  refine LdV.s1 hr (UnI.mk ?_)
  have h4r : b4 ≠ r := by rintro rfl; have e0 := h4.symm.trans hr; cases e0
  rw [wi (by omega) (by omega)]
  refine St1.to #[.string s, .int .i64 ((i + n : Nat) : Int), .int .i64 (d : Int), .int .i64 e] hr (by simp) rfl (by simp) ?_
  have c3 := c2.step (Chg.set mm r (.cells #[.string s, .int .i64 ((i + n : Nat) : Int), .int .i64 (d : Int), .int .i64 e] T_eyotref8_reader (0, 0)))
  refine get4 ((set_other _ _ h4r).trans h4) ?_
  refine out6 (S := S) c3.at_ ?_
  have c4 := c3.put (rxO 1 S (.slice none 0 0))
  refine k _ c4.ch ?_
  show _ = _
  rw [set_other _ _ c4.ne.symm]; exact set_same _ _ _
end Go.E.Rg
set_option linter.unusedVariables false
set_option linter.unusedSimpArgs false
set_option maxRecDepth 20000
namespace Go.E.Rg
open Go.H Go.E
attribute [local irreducible] BiN MkS ConvN LookN MapUpN CallV HC limb dbTab
abbrev rowA (n : Nat) (f : Nat → Bool) : Array Value := ((List.range n).map fun k => Value.bool (f k)).toArray
abbrev tblA (n q : Nat) (rb : Nat → Nat) : Array Value := ((List.range n).map fun i => if i < q then Value.slice (some ⟨rb i, 0, none⟩) n n else Value.slice none 0 0).toArray
/-- A table as it lies there. -/
structure Tb (m : Mem) (n b0 : Nat) (rb : Nat → Nat) (f : Nat → Nat → Bool) : Prop where
  c0 : m b0 = some (.cells (tblA n n rb) T_sl_bool (0, 0))
  row : ∀ i, i < n → m (rb i) = some (.cells (rowA n (f i)) T_bool (0, 0))
theorem Tb.le {m m' : Mem} {n b0 : Nat} {rb : Nat → Nat} {f : Nat → Nat → Bool} (h : Tb m n b0 rb f) (k : Le m m') : Tb m' n b0 rb f := ⟨k _ _ h.c0, fun i hi => k _ _ (h.row i hi)⟩
theorem range_get {α : Type} {n i : Nat} (g : Nat → α) (h : i < n) : ((List.range n).map g)[i]? = some (g i) := by
  rw [List.getElem?_map, List.getElem?_range h]; rfl
theorem IxS.blk {m : Mem} {b n i : Nat} {vs : List Value} {e : TypeId} {fr : Nat × Nat} {v : Value} (h : m b = some (.cells vs.toArray e fr)) (hi : i < n) (hv : vs[i]? = some v) {K : Value → Prop} (k : K v) : IxS (some ⟨b, 0, none⟩) n (i : Int) 1 fun b o => LdV m b o K := by
  refine ⟨by omega, by omega, ?_⟩
  refine LdV.mk (v := v) ?_ k
  refine cell_of h ?_
  rw [show (0 + (i : Int).toNat * 1) = i by omega]
  simpa using hv
section
variable {m : Mem} {n b0 i k : Nat} {rb : Nat → Nat} {f : Nat → Nat → Bool}
theorem Tb.rd (h : Tb m n b0 rb f) (hi : i < n) {K : Option Addr → Nat → Nat → Prop} (q : K (some ⟨rb i, 0, none⟩) n n) : IxS (some ⟨b0, 0, none⟩) n (i : Int) 1 fun b o => LdV m b o fun v => UnS v K := by
  refine IxS.blk h.c0 hi (range_get _ hi) ?_
  rw [if_pos hi]
  exact q
theorem Tb.cell (h : Tb m n b0 rb f) (hi : i < n) (hk : k < n) {K : Bool → Prop} (q : K (f i k)) : IxS (some ⟨rb i, 0, none⟩) n (k : Int) 1 fun b o => LdV m b o fun v => UnB v K :=
  IxS.blk (h.row i hi) hk (range_get _ hk) q
end
/-- A table of one's own, q rows of it made. -/
structure TbP (m0 mm : Mem) (n q b0 : Nat) (rb : Nat → Nat) (f : Nat → Nat → Bool) : Prop where
  le : Le m0 mm
  c0 : mm b0 = some (.cells (tblA n q rb) T_sl_bool (0, 0))
  w0 : m0 b0 = none
  row : ∀ i, i < q → mm (rb i) = some (.cells (rowA n (f i)) T_bool (0, 0))
  inj : ∀ i j, i < q → j < q → rb i = rb j → i = j
  ne : ∀ i, i < q → rb i ≠ b0
  wr : ∀ i, i < q → m0 (rb i) = none
theorem TbP.tb {m0 mm : Mem} {n b0 : Nat} {rb : Nat → Nat} {f : Nat → Nat → Bool} (h : TbP m0 mm n n b0 rb f) : Tb mm n b0 rb f := ⟨h.c0, h.row⟩
theorem TbP.up {m0 mm m' : Mem} {n q b0 : Nat} {rb : Nat → Nat} {f : Nat → Nat → Bool} (h : TbP m0 mm n q b0 rb f) (k : Le mm m') : TbP m0 m' n q b0 rb f :=
  ⟨h.le.trans k, k _ _ h.c0, h.w0, fun i hi => k _ _ (h.row i hi), h.inj, h.ne, h.wr⟩
theorem rowA_congr {n : Nat} {f g : Nat → Bool} (h : ∀ k, k < n → f k = g k) : rowA n f = rowA n g := by
  unfold rowA
  congr 1
  refine List.map_congr_left fun k hk => ?_
  rw [h k (by simpa using hk)]
theorem TbP.congr {m0 mm : Mem} {n b0 : Nat} {rb : Nat → Nat} {f g : Nat → Nat → Bool} (h : TbP m0 mm n n b0 rb f) (k : ∀ i, i < n → ∀ k, k < n → f i k = g i k) : TbP m0 mm n n b0 rb g :=
  ⟨h.le, h.c0, h.w0, fun i hi => by rw [← rowA_congr (k i hi)]; exact h.row i hi, h.inj, h.ne, h.wr⟩
/-- One cell turned. -/
def updF (f : Nat → Nat → Bool) (i k : Nat) (y : Bool) : Nat → Nat → Bool := fun i' k' => if i' = i ∧ k' = k then y else f i' k'
theorem map_range_set {α : Type} (n k : Nat) (g : Nat → α) (y : α) : ((List.range n).map g).toArray.setIfInBounds k y = ((List.range n).map fun j => if j = k then y else g j).toArray := by
  rw [List.setIfInBounds_toArray]
  congr 1
  apply List.ext_getElem
  · simp
  · intro j h1 h2
    rw [List.getElem_set, List.getElem_map, List.getElem_map, List.getElem_range]
    by_cases e : k = j
    · rw [if_pos e, if_pos e.symm]
    · rw [if_neg e, if_neg (fun x => e x.symm)]
theorem rowA_set {n : Nat} {f : Nat → Bool} {k : Nat} (y : Bool) : (rowA n f).setIfInBounds k (.bool y) = rowA n (fun k' => if k' = k then y else f k') := by
  unfold rowA
  rw [map_range_set]
  congr 1
  refine List.map_congr_left fun j _ => ?_
  show (if j = k then Value.bool y else Value.bool (f j)) = Value.bool (if j = k then y else f j)
  by_cases e : j = k
  · rw [if_pos e, if_pos e]
  · rw [if_neg e, if_neg e]
theorem TbP.st {m0 mm : Mem} {n b0 i k : Nat} {rb : Nat → Nat} {f : Nat → Nat → Bool} (h : TbP m0 mm n n b0 rb f) (hi : i < n) (hk : k < n) {y : Bool} {K : Mem → Prop} (q : ∀ m', Chg (fun b => b = rb i) mm m' → TbP m0 m' n n b0 rb (updF f i k y) → K m') :
    IxS (some ⟨rb i, 0, none⟩) n (k : Int) 1 fun b o => St1 mm b o (.bool y) K := by
  refine ⟨by omega, by omega, ?_⟩
  have e : 0 + (k : Int).toNat * 1 = k := by omega
  refine St1.of (by exact h.row i hi) (by simp; omega) rfl ?_
  rw [e, rowA_set]
  refine q _ (Chg.set _ _ _) ⟨?_, ?_, h.w0, ?_, h.inj, h.ne, h.wr⟩
  · exact (Chg.set mm (rb i) _).to_le h.le (fun b e => by rw [show b = rb i from e]; exact h.wr i hi)
  · rw [set_other _ _ (h.ne i hi).symm]; exact h.c0
  · intro i' hi'
    by_cases e2 : i' = i
    · subst e2
      rw [set_same]
      congr 2
      refine rowA_congr fun k' _ => ?_
      unfold updF
      by_cases e3 : k' = k
      · subst e3; simp
      · simp [e3]
    · rw [set_other _ _ (fun x => e2 (h.inj _ _ hi' hi x)), h.row i' hi']
      congr 2
      refine rowA_congr fun k' _ => ?_
      unfold updF
      rw [if_neg (fun x => e2 x.1)]
end Go.E.Rg
set_option linter.unusedVariables false
set_option linter.unusedSimpArgs false
set_option maxRecDepth 20000
namespace Go.E.Rg
open Go.H Go.E
attribute [local irreducible] BiN MkS ConvN LookN MapUpN CallV HC limb dbTab
theorem wo_chg {m m' : Mem} {r : Nat} (k : Chg (fun b => b = r) m m') : Le (m.wo fun b => b = r) (m'.wo fun b => b = r) := fun b o hb => by
  by_cases e : b = r
  · rw [wo_out (F := fun b => b = r) e] at hb; cases hb
  · rw [wo_in (F := fun b => b = r) e] at hb ⊢
    exact k.eq b o hb e
/-- Numbers, some of them left; where they lie nothing turns (B). -/
def Pk (B m : Mem) (r : Nat) (l : List UInt8) : Prop := ∃ (la : Option Addr) (cap : Nat) (ps : List UInt8) (n : Nat), m r = some (.cells #[.slice la ps.length cap, .int .i64 (n : Int)] T_eyotplay_Picks (0, 0)) ∧ CellsAt B la (u8s ps) ∧ Le B (m.wo fun b => b = r) ∧ n ≤ ps.length ∧ ps.length ≤ 1000000 ∧ ps.drop n = l
section
variable {B m m' : Mem} {r b : Nat} {l : List UInt8}
theorem Pk.le (h : Pk B m r l) (k : Le m m') : Pk B m' r l := by
  obtain ⟨la, cap, ps, n, h1, h2, h3, h4⟩ := h
  exact ⟨la, cap, ps, n, k _ _ h1, h2, h3.trans (wo_chg (k.chg _)), h4⟩
theorem Pk.live (h : Pk B m r l) : m r ≠ none := by
  obtain ⟨la, cap, ps, n, h1, _⟩ := h
  rw [h1]; simp
theorem Pk.base (h : Pk B m r l) : Le B m := by
  obtain ⟨la, cap, ps, n, h1, h2, h3, h4⟩ := h
  exact h3.trans (wo_le _ _)
/-- Something new is written elsewhere. -/
theorem Pk.oth (h : Pk B m r l) (hb : b ≠ r) (hB : B b = none) (o : Obj) : Pk B (m.set b o) r l := by
  obtain ⟨la, cap, ps, n, h1, h2, h3, h4⟩ := h
  refine ⟨la, cap, ps, n, (set_other _ _ hb.symm).trans h1, h2, fun x o' hx => ?_, h4⟩
  have := h3 x o' hx
  by_cases e : x = r
  · rw [wo_out (F := fun b => b = r) e] at this; cases this
  · rw [wo_in (F := fun b => b = r) e] at this ⊢
    rw [set_other _ _ (fun e2 => by subst e2; rw [hB] at hx; cases hx)]; exact this
end
theorem Num_spec {B m : Mem} {r k : Nat} {l : List UInt8} (hp : Pk B m r l) (hk : 0 < k) {R : Ending → Mem → Prop} (h : ∀ m', Chg (fun b => b = r) m m' → Pk B m' r l.tail → R (.returned (.int .i64 (num l k : Nat))) m') :
    HC P eyotplay_Picks_Num.id #[.pointer (some ⟨r, 0, none⟩), .int .i64 (k : Int)] m R := by
  obtain ⟨la, cap, ps, n, h1, hB, h2, hn, hl, rfl⟩ := hp
  refine eyotplay_Picks_Num.ok _ _ _ _ ?_
  refine Sub.all ?_
  refine LdV.s1 h1 (UnI.mk ?_)
  refine LdV.s0 h1 (UnS.mk ?_)
  refine BrD (fun hge => ?_) (fun hlt => ?_)
  · have hz : ps.drop n = [] := List.drop_eq_nil_of_le (by omega)
    have := h m (Chg.refl _ _) ⟨la, cap, ps, n, h1, hB, h2, hn, hl, by rw [hz]; rfl⟩
    rw [hz] at this
    exact this
  have hnl : n < ps.length := by omega
  refine LdV.s1 h1 (UnI.mk ?_)
  rw [wi (n := (n : Int) + 1) (by omega) (by omega)]
  refine St1.to #[.slice la ps.length cap, .int .i64 ((n + 1 : Nat) : Int)] h1 (by simp) rfl rfl ?_
  have hch := Chg.set m r (.cells #[.slice la ps.length cap, .int .i64 ((n + 1 : Nat) : Int)] T_eyotplay_Picks (0, 0))
  have h1' : (m.set r (.cells #[.slice la ps.length cap, .int .i64 ((n + 1 : Nat) : Int)] T_eyotplay_Picks (0, 0))) r = _ := set_same _ _ _
  generalize m.set r (.cells #[.slice la ps.length cap, .int .i64 ((n + 1 : Nat) : Int)] T_eyotplay_Picks (0, 0)) = m2 at hch h1' ⊢
  have h2' := h2.trans (wo_chg hch)
  refine Sub.all ?_
  refine LdV.s0 h1' (UnS.mk ?_)
  refine LdV.s1 h1' (UnI.mk ?_)
  rw [wi (n := ((n + 1 : Nat) : Int) - 1) (by omega) (by omega), show ((n + 1 : Nat) : Int) - 1 = (n : Int) by omega]
  refine IxS.u8s (hB.le (h2'.trans (wo_le _ _))) rfl (by omega) (by omega) ?_
  intro x hx
  rw [Int.toNat_natCast] at hx
  refine UnI.mk ?_
  have hd : ps.drop n = x :: ps.drop (n + 1) := by
    rw [List.drop_eq_getElem_cons hnl]
    rw [List.getElem?_eq_getElem hnl] at hx
    cases hx; rfl
  have hxl := UInt8.toNat_lt x
  refine NzI.mk (by omega) ?_
  rw [wi (by omega) (by omega)]
  have := h m2 hch ⟨la, cap, ps, n + 1, h1', hB, h2', by omega, hl, by rw [hd]; rfl⟩
  rw [hd] at this
  have e : Int.tmod ((x.toNat : Nat) : Int) (k : Int) = ((num (x :: ps.drop (n + 1)) k : Nat) : Int) := by
    unfold num
    rw [Int.tmod_eq_emod_of_nonneg (by omega)]
    exact (Int.natCast_emod _ _).symm
  rw [e]
  exact this
/-- A row of bytes of one's own. -/
theorem new_row {m : Mem} {bs : List UInt8} {K : Nat → Mem → Prop} (h : ∀ b m', Le m m' → CellsAt m' (some ⟨b, 0, none⟩) (u8s bs) → K b m') : NewC m (u8s bs).toArray T_uint8 K := fun b hb =>
  h b _ (Le.set hb _) (cells_at (set_same _ _ _) (by simp))
theorem Set_spec {B m : Mem} {r : Nat} {l : List UInt8} (hp : Pk B m r l) {R : Ending → Mem → Prop} (h : ∀ m', Chg (fun b => b = r) m m' → Pk B m' r (psR l) → R (.returned (setv (psS l))) m') :
    HC P eyotplay_Picks_Set.id #[.pointer (some ⟨r, 0, none⟩)] m R := by
  refine eyotplay_Picks_Set.ok _ _ _ ?_
  intro b2 hb2
  have c2 := Cl.mk0 (T := T_api_Set) (c := z4) hp.live hb2
  have hBb : B b2 = none := hp.base.new hb2
  have hp1 := hp.le (Le.set hb2 (.cells z4 T_api_Set (0, 0)))
  generalize m.set b2 (.cells z4 T_api_Set (0, 0)) = m1 at c2 hp1 ⊢
  refine Num_spec (k := 7) hp1 (by decide) ?_
  intro m2 hch2 hp2
  have c3 := c2.step hch2
  dsimp only [Cont]
  refine UnI.mk ?_
  have h7 := num_lt l (m := 7) (by decide)
  -- the end: this set is told
  have fin : ∀ (S : Nat → Bool) (mm : Mem), Chg (fun b => b = r) m2 mm → Pk B mm r (psR l) → S = psS l →
      St1 mm b2 0 (.int .u64 (L S 0)) fun m1 => St1 m1 b2 1 (.int .u64 (L S 1)) fun m2 => St1 m2 b2 2 (.int .u64 (L S 2)) fun m3 => St1 m3 b2 3 (.int .u64 (L S 3)) fun m4 =>
        LdV m4 b2 0 fun v => UnI v .u64 fun x0 => LdV m4 b2 1 fun v => UnI v .u64 fun x1 => LdV m4 b2 2 fun v => UnI v .u64 fun x2 => LdV m4 b2 3 fun v => UnI v .u64 fun x3 => R (.returned (.agg #[.int .u64 x0, .int .u64 x1, .int .u64 x2, .int .u64 x3])) m4 := by
    rintro S mm hch hpm rfl
    have c4 := c3.step hch
    refine out4 c4.at_ ?_
    refine h _ (c4.put _).ch ?_
    exact hpm.oth c4.ne hBb _
  have hR : ∀ c, num l 7 = c → c ≤ 3 → psR l = l.tail := fun c h h' => by unfold psR; rw [if_pos (by omega)]
  refine BrE (fun e => ?_) (fun e => ?_)
  · have e : num l 7 = 0 := by omega
    refine new_row (bs := [97, 98]) ?_
    intro b m3 hle3 hc
    refine ROf_spec hc rfl (by decide) ?_
    intro m4 hle4
    refine ContSet.mk ?_
    exact fin _ m4 ((hle3.trans hle4).chg _) (by rw [hR 0 e (by decide)]; exact hp2.le (hle3.trans hle4)) (by unfold psS; rw [if_pos e])
  have e : num l 7 ≠ 0 := by omega
  refine BrE (fun e1 => ?_) (fun e1 => ?_)
  · have e1 : num l 7 = 1 := by omega
    refine new_row (bs := [98, 99, 100]) ?_
    intro b m3 hle3 hc
    refine ROf_spec hc rfl (by decide) ?_
    intro m4 hle4
    refine ContSet.mk ?_
    exact fin _ m4 ((hle3.trans hle4).chg _) (by rw [hR 1 e1 (by decide)]; exact hp2.le (hle3.trans hle4)) (by unfold psS; rw [if_neg e, if_pos e1])
  have e1 : num l 7 ≠ 1 := by omega
  refine BrE (fun e2 => ?_) (fun e2 => ?_)
  · have e2 : num l 7 = 2 := by omega
    refine new_row (bs := [97, 10]) ?_
    intro b m3 hle3 hc
    refine ROf_spec hc rfl (by decide) ?_
    intro m4 hle4
    refine ContSet.mk ?_
    refine RNot_spec ?_
    intro m5 hle5
    refine ContSet.mk ?_
    have hle := (hle3.trans hle4).trans hle5
    exact fin _ m5 (hle.chg _) (by rw [hR 2 e2 (by decide)]; exact hp2.le hle) (by unfold psS; rw [if_neg e, if_neg e1, if_pos e2])
  have e2 : num l 7 ≠ 2 := by omega
  refine BrE (fun e3 => ?_) (fun e3 => ?_)
  · have e3 : num l 7 = 3 := by omega
    refine new_row (bs := [48, 49, 50]) ?_
    intro b m3 hle3 hc
    refine ROf_spec hc rfl (by decide) ?_
    intro m4 hle4
    refine ContSet.mk ?_
    exact fin _ m4 ((hle3.trans hle4).chg _) (by rw [hR 3 e3 (by decide)]; exact hp2.le (hle3.trans hle4)) (by unfold psS; rw [if_neg e, if_neg e1, if_neg e2, if_pos e3])
  have e3 : num l 7 ≠ 3 := by omega
  refine Num_spec (k := 6) hp2 (by decide) ?_
  intro m3 hch3 hp3
  dsimp only [Cont]
  refine UnI.mk ?_
  have h6 := num_lt l.tail (m := 6) (by decide)
  have hsz : (ByteArray.mk #[97, 98, 49, 10, 32, 45]).size = 6 := rfl
  refine ⟨by omega, by omega, ?_⟩
  have hbt : bt (ByteArray.mk #[97, 98, 49, 10, 32, 45]) (num l.tail 6 : Nat) = (((few.getD (num l.tail 6) 0).toNat : Nat) : Int) := by
    generalize num l.tail 6 = q at h6
    have : q = 0 ∨ q = 1 ∨ q = 2 ∨ q = 3 ∨ q = 4 ∨ q = 5 := by omega
    rcases this with rfl | rfl | rfl | rfl | rfl | rfl <;> rfl
  rw [hbt]
  refine new_row (bs := [few.getD (num l.tail 6) 0]) ?_
  intro b m4 hle4 hc
  refine ROf_spec hc rfl (by simp) ?_
  intro m5 hle5
  refine ContSet.mk ?_
  have hle := hle4.trans hle5
  refine fin _ m5 (hch3.trans (hle.chg _) (fun _ _ e => e)) ?_ ?_
  · have : psR l = l.tail.tail := by unfold psR; rw [if_neg (by omega)]
    rw [this]; exact hp3.le hle
  · unfold psS; rw [if_neg e, if_neg e1, if_neg e2, if_neg e3]
end Go.E.Rg
set_option linter.unusedVariables false
set_option linter.unusedSimpArgs false
set_option maxRecDepth 20000
namespace Go.E.Rg
open Go.H Go.E
attribute [local irreducible] BiN MkS ConvN LookN MapUpN CallV HC limb dbTab
theorem Pk.chg {B m m' : Mem} {r : Nat} {l : List UInt8} {S : Nat → Prop} (h : Pk B m r l) (k : Chg S m m') (hs : ∀ b, S b → b ≠ r ∧ B b = none) : Pk B m' r l := by
  obtain ⟨la, cap, ps, n, h1, h2, h3, h4⟩ := h
  refine ⟨la, cap, ps, n, k.eq _ _ h1 (fun hS => (hs r hS).1 rfl), h2, fun x o' hx => ?_, h4⟩
  have := h3 x o' hx
  by_cases e : x = r
  · rw [wo_out (F := fun b => b = r) e] at this; cases this
  · rw [wo_in (F := fun b => b = r) e] at this ⊢
    exact k.eq x o' this (fun hS => by rw [(hs x hS).2] at hx; cases hx)
theorem Cl.with {T : TypeId} {m mm : Mem} {r b b' : Nat} {c : Array Value} (h : Cl T m mm r b c) (hne : b ≠ b') (o : Obj) (hm : m b' = none) : Cl T m (mm.set b' o) r b c := by
  refine ⟨(set_other _ _ hne).trans h.at_, h.ne, h.new, ?_⟩
  refine h.ch.trans (Chg.set mm b' o) (fun x hx e => ?_)
  rw [show x = b' from e, hm] at hx; exact absurd rfl hx
def PrxOK (d : Nat) : Prop := ∀ {B m : Mem} {r : Nat} {l : List UInt8} {R : Ending → Mem → Prop}, Pk B m r l → (∀ m' v, Chg (fun b => b = r) m m' → Pk B m' r (prx d l).2 → ArgC (newB m m') (prx d l).1 v → R (.returned (rxA (prx d l).1.k (prx d l).1.S v)) m') → HC P eyotplay_Picks_Rx.id #[.pointer (some ⟨r, 0, none⟩), .int .i64 (d : Int)] m R
section
variable {B m m1 : Mem} {r b4 b8 : Nat} {d n : Nat} {kind : Int} {l0 : List UInt8} {R : Ending → Mem → Prop}
/-- One more part is put on. -/
theorem k5_spec {K3 : Option Addr → Int → Nat → Nat → Int → Int → Nat → Nat → Int → Mem → Prop} {x0 : Option Addr} {x1 : Int} {x4o : Nat} {i : Nat} {mm : Mem} {b10 : Nat} {a : Option Addr} {c : Nat} {prs : List (Rx × Value)} {y : Rx} {a' : Option Addr} {l' c' : Nat} {lr : List UInt8}
    (hle1 : Le B m1) (hrl1 : m1 r ≠ none) (hl4 : m1 b4 ≠ none) (hl8 : m1 b8 ≠ none) (hup : ∀ b, m b ≠ none → m1 b ≠ none) (h48 : b4 ≠ b8) (hm8 : m b8 = none)
    (c4 : Cl T_api_Rx m mm r b4 zRx) (c8 : Cl T_api_Rx m mm r b8 (rxO kind noS (.slice a prs.length c))) (hL : RL m1 mm a c prs) (hp : Pk B mm r lr) (hupm : ∀ b, m1 b ≠ none → mm b ≠ none)
    (h10 : mm b10 = some (.cells (rxO y.k y.S (.slice a' l' c')) T_api_Rx (0, 0))) (hy : ArgC (on mm fun b => m1 b = none ∧ blk a ≠ some b) y (.slice a' l' c')) (hlen : prs.length ≤ 100) (hi : i ≤ 100) (hB8 : B b8 = none)
    (hK : ∀ m' a2 c2, Cl T_api_Rx m m' r b4 zRx → Cl T_api_Rx m m' r b8 (rxO kind noS (.slice a2 (prs.length + 1) c2)) → RL m1 m' a2 c2 (prs ++ [(y, .slice a' l' c')]) → Pk B m' r lr → (∀ b, m1 b ≠ none → m' b ≠ none) → K3 x0 x1 b4 x4o kind (n : Int) b8 0 ((i + 1 : Nat) : Int) m') :
    eyotplay_Picks_Rx.k5 K3 x0 x1 b4 x4o kind (n : Int) b8 0 (i : Int) b10 0 R mm := by
  unfold eyotplay_Picks_Rx.k5
  refine LdV.s5 c8.at_ (UnS.mk ?_)
  refine get6 h10 ?_
  refine RL.push hL (x := y) rfl hy (by omega) hupm ?_
  intro a2 c2 m5 hch5 hL5
  refine UnS.mk ?_
  have c45 := c4.app hch5 hL.fr hl4 hup
  have c85 := c8.app hch5 hL.fr hl8 hup
  have hp5 := hp.chg hch5 (fun b hb => ⟨fun e => by subst e; exact hrl1 (hL.fr b hb), hle1.new (hL.fr b hb)⟩)
  have hup5 : ∀ b, m1 b ≠ none → m5 b ≠ none := fun b hb => hch5.live b (hupm b hb)
  refine St1.to (rxO kind noS (.slice a2 (prs.length + 1) c2)) c85.at_ (by simp [rxO]) rfl (by simp [rxO]) ?_
  rw [show IntKind.i64.wrap ((i : Int) + 1) = ((i + 1 : Nat) : Int) by rw [wi (by omega) (by omega)]; omega]
  refine hK _ a2 c2 (c45.with h48 _ hm8) (c85.put _) (hL5.up (Chg.set m5 b8 _) (fun b e => by rw [show b = b8 from e]; exact hl8)) (hp5.oth c85.ne hB8 _) (fun b hb => (Chg.set m5 b8 _).live b (hup5 b hb))
end
theorem prx_spec : ∀ d, d ≤ 1000 → PrxOK d := by
  intro d
  induction d with
  | zero =>
    intro hd B m r l R hp k
    refine eyotplay_Picks_Rx.ok _ _ _ _ ?_
    intro b4 hb4
    have c4 := Cl.mk0 (T := T_api_Rx) (c := zRx) hp.live hb4
    have hB4 : B b4 = none := hp.base.new hb4
    have hp1 := hp.le (Le.set hb4 (.cells zRx T_api_Rx (0, 0)))
    generalize m.set b4 (.cells zRx T_api_Rx (0, 0)) = m1 at c4 hp1 ⊢
    refine Num_spec (k := 9) hp1 (by decide) ?_
    intro m2 hch2 hp2
    dsimp only [Cont]
    refine UnI.mk ?_
    refine BrDt (by omega) ?_
    unfold eyotplay_Picks_Rx.k1
    refine Br.t rfl ?_
    refine Set_spec hp2 ?_
    intro m3 hch3 hp3
    refine ContSet.mk ?_
    have c5 := (c4.step hch2).step hch3
    refine out6 (S := psS l.tail) c5.at_ ?_
    exact k _ (.slice none 0 0) (c5.put _).ch (hp3.oth c5.ne hB4 _) ArgC.none
  | succ d ih =>
    intro hd B m r l R hp k
    refine eyotplay_Picks_Rx.ok _ _ _ _ ?_
    intro b4 hb4
    have c4 := Cl.mk0 (T := T_api_Rx) (c := zRx) hp.live hb4
    have hB4 : B b4 = none := hp.base.new hb4
    have hle0 : Le m (m.set b4 (.cells zRx T_api_Rx (0, 0))) := Le.set hb4 _
    have hp1 := hp.le hle0
    have hl40 : (m.set b4 (.cells zRx T_api_Rx (0, 0))) b4 ≠ none := by rw [set_same]; simp
    generalize m.set b4 (.cells zRx T_api_Rx (0, 0)) = m0 at c4 hp1 hle0 hl40 ⊢
    refine Num_spec (k := 9) hp1 (by decide) ?_
    intro m2 hch2 hp2
    dsimp only [Cont]
    refine UnI.mk ?_
    have c42 := c4.step hch2
    have hl42 : m2 b4 ≠ none := hch2.live _ hl40
    have hup2 : ∀ b, m b ≠ none → m2 b ≠ none := fun b hb => hch2.live b (hle0.live hb)
    refine BrDf (by omega) ?_
    have h9 := num_lt l (m := 9) (by decide)
    have hprx : prx (d + 1) l = (if num l 9 < 4 then (st (psS l.tail), psR l.tail)
      else if kindOf (num l 9) ≤ 3 then (.mk (kindOf (num l 9)) noS (kidsF (prx d) (kindOf (num l 9)) (2 + num l.tail 2) l.tail.tail).1, (kidsF (prx d) (kindOf (num l 9)) (2 + num l.tail 2) l.tail.tail).2)
      else (.mk (kindOf (num l 9)) noS (kidsF (prx d) (kindOf (num l 9)) 1 l.tail).1, (kidsF (prx d) (kindOf (num l 9)) 1 l.tail).2)) := rfl
    unfold eyotplay_Picks_Rx.k1
    refine BrD (fun hlt => ?_) (fun hge => ?_)
    · rw [hprx, if_pos (by omega)] at k
      refine Set_spec hp2 ?_
      intro m3 hch3 hp3
      refine ContSet.mk ?_
      have c5 := c42.step hch3
      refine out6 (S := psS l.tail) c5.at_ ?_
      exact k _ (.slice none 0 0) (c5.put _).ch (hp3.oth c5.ne hB4 _) ArgC.none
    rw [hprx, if_neg (by omega)] at k
    have hki : kindOf (num l 9) = 2 + (((num l 9 + 1) % 5 : Nat) : Int) := rfl
    have ekind : IntKind.i64.wrap (2 + (Int.tmod (IntKind.i64.wrap (((num l 9 : Nat) : Int) + 1)) 5)) = kindOf (num l 9) := by
      rw [wi (n := ((num l 9 : Nat) : Int) + 1) (by omega) (by omega)]
      have : Int.tmod (((num l 9 : Nat) : Int) + 1) 5 = (((num l 9 + 1) % 5 : Nat) : Int) := by
        rw [Int.tmod_eq_emod_of_nonneg (by omega)]; omega
      rw [this, hki, wi (by omega) (by omega)]
    rw [ekind]
    have hkin := kindOf_in (num l 9)
    generalize kindOf (num l 9) = kind at k hkin ⊢
    -- so many parts
    have parts : ∀ (n : Nat) (l0 : List UInt8) (m3 : Mem), n ≤ 3 → Chg (fun b => b = r) m2 m3 → Pk B m3 r l0 →
        (∀ m' v, Chg (fun b => b = r) m m' → Pk B m' r (kidsF (prx d) kind n l0).2 → ArgC (newB m m') (.mk kind noS (kidsF (prx d) kind n l0).1) v → R (.returned (rxA kind noS v)) m') →
        eyotplay_Picks_Rx.k2 (some ⟨r, 0, none⟩) ((d + 1 : Nat) : Int) b4 0 kind (n : Int) R m3 := by
      intro n l0 m3 hn hch3 hp3 hk
      unfold eyotplay_Picks_Rx.k2
      intro b8 hb8
      have c43 := c42.step hch3
      have hm8 : m b8 = none := c43.ch.new hb8
      have hB8 : B b8 = none := hp3.base.new hb8
      have h48 : b4 ≠ b8 := by rintro rfl; rw [c43.at_] at hb8; cases hb8
      have h8r : b8 ≠ r := by rintro rfl; exact hp3.live hb8
      have key := put6 (m := m3.set b8 (.cells zRx T_api_Rx (0, 0))) (b := b8) (k := kind) (S := noS) (a := none) (l := 0) (c := 0) (e := T_api_Rx) (K := fun m7 => eyotplay_Picks_Rx.l3 (some ⟨r, 0, none⟩) ((d + 1 : Nat) : Int) b4 0 kind (n : Int) b8 0 0 R m7) (set_same _ _ _) (by
        rw [set_set]
        have c44 : Cl T_api_Rx m (m3.set b8 (.cells (rxO kind noS (.slice none 0 0)) T_api_Rx (0, 0))) r b4 zRx := c43.le (Le.set hb8 _)
        have c84 : Cl T_api_Rx m (m3.set b8 (.cells (rxO kind noS (.slice none 0 0)) T_api_Rx (0, 0))) r b8 (rxO kind noS (.slice none 0 0)) := Cl.mkAt c43.ch hp.live hb8
        have hp4 := hp3.le (Le.set hb8 (.cells (rxO kind noS (.slice none 0 0)) T_api_Rx (0, 0)))
        have hl8 : (m3.set b8 (.cells (rxO kind noS (.slice none 0 0)) T_api_Rx (0, 0))) b8 ≠ none := by rw [set_same]; simp
        have hl4 : (m3.set b8 (.cells (rxO kind noS (.slice none 0 0)) T_api_Rx (0, 0))) b4 ≠ none := (Le.set hb8 _).live (hch3.live _ hl42)
        have hup : ∀ b, m b ≠ none → (m3.set b8 (.cells (rxO kind noS (.slice none 0 0)) T_api_Rx (0, 0))) b ≠ none := fun b hb => (Le.set hb8 _).live (hch3.live b (hup2 b hb))
        generalize m3.set b8 (.cells (rxO kind noS (.slice none 0 0)) T_api_Rx (0, 0)) = m1 at c44 c84 hp4 hl8 hl4 hup ⊢
        have hrl1 := hp4.live
        have hle1 := hp4.base
        refine ⟨fun N x0 x1 x4b x4o x6 x7 x8b x8o i mm => x0 = some ⟨r, 0, none⟩ ∧ x1 = ((d + 1 : Nat) : Int) ∧ x4b = b4 ∧ x4o = 0 ∧ x6 = kind ∧ x7 = (n : Int) ∧ x8b = b8 ∧ x8o = 0 ∧ ∃ (j : Nat) (a : Option Addr) (c : Nat) (prs : List (Rx × Value)) (l' : List UInt8), i = (j : Int) ∧ j ≤ n ∧ N = n - j ∧ prs.length = j ∧ Cl T_api_Rx m mm r b4 zRx ∧ Cl T_api_Rx m mm r b8 (rxO kind noS (.slice a prs.length c)) ∧ RL m1 mm a c prs ∧ Pk B mm r l' ∧ (∀ b, m1 b ≠ none → mm b ≠ none) ∧
            kidsF (prx d) kind n l0 = (prs.map (·.1) ++ (kidsF (prx d) kind (n - j) l').1, (kidsF (prx d) kind (n - j) l').2), n,
          ⟨rfl, rfl, rfl, rfl, rfl, rfl, rfl, rfl, 0, none, 0, [], l0, rfl, by omega, by omega, rfl, c44, c84, ⟨Own.nil _ _ _, Fresh.none _, fun p hp => by cases hp⟩, hp4, fun b hb => hb, by simp⟩, ?_⟩
        rintro N x0 x1 x4b x4o x6 x7 x8b x8o i mm ⟨g0, g1, g2, g3, g4, g5, g6, g7, j, a, c, prs, l', rfl, hj, rfl, hpj, cm4, cm8, hL, hpm, hupm, hkids⟩
        subst x0 x1 x4b x4o x6 x7 x8b x8o
        unfold eyotplay_Picks_Rx.l3B
        refine BrD (fun hlt => ?_) (fun hge => ?_)
        rotate_left
        · have hz : n - j = 0 := by omega
          rw [hz] at hkids
          have e0 : kidsF (prx d) kind 0 l' = ([], l') := rfl
          rw [e0, List.append_nil] at hkids
          refine get6 cm8.at_ ?_
          refine out6 (S := noS) cm4.at_ ?_
          have c5 := cm4.put (rxO kind noS (.slice a prs.length c))
          have hL5 := hL.up (Chg.set mm b4 (.cells (rxO kind noS (.slice a prs.length c)) T_api_Rx (0, 0))) (fun b e => by rw [show b = b4 from e]; exact hl4)
          rw [hkids] at hk
          exact hk _ (.slice a prs.length c) c5.ch (hpm.oth cm4.ne hB4 _) ((hL5.arg (Le.refl _) (by omega) kind noS).le (newB_up hup))
        have ed : IntKind.i64.wrap (((d + 1 : Nat) : Int) - 1) = (d : Int) := by rw [wi (by omega) (by omega)]; omega
        rw [ed]
        refine ih (by omega) hpm ?_
        intro m4 v hch4 hp5 hv
        obtain ⟨a', l'', c', rfl⟩ := hv.sl
        refine ContRx.mk ?_
        refine copyRx ?_
        intro b10 m8 hb10 hle8 h10
        have cm4' := (cm4.step hch4).le hle8
        have cm8' := (cm8.step hch4).le hle8
        have hL8 := (hL.up hch4 (fun b e => by rw [show b = r from e]; exact hrl1)).up (hle8.chg fun _ => False) (fun _ h => h.elim)
        have hp8 := hp5.le hle8
        have hup8 : ∀ b, m1 b ≠ none → m8 b ≠ none := fun b hb => hle8.live (hch4.live b (hupm b hb))
        have hin : ∀ {y : Rx} {w : Value} {m9 : Mem}, ArgC (newB mm m9) y w → ArgC (on m9 fun b => m1 b = none ∧ blk a ≠ some b) y w := fun h => hL.in_ hupm h
        have hx : ArgC (newB mm m8) (prx d l').1 (.slice a' l'' c') := hv.le (newB_le hle8)
        obtain ⟨q, hq⟩ : ∃ q, n - j = q + 1 := ⟨n - j - 1, by omega⟩
        have hq' : n - (j + 1) = q := by omega
        have hks : kidsF (prx d) kind (n - j) l' = ((kidF (prx d) kind l').1 :: (kidsF (prx d) kind q (kidF (prx d) kind l').2).1, (kidsF (prx d) kind q (kidF (prx d) kind l').2).2) := by rw [hq]; rfl
        rw [hks] at hkids
        -- this part, or a set in its place
        have k4 : ∀ z : Bool, (z = true ↔ ((prx d l').1.k = kind ∨ (4 ≤ kind ∧ 4 ≤ (prx d l').1.k))) → eyotplay_Picks_Rx.k4 (fun x0 x1 x4b x4o x6 x7 x8b x8o i mm => ∃ N1, N1 < n - j ∧ (x0 = some ⟨r, 0, none⟩ ∧ x1 = ((d + 1 : Nat) : Int) ∧ x4b = b4 ∧ x4o = 0 ∧ x6 = kind ∧ x7 = (n : Int) ∧ x8b = b8 ∧ x8o = 0 ∧ ∃ (j : Nat) (a : Option Addr) (c : Nat) (prs : List (Rx × Value)) (l' : List UInt8), i = (j : Int) ∧ j ≤ n ∧ N1 = n - j ∧ prs.length = j ∧ Cl T_api_Rx m mm r b4 zRx ∧ Cl T_api_Rx m mm r b8 (rxO kind noS (.slice a prs.length c)) ∧ RL m1 mm a c prs ∧ Pk B mm r l' ∧ (∀ b, m1 b ≠ none → mm b ≠ none) ∧
            kidsF (prx d) kind n l0 = (prs.map (·.1) ++ (kidsF (prx d) kind (n - j) l').1, (kidsF (prx d) kind (n - j) l').2))) (some ⟨r, 0, none⟩) ((d + 1 : Nat) : Int) b4 0 kind (n : Int) b8 0 (j : Int) b10 0 z R m8 := by
          intro z hz
          have goOn : ∀ {m9 : Mem} {y : Rx} {ay : Option Addr} {ly cy : Nat} {lr : List UInt8}, kidF (prx d) kind l' = (y, lr) → Cl T_api_Rx m m9 r b4 zRx → Cl T_api_Rx m m9 r b8 (rxO kind noS (.slice a prs.length c)) → RL m1 m9 a c prs → Pk B m9 r lr → (∀ b, m1 b ≠ none → m9 b ≠ none) → m9 b10 = some (.cells (rxO y.k y.S (.slice ay ly cy)) T_api_Rx (0, 0)) → ArgC (on m9 fun b => m1 b = none ∧ blk a ≠ some b) y (.slice ay ly cy) →
              eyotplay_Picks_Rx.k5 (fun x0 x1 x4b x4o x6 x7 x8b x8o i mm => ∃ N1, N1 < n - j ∧ (x0 = some ⟨r, 0, none⟩ ∧ x1 = ((d + 1 : Nat) : Int) ∧ x4b = b4 ∧ x4o = 0 ∧ x6 = kind ∧ x7 = (n : Int) ∧ x8b = b8 ∧ x8o = 0 ∧ ∃ (j : Nat) (a : Option Addr) (c : Nat) (prs : List (Rx × Value)) (l' : List UInt8), i = (j : Int) ∧ j ≤ n ∧ N1 = n - j ∧ prs.length = j ∧ Cl T_api_Rx m mm r b4 zRx ∧ Cl T_api_Rx m mm r b8 (rxO kind noS (.slice a prs.length c)) ∧ RL m1 mm a c prs ∧ Pk B mm r l' ∧ (∀ b, m1 b ≠ none → mm b ≠ none) ∧
                kidsF (prx d) kind n l0 = (prs.map (·.1) ++ (kidsF (prx d) kind (n - j) l').1, (kidsF (prx d) kind (n - j) l').2))) (some ⟨r, 0, none⟩) ((d + 1 : Nat) : Int) b4 0 kind (n : Int) b8 0 (j : Int) b10 0 R m9 := by
            intro m9 y ay ly cy lr hkf d4 d8 dL dp dup d10 dy
            refine k5_spec (m := m) (m1 := m1) hle1 hrl1 hl4 hl8 hup h48 hm8 d4 d8 dL dp dup d10 dy (by omega) (by omega) hB8 ?_
            intro m' a2 c2 e4 e8 eL ep eup
            refine ⟨n - (j + 1), by omega, rfl, rfl, rfl, rfl, rfl, rfl, rfl, rfl, j + 1, a2, c2, prs ++ [(y, .slice ay ly cy)], lr, rfl, by omega, rfl, by simp [hpj], e4, by rw [List.length_append]; exact e8, eL, ep, eup, ?_⟩
            rw [hq', hkids, hkf]
            simp
          unfold eyotplay_Picks_Rx.k4
          refine Br.mk (fun ht => ?_) (fun hf => ?_)
          · have hc := hz.mp ht
            have hkf : kidF (prx d) kind l' = (st (psS (prx d l').2), psR (prx d l').2) := by unfold kidF; rw [if_pos hc]
            refine Set_spec hp8 ?_
            intro m9 hch9 hp9
            refine ContSet.mk ?_
            have h10r : b10 ≠ r := by rintro rfl; exact hp5.live hb10
            have h109 := hch9.eq _ _ h10 h10r
            refine put6 (S := psS (prx d l').2) h109 ?_
            have hb10m1 : m1 b10 = none := by
              cases h : m1 b10 with
              | none => rfl
              | some o => exact absurd hb10 (hch4.live _ (hupm _ (by rw [h]; simp)))
            have hne4 : b4 ≠ b10 := by rintro rfl; exact hl4 hb10m1
            have hne8 : b8 ≠ b10 := by rintro rfl; exact hl8 hb10m1
            have hm10 : m b10 = none := by
              cases h : m b10 with
              | none => rfl
              | some o => exact absurd hb10m1 (hup _ (by rw [h]; simp))
            refine goOn hkf ((cm4'.step hch9).with hne4 _ hm10) ((cm8'.step hch9).with hne8 _ hm10) ?_ (hp9.oth h10r (hle1.new hb10m1) _) (fun b hb => (Chg.set m9 b10 _).live b (hch9.live b (hup8 b hb))) (set_same _ _ _) ArgC.none
            have hL9 := hL8.up hch9 (fun b e => by rw [show b = r from e]; exact hrl1)
            have hab : blk a ≠ some b10 := fun e => by
              have := (hL.up hch4 (fun b e => by rw [show b = r from e]; exact hrl1)).own.live b10 e
              exact this hb10
            have hchS := Chg.set m9 b10 (.cells (rxO 1 (psS (prx d l').2) (.slice none 0 0)) T_api_Rx (0, 0))
            refine ⟨hL9.own.chg hchS (fun b hb e => hab (by rw [hb]; rw [show b = b10 from e])), hL9.fr, fun p hpp => ?_⟩
            -- what the parts have lies elsewhere: it is older than b10
            have h0 := (hL.up hch4 (fun b e => by rw [show b = r from e]; exact hrl1)).ok p hpp
            refine h0.le ?_
            intro b o hb
            obtain ⟨g1, g2⟩ := on_live hb
            have hbne : b ≠ b10 := by rintro rfl; rw [hb10] at g2; cases g2
            have hbr : b ≠ r := fun e => hrl1 (e ▸ g1.1)
            rw [on_in (G := fun b => m1 b = none ∧ blk a ≠ some b) g1, set_other _ _ hbne]
            exact hch9.eq _ _ (hle8 _ _ g2) hbr
          · have hc : ¬ ((prx d l').1.k = kind ∨ (4 ≤ kind ∧ 4 ≤ (prx d l').1.k)) := by rw [← hz, hf]; decide
            have hkf : kidF (prx d) kind l' = ((prx d l').1, (prx d l').2) := by unfold kidF; rw [if_neg hc]
            exact goOn hkf cm4' cm8' hL8 hp8 hup8 h10 (hin hx)
        refine LdV.s0 h10 (UnI.mk ?_)
        refine BrE (fun e => ?_) (fun e => ?_)
        · exact k4 true (by simp [e])
        refine BrD (fun h4 => ?_) (fun h4 => ?_)
        · refine LdV.s0 h10 (UnI.mk ?_)
          refine k4 _ ?_
          simp only [ge_iff_le, decide_eq_true_eq]
          exact ⟨fun h => .inr ⟨by omega, h⟩, fun h => by rcases h with h | h; exact absurd h e; exact h.2⟩
        · refine k4 false ⟨fun h => (by cases h), fun h => ?_⟩
          rcases h with h | h
          · exact absurd h e
          · omega)
      rw [noS_L, noS_L, noS_L, noS_L] at key
      exact key
    refine BrD (fun h3 => ?_) (fun h3 => ?_)
    · rw [if_pos (by omega)] at k
      refine Num_spec (k := 2) hp2 (by decide) ?_
      intro m3 hch3 hp3
      dsimp only [Cont]
      refine UnI.mk ?_
      have h2 := num_lt l.tail (m := 2) (by decide)
      have e2 : IntKind.i64.wrap (2 + ((num l.tail 2 : Nat) : Int)) = ((2 + num l.tail 2 : Nat) : Int) := by rw [wi (by omega) (by omega)]; omega
      rw [e2]
      exact parts _ _ m3 (by omega) hch3 hp3 k
    · rw [if_neg (by omega)] at k
      exact parts 1 _ m2 (by omega) (Chg.refl _ _) hp2 k
end Go.E.Rg
set_option linter.unusedVariables false
set_option linter.unusedSimpArgs false
set_option maxRecDepth 20000
namespace Go.E.Rg
open Go.H Go.E
attribute [local irreducible] BiN MkS ConvN LookN MapUpN CallV HC limb dbTab
theorem conv_bytes {P : Program} {t e : TypeId} (ht : P.underlying t = some (.slice e)) (he : P.underlying e = some (.int .u8)) {m : Mem} {b l c : Nat} {cur : Array Value} (hb : m b = some (.cells cur e (0, 0))) {K : Value → Mem → Prop} {Pn : List PanicEntry → Mem → Prop}
    (k : K (.slice (some ⟨b, 0, none⟩) l c) (m.set b (.cells cur e (cur.size, cur.size + 1)))) : ConvN P t t (.slice (some ⟨b, 0, none⟩) l c) m K Pn := by
  unfold ConvN
  rw [pt_bind]
  unfold convert
  rw [pt_bind, pt_under ht, pt_bind, pt_under ht]
  simp only [beq_self_eq_true]
  rw [pt_bind, pt_under he]
  simp only []
  rw [pt_bind]
  unfold markStringish
  rw [pt_bind]
  refine ⟨_, hb, ?_⟩
  simp only [shapeOf]
  show ∃ o, _
  refine ⟨_, hb, ?_⟩
  simp only [freezeObj]
  exact k
/-- The bytes of a text that is written in the program. -/
theorem lit_bytes {m : Mem} {bs : List UInt8} {K : Option Addr → Nat → Nat → Mem → Prop} {Pn : List PanicEntry → Mem → Prop} (h : ∀ b m', Le m m' → CellsAt m' (some ⟨b, 0, none⟩) (u8s bs) → K (some ⟨b, 0, none⟩) bs.length bs.length m') :
    NewC m (u8s bs).toArray T_uint8 fun b m1 => ConvN P T_sl_uint8 T_sl_uint8 (.slice (some ⟨b, 0, none⟩) bs.length bs.length) m1 (fun w m2 => UnS w fun a l c => K a l c m2) Pn := by
  intro b hb
  refine conv_bytes (by kernel_rfl) (by kernel_rfl) (set_same _ _ _) ?_
  refine UnS.mk ?_
  rw [set_set]
  exact h b _ (Le.set hb _) (cells_at (set_same _ _ _) (by simp))
/-- What Parse answers. -/
theorem ContPR.mk {k u0 u1 u2 u3 e : Int} {a : Option Addr} {l c : Nat} {K : Int → Int → Int → Int → Int → Option Addr → Nat → Nat → Int → Mem → Prop} {Pn : List PanicEntry → Mem → Prop} {m : Mem} (h : K k u0 u1 u2 u3 a l c e m) :
    Cont (fun v m => UnTup v fun us0 => UnCons us0 fun w us1 => UnAgg w fun l => UnCons l fun v l => UnI v .i64 fun x0 => UnCons l fun v l => UnI v .u64 fun x1 => UnCons l fun v l => UnI v .u64 fun x2 => UnCons l fun v l => UnI v .u64 fun x3 => UnCons l fun v l => UnI v .u64 fun x4 => UnCons l fun v l => UnS v fun xa xl xc => UnNil l (
      UnCons us1 fun w us2 => UnI w .i64 fun e => UnNil us2 (K x0 x1 x2 x3 x4 xa xl xc e m))) Pn
      (.returned (.tuple #[.agg #[.int .i64 k, .int .u64 u0, .int .u64 u1, .int .u64 u2, .int .u64 u3, .slice a l c], .int .i64 e])) m := h
/-- Parse told at once: what it answers, as an expression with a word why not. -/
def prs (l : List UInt8) : Rx × Int := match parse l with | .ok x => (x, 0) | .error e => (rx0, e)
theorem bstr_beq (a b : List UInt8) : ((bstr a).toList == (bstr b).toList) = (a == b) := by
  rw [Bool.eq_iff_iff, beq_iff_eq, beq_iff_eq, ByteArray.toList_eq, ByteArray.toList_eq]
  exact Iff.rfl
theorem Made_spec {B m : Mem} {la : Option Addr} {cap : Nat} {ps : List UInt8} (hB : Le B m) (hc : CellsAt B la (u8s ps)) (hl : ps.length ≤ 1000000) {R : Ending → Mem → Prop} (h : ∀ m' r, Le m m' → m r = none → Pk B m' r ps → R (.returned (.pointer (some ⟨r, 0, none⟩))) m') :
    HC P eyotplay_Made.id #[.slice la ps.length cap] m R := by
  refine eyotplay_Made.ok _ _ _ _ _ ?_
  intro r hr
  refine h _ r (Le.set hr _) hr ⟨la, cap, ps, 0, set_same _ _ _, hc, le_wo (hB.trans (Le.set hr _)) (fun b e => by rw [show b = r from e]; exact hB.new hr), by omega, hl, by simp⟩
/-- An expression made of numbers. -/
theorem made_rx {B m : Mem} {la : Option Addr} {cap d : Nat} {ps : List UInt8} (hB : Le B m) (hc : CellsAt B la (u8s ps)) (hl : ps.length ≤ 1000000) (hd : d ≤ 1000) {R : Ending → Mem → Prop} {Pn : List PanicEntry → Mem → Prop}
    (h : ∀ m' a l c, Le m m' → ArgC m' (prx d ps).1 (.slice a l c) → R (.returned (rxA (prx d ps).1.k (prx d ps).1.S (.slice a l c))) m') :
    HC P eyotplay_Made.id #[.slice la ps.length cap] m (Cont (fun v m2 => UnP v fun x => HC P eyotplay_Picks_Rx.id #[.pointer x, .int .i64 (d : Int)] m2 R) Pn) := by
  refine Made_spec hB hc hl ?_
  intro m1 r hle1 hr hp
  dsimp only [Cont]
  refine UnP.mk ?_
  refine prx_spec d hd hp ?_
  intro m2 v hch hp2 hv
  obtain ⟨a, l, c, rfl⟩ := hv.sl
  exact h m2 a l c (hch.to_le hle1 (fun b e => by rw [show b = r from e]; exact hr)) (hv.le (on_le _ _))
/-- A result in a place of its own. -/
theorem own6 {m : Mem} {k : Int} {S : Nat → Bool} {a : Option Addr} {l c : Nat} {x0 x1 x2 x3 x4 x5 : Value} {K : Nat → Mem → Prop}
    (h : ∀ b m1, m b = none → Le m m1 → m1 b = some (.cells (rxO k S (.slice a l c)) T_api_Rx (0, 0)) → K b m1) :
    NewC m #[x0, x1, x2, x3, x4, x5] T_api_Rx fun b m1 => St1 m1 b 0 (.int .i64 k) fun m2 => St1 m2 b 1 (.int .u64 (L S 0)) fun m3 => St1 m3 b 2 (.int .u64 (L S 1)) fun m4 => St1 m4 b 3 (.int .u64 (L S 2)) fun m5 => St1 m5 b 4 (.int .u64 (L S 3)) fun m6 => St1 m6 b 5 (.slice a l c) fun m7 => K b m7 := copyRx h
theorem begun_spec {m : Mem} (hG : Glob m) {R : Ending → Mem → Prop} (k : ∀ m', Le m m' → R (.returned (.bool true)) m') : HC P eyotlaw9_begun.id #[] m R := by
  refine eyotlaw9_begun.ok _ _ ?_
  have hl : lst (ByteArray.mk #[97, 40, 98, 124, 99, 41, 42]) = bgT := rfl
  refine Parse_ok hG (by decide) (fun x hx m1 v hle1 hv => ?_) (fun e he => by rw [hl, bg_parse] at he; cases he)
  rw [hl, bg_parse] at hx
  cases hx
  obtain ⟨a, l, c, rfl⟩ := hv.sl
  refine ContPR.mk ?_
  refine own6 ?_
  intro b m8 hb hle8 h8
  have hv8 := hv.le hle8
  refine BrEt rfl ?_
  refine get6 h8 ?_
  have hnod : nodes bgR ≤ 1000 := by decide +kernel
  refine Show_ok bgR hv8 (by omega) (by rw [bg_show]; decide) ?_
  intro m9 hle9
  dsimp only [Cont]
  refine UnStr.mk ?_
  rw [bg_show]
  refine Br.t (by show ((bstr bgT).toList == (bstr bgT).toList) = true; rw [bstr_beq]; simp) ?_
  have h9 := hle9 _ _ h8
  refine get6 h9 ?_
  refine May_spec (hv8.le hle9) (by omega) ?_
  intro m10 hle10
  dsimp only [Cont]
  refine UnI.mk ?_
  refine BrEt bg_may ?_
  have h10 := hle10 _ _ h9
  have hv10 := (hv8.le hle9).le hle10
  refine get6 h10 ?_
  refine Null_spec bgR hv10 ?_
  intro m11 hle11
  dsimp only [Cont]
  refine UnB.mk ?_
  rw [bg_null]
  refine Br.t rfl ?_
  have h11 := hle11 _ _ h10
  have hv11 := hv10.le hle11
  refine get6 h11 ?_
  refine lit_bytes (bs := [97, 98, 99]) ?_
  intro bb m13 hle13 hc13
  refine In_spec (w := [97, 98, 99]) (hv11.le hle13) (by omega) hc13 (by decide) ?_
  intro m14 hle14
  dsimp only [Cont]
  refine UnB.mk ?_
  rw [bg_in.1]
  refine Br.t rfl ?_
  have h14 := hle14 _ _ (hle13 _ _ h11)
  have hv14 := (hv11.le hle13).le hle14
  refine get6 h14 ?_
  refine lit_bytes (bs := [98]) ?_
  intro bb m16 hle16 hc16
  refine In_spec (w := [98]) (hv14.le hle16) (by omega) hc16 (by decide) ?_
  intro m17 hle17
  dsimp only [Cont]
  refine UnB.mk ?_
  rw [bg_in.2]
  exact k m17 (((((hle1.trans hle8).trans (hle9.trans hle10)).trans (hle11.trans hle13)).trans (hle14.trans hle16)).trans hle17)
end Go.E.Rg
set_option linter.unusedVariables false
set_option linter.unusedSimpArgs false
set_option maxRecDepth 20000
namespace Go.E.Rg
open Go.H Go.E
attribute [local irreducible] BiN MkS ConvN LookN MapUpN CallV HC limb dbTab
theorem boxC {m : Mem} {b : Nat} {k : Int} {S : Nat → Bool} {x : Rx} {v : Value} {e : TypeId} {fr : Nat × Nat} (h : m b = some (.cells #[.int .i64 x.k, .int .u64 (L x.S 0), .int .u64 (L x.S 1), .int .u64 (L x.S 2), .int .u64 (L x.S 3), v] e fr)) (hv : ArgC m x v) : ArgC m (.mk k S [x]) (.slice (some ⟨b, 0, none⟩) 1 1) := by
  have := ArgC.mk (m := m) (k := k) (S := S) (prs := [(x, v)]) (a := some ⟨b, 0, none⟩) (c := 1) (by simp) (by simp) (cells_at h (by simp [rxRow])) (fun p hp => by
    have : p = (x, v) := by simpa using hp
    subst this; exact hv)
  exact this
theorem own6z {m : Mem} {k : Int} {a : Option Addr} {l c : Nat} {x0 x1 x2 x3 x4 x5 : Value} {K : Nat → Mem → Prop}
    (h : ∀ b m1, m b = none → Le m m1 → m1 b = some (.cells (rxO k noS (.slice a l c)) T_api_Rx (0, 0)) → K b m1) :
    NewC m #[x0, x1, x2, x3, x4, x5] T_api_Rx fun b m1 => St1 m1 b 0 (.int .i64 k) fun m2 => St1 m2 b 1 (.int .u64 0) fun m3 => St1 m3 b 2 (.int .u64 0) fun m4 => St1 m4 b 3 (.int .u64 0) fun m5 => St1 m5 b 4 (.int .u64 0) fun m6 => St1 m6 b 5 (.slice a l c) fun m7 => K b m7 := by
  have key := own6 (m := m) (k := k) (S := noS) (a := a) (l := l) (c := c) (x0 := x0) (x1 := x1) (x2 := x2) (x3 := x3) (x4 := x4) (x5 := x5) h
  rw [noS_L, noS_L, noS_L, noS_L] at key
  exact key
theorem newBox {m : Mem} {x : Rx} {a : Option Addr} {l c : Nat} {K : Nat → Mem → Prop} (h : ∀ b m1, m b = none → Le m m1 → m1 b = some (.cells #[.int .i64 x.k, .int .u64 (L x.S 0), .int .u64 (L x.S 1), .int .u64 (L x.S 2), .int .u64 (L x.S 3), .slice a l c] T_api_Rx (0, 0)) → K b m1) :
    NewC m #[.int .i64 x.k, .int .u64 (L x.S 0), .int .u64 (L x.S 1), .int .u64 (L x.S 2), .int .u64 (L x.S 3), .slice a l c] T_api_Rx K := fun b hb => h b _ hb (Le.set hb _) (set_same _ _ _)
end Go.E.Rg
set_option linter.unusedVariables false
set_option linter.unusedSimpArgs false
set_option maxRecDepth 20000
namespace Go.E.Rg
open Go.H Go.E
attribute [local irreducible] BiN MkS ConvN LookN MapUpN CallV HC limb dbTab
theorem Le.step {m mm m' : Mem} {a : Option Addr} (h : Le m mm) (k : Chg (fun b => blk a = some b) mm m') (hf : Fresh m a) : Le m m' := k.to_le h (fun b e => hf b e)
theorem In_n {r : Rx} {m : Mem} {v : Value} {wa : Option Addr} {wc n : Nat} {w : List UInt8} {R : Ending → Mem → Prop} (ha : ArgC m r v) (hn : nodes r ≤ 10) (hw : CellsAt m wa (u8s w)) (hl : w.length = n) (hs : n ≤ 100) (hk : ∀ m', Le m m' → R (.returned (.bool (isIn r w))) m') :
    HC P regex_In.id #[rxA r.k r.S v, .slice wa n wc] m R := by
  subst hl
  exact In_spec ha (by omega) hw (by omega) hk
end Go.E.Rg
