/- Classes: Go's reader: parts, the class. -/
import Derived.Test.YtpbnhcggfgegkaaDoorSC2
set_option linter.unusedVariables false
set_option linter.unusedSimpArgs false
namespace Go.E
open Go.H
attribute [local irreducible] BiN MkS ConvN LookN MapUpN CallV HC limb dbTab

abbrev z4 : Array Value := #[.int .u64 0, .int .u64 0, .int .u64 0, .int .u64 0]
/-- A result's own place, while the reader goes on. -/
structure Cel (m mm : Mem) (r b : Nat) (c : Array Value) : Prop where
  at_ : mm b = some (.cells c T_api_Set (0, 0))
  ne : b ≠ r
  new : m b = none
  ch : Chg (fun x => x = r) m mm
theorem Cel.mk0 {m : Mem} {r b : Nat} {c : Array Value} (hr : m r ≠ none) (hb : m b = none) : Cel m (m.set b (.cells c T_api_Set (0, 0))) r b c :=
  ⟨set_same _ _ _, fun e => hr (e ▸ hb), hb, (Le.set hb _).chg _⟩
theorem Cel.step {m mm m' : Mem} {r b : Nat} {c : Array Value} (h : Cel m mm r b c) (k : Chg (fun x => x = r) mm m') : Cel m m' r b c :=
  ⟨k.eq _ _ h.at_ h.ne, h.ne, h.new, h.ch.trans k (fun _ _ e => e)⟩
theorem Cel.le {m mm m' : Mem} {r b : Nat} {c : Array Value} (h : Cel m mm r b c) (k : Le mm m') : Cel m m' r b c := h.step (k.chg _)
theorem Cel.put {m mm : Mem} {r b : Nat} {c : Array Value} (h : Cel m mm r b c) (c' : Array Value) : Cel m (mm.set b (.cells c' T_api_Set (0, 0))) r b c' := by
  refine ⟨set_same _ _ _, h.ne, h.new, ?_⟩
  refine ⟨fun x o hx hn => ?_, fun x hx => ?_⟩
  · have : x ≠ b := fun e => by subst e; rw [h.new] at hx; cases hx
    rw [set_other _ _ this]
    exact h.ch.eq x o hx hn
  · by_cases e : x = b
    · subst e; rw [set_same]; simp
    · rw [set_other _ _ e]; exact h.ch.live x hx

theorem part_spec {m : Mem} {r : Nat} {s : ByteArray} {i : Nat} (hr : rdr m r s i) (hs : s.size < 2 ^ 62) {R : Ending → Mem → Prop}
    (k : ∀ a b n, prt (lst s) i = some ((a, b), n) → ∀ m', Chg (fun b => b = r) m m' → rdr m' r s n → R (.returned (setv (fromTo a b))) m')
    (kp : prt (lst s) i = none → ∀ m', Chg (fun b => b = r) m m' → R pan m') :
    HC P class_reader_part.id #[.pointer (some ⟨r, 0, none⟩)] m R := by
  refine class_reader_part.ok _ _ _ ?_
  intro b2 hb2
  have c0 := Cel.mk0 (r := r) (c := z4) (by rw [hr]; simp) hb2
  have hr0 : rdr (m.set b2 (.cells z4 T_api_Set (0, 0))) r s i := by show _ = _; rw [set_other _ _ c0.ne.symm]; exact hr
  unfold prt at k kp
  refine sign_spec hr0 hs (fun a n hsg m1 hch1 hr1 => ?_) (fun hsg m1 hch1 => kp (by rw [hsg]) m1 (c0.step hch1).ch)
  rw [hsg] at k kp
  dsimp only at k kp
  have ha := (sgn_lt hsg).1
  have c1 := c0.step hch1
  dsimp only [Cont]
  refine UnI.mk ?_
  refine next_spec hr1 ?_
  dsimp only [Cont]
  refine UnI.mk ?_
  refine BrN (fun hne => ?_) (fun heq => ?_)
  · rw [if_pos (by omega)] at k
    refine run_spec ha ha ?_
    intro m2 hle2
    refine ContSet.mk ?_
    refine out4 (c1.le hle2).at_ ?_
    refine k a a n rfl _ ((c1.le hle2).put _).ch ?_
    show _ = _
    rw [set_other _ _ c1.ne.symm]; exact hle2 _ _ hr1
  · rw [if_neg (by omega)] at k kp
    refine take_spec hr1 hs (fun hi m2 hch2 hr2 => ?_) (fun hi => ?_)
    rotate_left
    · rw [nx_out (by rw [lst_len]; omega)] at heq; cases heq
    have c2 := c1.step hch2
    dsimp only [Cont]
    refine UnI.mk ?_
    refine sign_spec hr2 hs (fun b n' hsg2 m3 hch3 hr3 => ?_) (fun hsg2 m3 hch3 => kp (by rw [hsg2]) m3 (c2.step hch3).ch)
    rw [hsg2] at k kp
    dsimp only at k kp
    have hb := (sgn_lt hsg2).1
    have c3 := c2.step hch3
    dsimp only [Cont]
    refine UnI.mk ?_
    refine BrD (fun hlt => kp (by rw [if_pos (by omega)]) m3 c3.ch) (fun hge => ?_)
    rw [if_neg (by omega)] at k
    refine run_spec ha hb ?_
    intro m4 hle4
    refine ContSet.mk ?_
    refine out4 (c3.le hle4).at_ ?_
    refine k a b n' rfl _ ((c3.le hle4).put _).ch ?_
    show _ = _
    rw [set_other _ _ c3.ne.symm]; exact hle4 _ _ hr3

/-- Behind the last part. -/
theorem k3_spec {m mm : Mem} {r b2 b5 : Nat} {s : ByteArray} {i : Nat} {S : Nat → Bool} {other : Bool} (hi : i < s.size) (hs : s.size < 2 ^ 62) (hr : rdr mm r s i) (c2 : Cel m mm r b2 z4) (c5 : Cel m mm r b5 (cells4 S)) (hne : b2 ≠ b5) {R : Ending → Mem → Prop}
    (k : ∀ m', Chg (fun b => b = r) m m' → rdr m' r s (i + 1) → R (.returned (setv (if other = true then (fun c => !S c) else S))) m') :
    class_reader_class.k3 (some ⟨r, 0, none⟩) b2 0 other b5 0 R mm := by
  unfold class_reader_class.k3
  refine take_spec hr hs (fun _ m1 hch1 hr1 => ?_) (fun h => by omega)
  have d2 := c2.step hch1; have d5 := c5.step hch1
  dsimp only [Cont]
  refine UnI.mk ?_
  cases other with
  | true =>
    refine Br.mk (fun _ => ?_) (fun h => by cases h)
    refine get4 d5.at_ ?_
    refine Not_spec ?_
    intro m2 hle2
    refine ContSet.mk ?_
    have e2 := d2.le hle2; have e5 := d5.le hle2
    refine put4 e5.at_ ?_
    have f5 := e5.put (cells4 fun c => !S c)
    refine get4 f5.at_ ?_
    have f2 : (m2.set b5 (.cells (cells4 fun c => !S c) T_api_Set (0, 0))) b2 = some (.cells z4 T_api_Set (0, 0)) := by rw [set_other _ _ hne]; exact e2.at_
    refine out4 f2 ?_
    refine k _ (Cel.put ⟨f2, e2.ne, e2.new, f5.ch⟩ _).ch ?_
    show _ = _
    rw [set_other _ _ e2.ne.symm, set_other _ _ e5.ne.symm]; exact hle2 _ _ hr1
  | false =>
    refine Br.mk (fun h => by cases h) (fun _ => ?_)
    refine get4 d5.at_ ?_
    refine out4 d2.at_ ?_
    refine k _ (d2.put _).ch ?_
    show _ = _
    rw [set_other _ _ d2.ne.symm]; exact hr1
theorem prts_congr (l : List UInt8) : ∀ (N n : Nat) {S S' : Nat → Bool}, S = S' → prts l N n S = prts l N n S' := fun _ _ _ _ e => by rw [e]

theorem loop_spec {m mm : Mem} {r b2 b5 : Nat} {s : ByteArray} {n : Nat} {S : Nat → Bool} {other : Bool} (hs : s.size < 2 ^ 62) (hn : n ≤ s.size) (hr : rdr mm r s n) (c2 : Cel m mm r b2 z4) (c5 : Cel m mm r b5 (cells4 S)) (hne : b2 ≠ b5) {R : Ending → Mem → Prop}
    (k : ∀ S' e, prts (lst s) (s.size + 1) n S = some (S', e) → ∀ m', Chg (fun b => b = r) m m' → rdr m' r s e → R (.returned (setv (if other = true then (fun c => !S' c) else S'))) m')
    (kp : prts (lst s) (s.size + 1) n S = none → ∀ m', Chg (fun b => b = r) m m' → R pan m') :
    class_reader_class.l2 (some ⟨r, 0, none⟩) b2 0 other b5 0 R mm := by
  have hll := lst_len s
  refine ⟨fun N ra x2b x2o o s5b s5o mm => ra = some ⟨r, 0, none⟩ ∧ x2b = b2 ∧ x2o = 0 ∧ o = other ∧ s5b = b5 ∧ s5o = 0 ∧ ∃ n' S2, s.size < N + n' ∧ n' ≤ s.size ∧ rdr mm r s n' ∧ Cel m mm r b2 z4 ∧ Cel m mm r b5 (cells4 S2) ∧ prts (lst s) N n' S2 = prts (lst s) (s.size + 1) n S, s.size + 1,
    ⟨rfl, rfl, rfl, rfl, rfl, rfl, n, S, by omega, hn, hr, c2, c5, rfl⟩, ?_⟩
  clear hr c2 c5
  rintro N ra x2b x2o o s5b s5o mm ⟨rfl, rfl, rfl, rfl, rfl, rfl, n', S2, hN, hn', hr, c2, c5, hp⟩
  obtain ⟨N, rfl⟩ : ∃ N', N = N' + 1 := ⟨N - 1, by omega⟩
  unfold class_reader_class.l2B
  refine next_spec hr ?_
  dsimp only [Cont]
  refine UnI.mk ?_
  rw [prts] at hp
  refine BrN (fun h93 => ?_) (fun h93 => ?_)
  · rw [if_neg (by omega)] at hp
    refine ⟨mm.wo (fun b => b = r), wo_le _ _, ?_⟩
    have hw : ∀ b, b ≠ r → (mm.wo fun b => b = r) b = mm b := fun b hb => wo_in hb
    refine get4 (by rw [hw _ c5.ne]; exact c5.at_) ?_
    refine part_spec hr hs (fun a b n2 hpr m3 hch3 hr3 => ?_) (fun hpr m3 hch3 => kp (by rw [← hp, hpr]) m3 (c2.step hch3).ch)
    rw [hpr] at hp
    dsimp only at hp
    obtain ⟨hab, hb, hin, hle⟩ := prt_lt hpr
    refine ContSet.mk ?_
    refine ⟨mm.wo (fun b => b = r), Le.refl _, fun b o hb => ?_, ?_⟩
    · by_cases e : b = r
      · rw [wo_out (F := fun b => b = r) e] at hb; cases hb
      · rw [hw _ e] at hb; exact hch3.eq _ _ hb e
    refine Or_spec ?_
    intro m4 hle4
    refine ContSet.mk ?_
    have d5 := (c5.step hch3).le hle4
    refine put4 d5.at_ ?_
    have e5 := d5.put (cells4 fun c => S2 c || fromTo a b c)
    have d2 := (c2.step hch3).le hle4
    refine ⟨N, by omega, rfl, rfl, rfl, rfl, rfl, rfl, n2, fun c => S2 c || fromTo a b c, by omega, by omega, ?_, ⟨?_, d2.ne, d2.new, e5.ch⟩, e5, hp⟩
    · show _ = _
      rw [set_other _ _ d5.ne.symm]; exact hle4 _ _ hr3
    · rw [set_other _ _ hne]; exact d2.at_
  · rw [if_pos (by omega)] at hp
    have hi : n' < s.size := by
      apply Decidable.byContradiction
      intro h
      rw [nx_out (by omega)] at h93; cases h93
    exact k3_spec hi hs hr c2 c5 hne fun m' hch hr' => k S2 (n' + 1) hp.symm m' hch hr'

theorem class_spec {m : Mem} {r : Nat} {s : ByteArray} (hr : rdr m r s 0) (hs : s.size < 2 ^ 62) {R : Ending → Mem → Prop}
    (k : ∀ S e, cls0 (lst s) = some (S, e) → ∀ m', Chg (fun b => b = r) m m' → rdr m' r s e → R (.returned (setv S)) m')
    (kp : cls0 (lst s) = none → ∀ m', Chg (fun b => b = r) m m' → R pan m') :
    HC P class_reader_class.id #[.pointer (some ⟨r, 0, none⟩)] m R := by
  have hll := lst_len s
  refine class_reader_class.ok _ _ _ ?_
  intro b2 hb2
  have c0 := Cel.mk0 (r := r) (c := z4) (by rw [hr]; simp) hb2
  have hr0 : rdr (m.set b2 (.cells z4 T_api_Set (0, 0))) r s 0 := by show _ = _; rw [set_other _ _ c0.ne.symm]; exact hr
  unfold cls0 at k kp
  refine next_spec hr0 ?_
  dsimp only [Cont]
  refine UnI.mk ?_
  refine BrE (fun h46 => ?_) (fun h46 => ?_)
  · rw [if_pos (by omega)] at k
    refine take_spec hr0 hs (fun hi m1 hch1 hr1 => ?_) (fun hi => by rw [nx_out (by omega)] at h46; cases h46)
    dsimp only [Cont]
    refine UnI.mk ?_
    have hz : (.agg #[.int .u64 0, .int .u64 0, .int .u64 0, .int .u64 0] : Value) = setv fun _ => false := by
      unfold setv; rw [L_zero, L_zero, L_zero, L_zero]
    rw [hz]
    refine Not_spec ?_
    intro m2 hle2
    refine ContSet.mk ?_
    have c1 := (c0.step hch1).le hle2
    refine out4 c1.at_ ?_
    refine k _ _ rfl _ (c1.put _).ch ?_
    show _ = _
    rw [set_other _ _ c1.ne.symm]; exact hle2 _ _ hr1
  rw [if_neg (by omega)] at k kp
  refine BrE (fun h91 => ?_) (fun h91 => ?_)
  · rw [if_pos (by omega)] at k kp
    refine take_spec hr0 hs (fun hi m1 hch1 hr1 => ?_) (fun hi => by rw [nx_out (by omega)] at h91; cases h91)
    have c1 := c0.step hch1
    dsimp only [Cont]
    refine UnI.mk ?_
    refine next_spec hr1 ?_
    dsimp only [Cont]
    refine UnI.mk ?_
    have rest : ∀ (n0 : Nat) (other : Bool) (m3 : Mem), (if nx (lst s) 1 = 94 then 2 else 1) = n0 → other = decide (nx (lst s) 1 = 94) → rdr m3 r s n0 → Cel m m3 r b2 z4 →
        class_reader_class.k1 (some ⟨r, 0, none⟩) b2 0 other R m3 := by
      intro n0 other m3 hn0 hot hr3 c3
      rw [hn0] at k kp
      unfold class_reader_class.k1
      refine part_spec hr3 hs (fun a b n hpr m4 hch4 hr4 => ?_) (fun hpr m4 hch4 => kp (by rw [hpr]) m4 (c3.step hch4).ch)
      rw [hpr] at k kp
      dsimp only at k kp
      obtain ⟨hab, hb, hin, hle⟩ := prt_lt hpr
      refine ContSet.mk ?_
      intro b5 hb5
      have c4 := c3.step hch4
      have hne : b2 ≠ b5 := fun e => by subst e; rw [c4.at_] at hb5; cases hb5
      have hm5 : m b5 = none := c4.ch.new hb5
      have hr5 : b5 ≠ r := fun e => by subst e; rw [hr4] at hb5; cases hb5
      refine put4 (set_same _ _ _) ?_
      rw [set_set]
      have c5 : Cel m (m4.set b5 (.cells (cells4 (fromTo a b)) T_api_Set (0, 0))) r b5 (cells4 (fromTo a b)) :=
        ⟨set_same _ _ _, hr5, hm5, c4.ch.trans ((Le.set hb5 _).chg _) (fun _ _ e => e)⟩
      refine loop_spec (n := n) (S := fromTo a b) hs (by omega) ?_ (c4.le (Le.set hb5 _)) c5 hne (fun S' e hp m' hch hr' => ?_) (fun hp m' hch => kp (by rw [hll, hp]) m' hch)
      · show _ = _
        rw [set_other _ _ hr5.symm]; exact hr4
      · subst hot
        by_cases h : nx (lst s) 1 = 94
        · have := k (fun c => !S' c) e (by rw [hll, hp]; simp [h]) m' hch hr'
          simpa [h] using this
        · have := k S' e (by rw [hll, hp]; simp [h]) m' hch hr'
          simpa [h] using this
    have hd : (((nx (lst s) 1 : Nat) : Int) == 94) = decide (nx (lst s) 1 = 94) := by
      rw [Bool.eq_iff_iff]; simp only [beq_iff_eq, decide_eq_true_eq]; omega
    refine BrE (fun h94 => ?_) (fun h94 => ?_)
    · refine take_spec hr1 hs (fun hi m2 hch2 hr2 => ?_) (fun hi => by rw [nx_out (by omega)] at h94; cases h94)
      dsimp only [Cont]
      refine UnI.mk ?_
      exact rest 2 _ m2 (by rw [if_pos (show nx (lst s) 1 = 94 by have h94 : ((nx (lst s) 1 : Nat) : Int) = 94 := h94; omega)]) hd hr2 (c1.step hch2)
    · exact rest 1 _ m1 (by rw [if_neg (show ¬ nx (lst s) 1 = 94 by have h94 : ¬ ((nx (lst s) 1 : Nat) : Int) = 94 := h94; omega)]) hd hr1 c1
  · rw [if_neg (by omega)] at k kp
    refine sign_spec hr0 hs (fun c n hsg m1 hch1 hr1 => ?_) (fun hsg m1 hch1 => kp (by rw [hsg]) m1 (c0.step hch1).ch)
    rw [hsg] at k
    dsimp only at k
    have hc := (sgn_lt hsg).1
    dsimp only [Cont]
    refine UnI.mk ?_
    refine run_spec hc hc ?_
    intro m2 hle2
    refine ContSet.mk ?_
    have c1 := (c0.step hch1).le hle2
    refine out4 c1.at_ ?_
    refine k _ _ rfl _ (c1.put _).ch ?_
    show _ = _
    rw [set_other _ _ c1.ne.symm]; exact hle2 _ _ hr1
end Go.E
