/- A cache under way. -/
import Derived.Test.YtjdkdeekniephaaCBB
set_option linter.unusedVariables false
set_option maxRecDepth 20000
set_option linter.unusedSimpArgs false
namespace Go.E.ZB
open Go.H Go.E
attribute [local irreducible] BiN MkS ConvN LookN MapUpN CallV HC

structure TC (ms mm : Mem) (F : Nat → Prop) (bc : Nat) (most : Int) (es : List (Int × A)) : Prop where
  le : Le ms mm
  ca : Ca mm F bc most es
  fr : ∀ b, F b → ms b = none
section
variable {ms mm m' : Mem} {F : Nat → Prop} {bc : Nat} {most : Int} {es : List (Int × A)}
theorem TC.up (h : TC ms mm F bc most es) (k : Le mm m') : TC ms m' F bc most es := ⟨h.le.trans k, h.ca.le k, h.fr⟩
theorem TC.side {S : Nat → Prop} (h : TC ms mm F bc most es) (hch : Chg S mm m') (hd : ∀ b, F b → ¬ S b) (hle : Le ms m') : TC ms m' F bc most es := ⟨hle, h.ca.chg hch hd, h.fr⟩
theorem TC.base {ms' : Mem} (h : TC ms mm F bc most es) (hle : Le ms' ms) : TC ms' mm F bc most es := ⟨hle.trans h.le, h.ca, fun b e => hle.new (h.fr b e)⟩
theorem TC.next {F' : Nat → Prop} {es' : List (Int × A)} (h : TC ms mm F bc most es) (hch : Chg F mm m') (hF : ∀ b, F' b → F b ∨ mm b = none) (hc : Ca m' F' bc most es') : TC ms m' F' bc most es' :=
  ⟨hch.to_le h.le h.fr, hc, fun b hb => (hF b hb).elim (h.fr b) (fun e => h.le.new e)⟩
theorem TC.new {n : Int} {R : Ending → Mem → Prop} (k : ∀ bc F m', TC ms m' F bc n [] → R (.returned (.pointer (some ⟨bc, 0, none⟩))) m') : HC P lru_New_s_byte.id #[.int .i64 n] ms R := by
  refine New_spec ?_
  intro bc F m' hle hF hc
  exact k bc F m' ⟨hle, hc, hF⟩
theorem TC.put (h : TC ms mm F bc most es) (hll : es.length ≤ 8000) (k : Int) (v : A) {R : Ending → Mem → Prop}
    (r : ∀ F' m', Chg F mm m' → (∀ b, F' b → F b ∨ mm b = none) → TC ms m' F' bc most (putL most k v es) → R (.returned (.tuple #[.int .i64 (goneL most k v es).1, .bool (goneL most k v es).2])) m') : HC P lru_Cache_s_byte_Put.id #[.pointer (some ⟨bc, 0, none⟩), .int .i64 k, .slice v.1 v.2.1 v.2.2] mm R := by
  refine Put_spec h.ca hll k v ?_
  intro F' m' hch hF hc
  exact r F' m' hch hF (h.next hch hF hc)
theorem TC.gets (h : TC ms mm F bc most es) (hll : es.length ≤ 9000) {k : Int} {i : Nat} {x : Int × A} (hk : ixF k es 0 = some i) (hx : es[i]? = some x) {R : Ending → Mem → Prop}
    (r : ∀ F' m', Chg F mm m' → (∀ b, F' b → F b ∨ mm b = none) → TC ms m' F' bc most (getL k es) → R (.returned (.tuple #[.slice x.2.1 x.2.2.1 x.2.2.2, .bool true])) m') : HC P lru_Cache_s_byte_Get.id #[.pointer (some ⟨bc, 0, none⟩), .int .i64 k] mm R := by
  refine Get_some h.ca hll hk hx ?_
  intro F' m' hch hF hc
  exact r F' m' hch hF (h.next hch hF hc)
theorem TC.getn (h : TC ms mm F bc most es) (hll : es.length ≤ 9000) {k : Int} (hk : ixF k es 0 = none) {R : Ending → Mem → Prop}
    (r : ∀ m', Le mm m' → TC ms m' F bc most es → R (.returned (.tuple #[.slice none 0 0, .bool false])) m') : HC P lru_Cache_s_byte_Get.id #[.pointer (some ⟨bc, 0, none⟩), .int .i64 k] mm R := by
  refine Get_none h.ca hll hk ?_
  intro m' hle
  exact r m' hle (h.up hle)
theorem TC.drop (h : TC ms mm F bc most es) (hll : es.length ≤ 9000) (k : Int) {R : Ending → Mem → Prop}
    (r : ∀ F' m', Chg F mm m' → (∀ b, F' b → F b ∨ mm b = none) → TC ms m' F' bc most (dropL k es) → R (.returned (.bool (ixF k es 0).isSome)) m') : HC P lru_Cache_s_byte_Drop.id #[.pointer (some ⟨bc, 0, none⟩), .int .i64 k] mm R := by
  refine Drop_spec h.ca hll k ?_
  intro F' m' hch hF hc
  exact r F' m' hch hF (h.next hch hF hc)
end
end Go.E.ZB
