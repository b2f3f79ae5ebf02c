/- From the logic H to the frame's words. -/
import Derived.Test.YtjdkdeekniephaaH9
import Derived.Below
import Derived.RowKit
set_option linter.unusedVariables false
namespace Go.H
open Go.RowKit

theorem HC.calls {P : Program} {f : FuncId} {fn : Func} {args : Array Value} {w : World} {v : Value} (hf : P.funcs[f]? = some fn) (hb : fn.body.isNone = false) (hn : (fn.name == "runtime.NumGoroutine") = false) (h : HC P f args (fun b => w.heap[b]?) (fun e m' => e = .returned v ∧ Le (fun b => w.heap[b]?) m')) :
    Calls P f args w fun e w' => e = .returned v ∧ Below w.heap.size w w' := by
  have hen := callFunc_enters (P := P) hf hn hb args w
  rcases h with h | h
  rotate_left
  · have := pt_sound P _ _ w (fun b o hb => hb) h
    rw [hen] at this
    exact (this.elim fun m' hx => hx.1).elim
  refine (h.2 w (fun b o hb => hb)).mono ?_
  rintro e w' ⟨m', _, ⟨rfl, hle⟩, hF, hfr⟩
  refine ⟨rfl, hfr.os, hfr.tape, hfr.output, hfr.size, fun k hk => ?_⟩
  have h1 : w.heap[k]? = some w.heap[k] := Array.getElem?_eq_getElem hk
  rw [h1]
  exact hF k _ (hle k _ h1)

theorem wf_u8 {n : Int} (h : (Lit.int .u8 n).wf = true) : 0 ≤ n ∧ n < 256 := by
  have e1 : IntKind.u8.min = 0 := rfl
  have e2 : IntKind.u8.max = 255 := rfl
  simp only [Lit.wf, e1, e2, Bool.and_eq_true, decide_eq_true_eq] at h
  omega
theorem wf_u16 {n : Int} (h : (Lit.int .u16 n).wf = true) : 0 ≤ n ∧ n < 65536 := by
  have e1 : IntKind.u16.min = 0 := rfl
  have e2 : IntKind.u16.max = 65535 := rfl
  simp only [Lit.wf, e1, e2, Bool.and_eq_true, decide_eq_true_eq] at h
  omega
theorem wf_i64 {n : Int} (h : (Lit.int .i64 n).wf = true) : -9223372036854775808 ≤ n ∧ n ≤ 9223372036854775807 := by
  have e1 : IntKind.i64.min = -9223372036854775808 := rfl
  have e2 : IntKind.i64.max = 9223372036854775807 := rfl
  simp only [Lit.wf, e1, e2, Bool.and_eq_true, decide_eq_true_eq] at h
  omega

theorem row_u8 {w : World} {a : Option Addr} {len cap : Nat} {zs : List Int} (h : (a = none ∧ len = 0 ∧ cap = 0 ∧ zs = []) ∨
    ∃ x, a = some x ∧ len ≤ cap ∧ cap ≤ maxLen ∧ zs.length = cap ∧ (∀ i, i < zs.length → w.cell? (x.add i) = some (.int .u8 (zs.getD i 0))) ∧ ∀ n ∈ zs, (Lit.int .u8 n).wf = true) :
    ∃ bs : List UInt8, bs.length = len ∧ CellsAt (fun b => w.heap[b]?) a (u8s bs) ∧ len ≤ cap ∧ ∃ bs2 : List UInt8, bs2.length = cap ∧ CellsAt (fun b => w.heap[b]?) a (u8s bs2) ∧ bs2.take len = bs := by
  rcases h with ⟨rfl, rfl, rfl, rfl⟩ | ⟨x, rfl, hlc, _, hl, hcell, hwf⟩
  · exact ⟨[], rfl, CellsAt.empty _ _, Nat.le_refl _, [], rfl, CellsAt.empty _ _, rfl⟩
  · have hall : CellsAt (fun b => w.heap[b]?) (some x) (u8s (zs.map fun n => UInt8.ofNat n.toNat)) := by
      refine CellsAt.given ?_
      intro j u hu
      simp only [u8s, List.map_map, List.getElem?_map] at hu
      cases hj : zs[j]? with
      | none => rw [hj] at hu; cases hu
      | some n =>
        rw [hj] at hu
        simp only [Option.map_some, Option.some.injEq, Function.comp] at hu
        have hjl : j < zs.length := by
          by_cases hlt : j < zs.length
          · exact hlt
          · rw [List.getElem?_eq_none (by omega)] at hj; cases hj
        have hn := wf_u8 (hwf n (List.mem_of_getElem? hj))
        rw [hcell j hjl, ← hu]
        simp only [List.getD_eq_getElem?_getD, hj, Option.getD_some]
        have : (UInt8.ofNat n.toNat).toNat = n.toNat := by
          rw [UInt8.toNat_ofNat']; omega
        rw [this]
        congr 2; omega
    refine ⟨(zs.map fun n => UInt8.ofNat n.toNat).take len, by simp; omega, ?_, hlc, zs.map fun n => UInt8.ofNat n.toNat, by simp [hl], hall, rfl⟩
    have e : zs.map (fun n => UInt8.ofNat n.toNat) = (zs.map (fun n => UInt8.ofNat n.toNat)).take len ++ (zs.map (fun n => UInt8.ofNat n.toNat)).drop len := (List.take_append_drop _ _).symm
    rw [e] at hall
    unfold u8s at hall ⊢
    rw [List.map_append] at hall
    exact hall.left
theorem row_int {w : World} {a : Option Addr} {len cap : Nat} {zs : List Int} (h : (a = none ∧ len = 0 ∧ cap = 0 ∧ zs = []) ∨
    ∃ x, a = some x ∧ len ≤ cap ∧ cap ≤ maxLen ∧ zs.length = cap ∧ (∀ i, i < zs.length → w.cell? (x.add i) = some (.int .i64 (zs.getD i 0))) ∧ ∀ n ∈ zs, (Lit.int .i64 n).wf = true) :
    ∃ xs : List Int, xs.length = len ∧ CellsAt (fun b => w.heap[b]?) a (ints xs) ∧ ∀ x ∈ xs, -9223372036854775808 ≤ x ∧ x ≤ 9223372036854775807 := by
  rcases h with ⟨rfl, rfl, rfl, rfl⟩ | ⟨x, rfl, hlc, _, hl, hcell, hwf⟩
  · exact ⟨[], rfl, CellsAt.empty _ _, fun x h => by simp at h⟩
  · refine ⟨zs.take len, by simp; omega, CellsAt.given ?_, fun x hx => wf_i64 (hwf x (List.mem_of_mem_take hx))⟩
    intro j u hu
    simp only [ints, List.getElem?_map, List.getElem?_take] at hu
    split at hu
    · cases hj : zs[j]? with
      | none => rw [hj] at hu; cases hu
      | some n =>
        rw [hj] at hu
        cases hu
        have hjl : j < zs.length := by
          by_cases hlt : j < zs.length
          · exact hlt
          · rw [List.getElem?_eq_none (by omega)] at hj; cases hj
        rw [hcell j hjl]
        simp only [List.getD_eq_getElem?_getD, hj, Option.getD_some]
    · cases hu
end Go.H
