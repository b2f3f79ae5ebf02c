/- Words that the printed texts use. -/
import Derived.Test.YtjdkdeekniephaaH6
namespace Go.H

def sL : Code → Code | .seq x _ => x | c => c
/-- a region's operations -/
def rgOps : Code → Array Oper | .region _ ops _ => ops | _ => #[]
def sR : Code → Code | .seq _ y => y | c => c
def cT : Code → Code | .cond _ x _ => x | c => c
def cE : Code → Code | .cond _ _ y => y | c => c
def bB : Code → Code | .block _ c => c | c => c
def lP : Code → Code | .loop c => c | c => c

abbrev UnPA (v : Value) (K : Nat → Nat → Prop) : Prop := match v with | .pointer (some ⟨b, o, none⟩) => K b o | _ => False
theorem UnPA.ex {v : Value} {K : Nat → Nat → Prop} (h : UnPA v K) : ∃ b o, v = .pointer (some ⟨b, o, none⟩) ∧ K b o := by
  unfold UnPA at h
  split at h
  · exact ⟨_, _, rfl, h⟩
  · exact h.elim
def bitsV (op : BinOp) (k : IntKind) (x y : Int) : Int :=
  match op with
  | .and => k.wrap ((BitVec.ofInt k.bits x &&& BitVec.ofInt k.bits y).toNat : Nat)
  | .or => k.wrap ((BitVec.ofInt k.bits x ||| BitVec.ofInt k.bits y).toNat : Nat)
  | .xor => k.wrap ((BitVec.ofInt k.bits x ^^^ BitVec.ofInt k.bits y).toNat : Nat)
  | .andNot => k.wrap ((BitVec.ofInt k.bits x &&& ~~~(BitVec.ofInt k.bits y)).toNat : Nat)
  | _ => 0
def shlV (k : IntKind) (x y : Int) : Int := k.wrap (x * 2 ^ min y.toNat k.bits)
def shrV (k : IntKind) (x y : Int) : Int := x.fdiv (2 ^ min y.toNat k.bits)

def ordL : List (Nat × Nat) → Ord → Ord
  | [], r => r
  | (i, f) :: l, r => .one i f (ordL l r)
def NewC (m : Mem) (c : Array Value) (e : TypeId) (K : Nat → Mem → Prop) : Prop := ∀ b, m b = none → K b (m.set b (.cells c e (0, 0)))
def NewM (m : Mem) (K : Nat → Mem → Prop) : Prop := ∀ b, m b = none → K b (m.set b (.map #[] 0))
def CallV (P : Program) (f : Value) (args : Array Value) (m : Mem) (R : Ending → Mem → Prop) : Prop :=
  match f with
  | .func (.func g) first cap => HC P g (first ++ args ++ cap) m R
  | _ => False
def BiN (P : Program) (b : Builtin) (ats : Array TypeId) (ty : TypeId) (cs : Array Bool) (args : Array Value) (m : Mem) (K : Value → Mem → Prop) (Pn : List PanicEntry → Mem → Prop) : Prop :=
  pt P (builtin b ats ty cs args) (nextP P K Pn) (fun v m' => Pn [{ v := v, recovered := false }] m') m
def MkS (P : Program) (m : Mem) (t : TypeId) (l c : Value) (K : Value → Mem → Prop) (Pn : List PanicEntry → Mem → Prop) : Prop :=
  pt P (do pure (Next.value (← Instr.makeSlice t l c))) (nextP P K Pn) (fun v m' => Pn [{ v := v, recovered := false }] m') m
def ConvN (P : Program) (src dst : TypeId) (x : Value) (m : Mem) (K : Value → Mem → Prop) (Pn : List PanicEntry → Mem → Prop) : Prop :=
  pt P (do pure (Next.value (← convert src dst x))) (nextP P K Pn) (fun v m' => Pn [{ v := v, recovered := false }] m') m
def LookN (P : Program) (m : Mem) (t : TypeId) (x i : Value) (ok : Bool) (K : Value → Prop) : Prop :=
  pq P (do pure (Next.value (← Instr.lookup t x i ok))) (isValue K) m
def MapUpN (P : Program) (m : Mem) (t : TypeId) (mp k x : Value) (K : Mem → Prop) (Pn : List PanicEntry → Mem → Prop) : Prop :=
  pt P (do Instr.mapUpdate t mp k x; pure Next.skip) (nextP P (fun _ m => K m) Pn) (fun v m' => Pn [{ v := v, recovered := false }] m') m
def Sl3N (P : Program) (m : Mem) (t : TypeId) (x l h c : Value) (K : Value → Prop) : Prop :=
  pq P (do pure (Next.value (← Instr.sliceAt t x (some l) (some h) (some c)))) (isValue K) m
end Go.H
