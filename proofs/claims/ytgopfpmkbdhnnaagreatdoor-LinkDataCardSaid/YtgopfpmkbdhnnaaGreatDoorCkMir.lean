/-
What mirrors are written in.
-/
import Derived.Test.YtgopfpmkbdhnnaaGreatDoorCkLim
import Derived.KernelRfl
set_option linter.unusedVariables false
namespace Ck
open Go

def newV (f : Nat → Option (Value × Blk)) (H : Heap) : Option (Value × Heap) := (f H.next).map fun x => (x.1, H.new x.2)
def stX (n : Nat) (a x : Value) (H : Heap) : Option (Value × Heap) := (stV n a x H).map fun H' => (undef, H')
def mapupdX (kk : KeyK) (m k v : Value) (H : Heap) : Option (Value × Heap) := (mapupdV kk m k v H).map fun H' => (undef, H')
def sameV (x : Value) : Option Value := match x with
  | .string s => some (.string s)
  | _ => none
def movV (x : Value) : Option Value := some x
def ptrTo (b : Nat) : Value := .pointer (some ⟨b, 0, none⟩)

theorem call_eqM {tbl : FuncId → Option AF} (f : FuncId) (args : List Value) (H : Heap) :
    call tbl f args H = match tbl f with
      | some F => execC (call tbl) F.body (env0 args) H (retK F.res)
      | none => call tbl f args H := by
  cases h : tbl f with
  | none => rfl
  | some F => exact call_eqC h args H

end Ck
