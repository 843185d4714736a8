/-
The fixed module.
-/
import Derived.Test.YtgopfpmkbdhnnaaGreatDoorCkRd
import Derived.Test.YtgopfpmkbdhnnaaGreatDoorCkKeep
set_option linter.unusedSimpArgs false
set_option linter.unusedVariables false
namespace Ck
open Go

def ins (op : Int) : Ins := ⟨op, 0, 0, 0, [], 0⟩
def insA (op a : Int) : Ins := ⟨op, a, 0, 0, [], 0⟩
def insN (op n : Int) : Ins := ⟨op, 0, 0, n, [], 0⟩
def insT (op t : Int) : Ins := ⟨op, 0, 0, 0, [], t⟩
def bs (l : List UInt8) : ByteArray := ⟨l.toArray⟩

def FM : Mo where
  types := [⟨[], []⟩, ⟨[127], [127]⟩, ⟨[], [127]⟩, ⟨[127, 127], []⟩]
  funcs := [1, 2, 0, 0, 3, 1, 1, 0]
  tables := []
  mems := [⟨1, 0, false⟩]
  globals := [⟨127, true, [ins 65, ins 11]⟩]
  exports := [⟨bs [105, 110, 99], 0, 0⟩, ⟨bs [103, 101, 116], 0, 1⟩, ⟨bs [115, 112, 105, 110], 0, 2⟩, ⟨bs [116, 114, 97, 112], 0, 3⟩, ⟨bs [112, 117, 116], 0, 4⟩, ⟨bs [112, 101, 101, 107], 0, 5⟩, ⟨bs [119, 111, 114, 107], 0, 6⟩, ⟨bs [100, 101, 101, 112], 0, 7⟩]
  starts := false
  start := 0
  elems := []
  counts := false
  count := 0
  codes := [
    ⟨[], [ins 35, ins 32, ins 106, ins 36, ins 35, ins 11]⟩,
    ⟨[], [ins 35, ins 11]⟩,
    ⟨[], [insN 65 99, ins 36, insT 3 (-64), ins 12, ins 11, ins 11]⟩,
    ⟨[], [ins 35, insN 65 1000, ins 106, ins 36, ins 0, ins 11]⟩,
    ⟨[], [ins 32, insA 32 1, ins 58, ins 11]⟩,
    ⟨[], [ins 32, ins 45, ins 11]⟩,
    ⟨[], [insT 2 (-64), insT 3 (-64), ins 32, ins 69, insA 13 1, ins 32, insN 65 1, ins 107, ins 33, ins 35, insN 65 1, ins 106, ins 36, ins 12, ins 11, ins 11, ins 35, ins 11]⟩,
    ⟨[], [insN 65 5, ins 36, insA 16 7, ins 11]⟩]
  datas := []

theorem fixed_run {n : Nat} {g : BF} (h : ((callK tbl 200 37 [] ⟨n, g⟩).bind fun x => rdMo x.2.blk x.1) = some FM) : ∃ v H, call tbl 37 [] ⟨n, g⟩ = some (v, H) ∧ rdMo H.blk v = some FM := by
  simp only [Option.bind_eq_some_iff] at h
  obtain ⟨⟨v, H⟩, h1, h2⟩ := h
  exact ⟨v, H, call_of_K h1, h2⟩

theorem fixed_169 (g : BF) : ∃ v H, call tbl 37 [] ⟨169, g⟩ = some (v, H) ∧ rdMo H.blk v = some FM := fixed_run (by kernel_rfl)

theorem begun20 (h0 : BF) : ∃ g, call tbl 52 [] ⟨3, h0⟩ = some (.bool true, ⟨169, g⟩) := by
  have h : (callK tbl 200 52 [] ⟨3, h0⟩).map (fun x => (x.1, x.2.next)) = some (.bool true, 169) := by kernel_rfl
  simp only [Option.map_eq_some_iff, Prod.mk.injEq] at h
  obtain ⟨⟨v, H⟩, h1, rfl, h2⟩ := h
  exact ⟨H.blk, by rw [call_of_K h1, ← h2]⟩

end Ck
