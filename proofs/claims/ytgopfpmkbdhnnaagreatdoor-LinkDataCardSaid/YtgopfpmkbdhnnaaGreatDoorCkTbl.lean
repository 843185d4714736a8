/-
The program's table of code.
-/
import Derived.Test.YtgopfpmkbdhnnaaGreatDoorCkMir
import Derived.Test.YtgopfpmkbdhnnaaGreatDoorCkHints
import Derived.Test.YtgopfpmkbdhnnaaGreatDoorProg
namespace Ck
open Go Go.Proofs
noncomputable abbrev tbl : FuncId → Option AF := tblOf Tryz.prog hints
end Ck
