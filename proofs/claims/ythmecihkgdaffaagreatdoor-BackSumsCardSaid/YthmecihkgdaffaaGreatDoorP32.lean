/- Part 32 of the proof of BackSums: works() answers true: its closed run. No conditions but those that each theorem names. -/
import Derived.Test.YthmecihkgdaffaaGreatDoorP31
namespace Go.X
open Go Go.Proofs
def hints (f : FuncId) : FHint := { fz := inL [171] f }
def saysTrue : Option (List S × S) → Bool
  | some ([], .one false [.d (.v (.bool true))]) => true
  | _ => false
theorem works_run : saysTrue (callA PP KT hints 200 30 10 []) = true := by kernel_rfl
theorem saysTrue_ok {r : Option (List S × S)} (h : saysTrue r = true) : r = some ([], bl true) := by
  unfold saysTrue at h
  split at h
  · rfl
  · cases h
theorem works_den : Den PP 10 [] [] (bl true) := callA_ok KT_ok 30 (saysTrue_ok works_run)
end Go.X
