/- The main walk, whole. -/
import Derived.Test.YtliikmmcbbmppaaDoorMg
namespace Go.Proofs.YtliikmmcbbmppaaDoor
open Go.RowKit Go.ChangeMaps

theorem plays_any {w : World} {ao : Option Addr} {l : List StepI} (size : Int) (hs : StepsIn w w.heap.size ao l) (cap : Nat) (hn : l.length ≤ cap) (hc : cap ≤ maxLen) :
    Calls Tryd.prog 3 #[.int .i64 size, .slice ao l.length cap] w fun e w' => e = .returned (.bool true) ∧ Chg [] w w' := by
  cases hf : fewB l with
  | false => exact plays_bad size hs cap hn hc hf
  | true =>
    by_cases ho : okSize size
    · exact plays_ok size hs cap hn hc hf ho
    · exact plays_size size hs cap hn hc hf ho
#print axioms plays_any
end Go.Proofs.YtliikmmcbbmppaaDoor
