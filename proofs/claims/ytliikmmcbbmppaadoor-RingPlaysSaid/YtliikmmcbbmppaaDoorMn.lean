/- The main walk. -/
import Derived.Test.YtliikmmcbbmppaaDoorMn0
namespace Go.Proofs.YtliikmmcbbmppaaDoor
open Go.RowKit Go.ChangeMaps

theorem opt_none {w : World} {Z : List Nat} : KeptZ Z w w := fun _ _ => rfl

set_option maxRecDepth 100000 in
set_option maxHeartbeats 4000000 in
theorem plays_bad {w : World} {ao : Option Addr} {l : List StepI} (size : Int) (hs : StepsIn w w.heap.size ao l) (cap : Nat) (hn : l.length ≤ cap) (hc : cap ≤ maxLen) (hf : fewB l = false) :
    Calls Tryd.prog 3 #[.int .i64 size, .slice ao l.length cap] w fun e w' => e = .returned (.bool true) ∧ Chg [] w w' := by
  have HS := hide hs
  clear hs
  go_enter Tryd.func3, Tryd.ntmps3
  go_wp2_with (first
    | (go_at_call 4; refine (known_any _).mono ?_; rintro e w1 ⟨rfl, hw1⟩; have HW := hide hw1; clear hw1)
    | (go_at_call 5; refine (few_any (by exact HS.out.chg HW.out) cap hn hc).mono ?_; rintro e w2 ⟨rfl, rfl⟩; rw [hf]))
  go_ret
  exact ⟨rfl, HW.out⟩

set_option maxRecDepth 100000 in
set_option maxHeartbeats 4000000 in
theorem plays_size {w : World} {ao : Option Addr} {l : List StepI} (size : Int) (hs : StepsIn w w.heap.size ao l) (cap : Nat) (hn : l.length ≤ cap) (hc : cap ≤ maxLen) (hf : fewB l = true) (ho : ¬ okSize size) :
    Calls Tryd.prog 3 #[.int .i64 size, .slice ao l.length cap] w fun e w' => e = .returned (.bool true) ∧ Chg [] w w' := by
  have HS := hide hs
  clear hs
  have HO := hide ho
  clear ho
  go_enter Tryd.func3, Tryd.ntmps3
  go_wp2_with (first
    | (go_at_call 4; refine (known_any _).mono ?_; rintro e w1 ⟨rfl, hw1⟩; have HW := hide hw1; clear hw1)
    | (go_at_call 5; refine (few_any (by exact HS.out.chg HW.out) cap hn hc).mono ?_; rintro e w2 ⟨rfl, rfl⟩; rw [hf])
    | (go_at_call 6; refine (newmem_any _).mono ?_; rintro e w2 ⟨rfl, hw2⟩; have HW2 := hide (hw2 ▸ HW.out.alloc _); clear hw2)
    | (go_at_call 7; refine (rnewmem_any _).mono ?_; rintro e w3 ⟨rfl, hw3⟩; have HW3 := hide (hw3 ▸ HW2.out.alloc _); clear hw3)
    | (go_at_call 8; refine (newring_bad size _ _ HO.out).mono ?_; rintro e w4 ⟨rfl, rfl⟩)
    | (go_at_call 9; refine (rnewring_bad size _ _ HO.out).mono ?_; rintro e w5 ⟨rfl, rfl⟩))
  go_ret
  exact ⟨rfl, HW3.out⟩
end Go.Proofs.YtliikmmcbbmppaaDoor
