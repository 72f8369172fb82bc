/- Making the program's memory and its ring. -/
import Derived.Test.YtliikmmcbbmppaaDoorPd
namespace Go.Proofs.YtliikmmcbbmppaaDoor
open Go.RowKit Go.ChangeMaps

def okSize (size : Int) : Prop := 8 ≤ size ∧ size ≤ 4096 ∧ size % 8 = 0
instance (size : Int) : Decidable (okSize size) := inferInstanceAs (Decidable (_ ∧ _ ∧ _))

theorem newmem_any (w : World) : Calls Tryd.prog 6 #[] w fun e w' => e = .returned (.pointer (some ⟨w.heap.size, 0, none⟩)) ∧ w' = w.alloc (.cells #[.slice none 0 0] 60) := by
  go_enter Tryd.func6, Tryd.ntmps6
  go_wp2_with fail
  go_ret
  exact ⟨rfl, rfl⟩

set_option maxHeartbeats 400000 in
theorem newring_bad (size : Int) (m : Value) (w : World) (h : ¬ okSize size) : Calls Tryd.prog 8 #[.int .i64 size, m] w fun e w' => e = .returned (.tuple #[.pointer none, .int .i64 100]) ∧ w = w' := by
  by_cases h1 : size < 8
  · go_enter Tryd.func8, Tryd.ntmps8
    go_wp2_with fail
    go_ret2
    exact ⟨rfl, rfl⟩
  · by_cases h2 : 4096 < size
    · go_enter Tryd.func8, Tryd.ntmps8
      go_wp2_with fail
      go_ret2
      exact ⟨rfl, rfl⟩
    · have h3 : (size % 8 != 0) = true := by
        have : ¬ (size % 8 = 0) := by unfold okSize at h; omega
        simpa using this
      clear h
      go_enter Tryd.func8, Tryd.ntmps8
      go_wp2_with fail
      go_ret2
      exact ⟨rfl, rfl⟩

set_option maxHeartbeats 400000 in
theorem newring_ok (size : Int) (M : Nat) (w : World) (h : okSize size) : Calls Tryd.prog 8 #[.int .i64 size, .pointer (some ⟨M, 0, none⟩)] w fun e w' =>
    e = .returned (.tuple #[.pointer (some ⟨w.heap.size + 1, 0, none⟩), .int .i64 0]) ∧ w' = (w.alloc (.map #[] 0)).alloc (.cells #[.int .i64 size, .int .i64 0, .pointer (some ⟨M, 0, none⟩), .slice none 0 0, .map (some w.heap.size)] 67) := by
  obtain ⟨h1, h2, h0⟩ := h
  have hmm : ∀ w : World, (Instr.makeMap 64 none).run Tryd.prog w = .ok (.map (some w.heap.size)) (w.alloc (.map #[] 0)) := fun w => rfl
  have h3 : (size % 8 != 0) = false := by simp [h0]
  clear h0
  go_enter Tryd.func8, Tryd.ntmps8
  go_wp2_with fail
  go_ret2
  exact ⟨rfl, rfl⟩
end Go.Proofs.YtliikmmcbbmppaaDoor
