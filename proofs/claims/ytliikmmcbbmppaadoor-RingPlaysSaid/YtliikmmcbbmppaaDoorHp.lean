/- The helpers: Spoil, Ints. -/
import Derived.Test.YtliikmmcbbmppaaDoorRRd3
namespace Go.Proofs.YtliikmmcbbmppaaDoor
open Go.RowKit Go.ChangeMaps

set_option maxRecDepth 100000 in
set_option maxHeartbeats 1000000 in
theorem spoil_any {w : World} {v : Value} {n : Nat} {xs : List Value} (h : RowAt w 5 1 v n xs) (hn : n ≤ 9223372036854775807) :
    Calls Tryd.prog 18 #[v] w fun e w' => (∃ u, e = .returned u) ∧ Chg v.ownBlock.toList w w' := by
  obtain ⟨ao, cap, rfl, hnc, hcm, hao⟩ := h.shape
  have H := hide h
  clear h hao
  go_enter Tryd.func18, Tryd.ntmps18
  go_wp2_with fail
  go_loopg [2] n (fun gk s2 wr => ∃ i : Nat, i ≤ n ∧ s2 = .int .i64 i ∧ gk = n - i ∧ Chg (Value.slice ao n cap).ownBlock.toList w wr ∧ ∃ ys, RowAt wr 5 1 (.slice ao n cap) n ys)
  case atStart => exact ⟨0, Nat.zero_le _, rfl, rfl, Chg.refl _ _, xs, H.out⟩
  case round =>
    obtain ⟨i, hil, rfl, rfl, hc, ys, hr⟩ := hrel
    have HC := hide hc
    have HR := hide hr
    clear hc hr
    by_cases hin : i < n
    · obtain ⟨g, off, hao'⟩ : ∃ g off, ao = some ⟨g, off, none⟩ := by
        rcases HR.out.2 with ⟨_, h0⟩ | ⟨g, off, cap', cur, h0, _⟩
        · omega
        · exact ⟨g, off, by cases h0; rfl⟩
      subst hao'
      obtain ⟨u, hu⟩ : ∃ u, ys[i]? = some u := ⟨ys[i]'(by have := HR.out.1; omega), by simp⟩
      obtain ⟨hc1, hf1⟩ := RowAt.cell HR.out hu
      have hiz : (i : Int) < (n : Int) := by omega
      clear hu
      go_wp2_with fail
      go_roundg (n - (i + 1))
      case measure => omega
      case rel => exact ⟨i + 1, by omega, by simp, rfl, HC.out.setCell _ (by simp [Value.ownBlock]) _, _, RowAt.setCell HR.out _⟩
    · obtain rfl : i = n := by omega
      have hiz : ¬ ((i : Int) < (i : Int)) := by omega
      go_wp2_with fail
      go_end0
      exact ⟨⟨_, rfl⟩, HC.out⟩

set_option maxRecDepth 100000 in
set_option maxHeartbeats 1000000 in
theorem ints_same {w : World} {v v' : Value} {xs : List Int} (h : RowAt w 3 1 v xs.length (intsV xs)) (h' : RowAt w 3 1 v' xs.length (intsV xs)) (hn : xs.length ≤ 1000) :
    Calls Tryd.prog 26 #[v, v'] w fun e w' => e = .returned (.bool true) ∧ Chg [] w w' := by
  obtain ⟨ao, cap, rfl, hnc, hcm, hao⟩ := h.shape
  obtain ⟨ao', cap', rfl, hnc', hcm', hao'⟩ := h'.shape
  have H := hide h
  have H' := hide h'
  clear h hao h' hao'
  go_enter Tryd.func26, Tryd.ntmps26
  go_wp2_with fail
  go_loopg [5] xs.length (fun gk s5 wr => ∃ i : Nat, i ≤ xs.length ∧ s5 = .int .i64 i ∧ gk = xs.length - i ∧ Chg [] w wr)
  case atStart => exact ⟨0, Nat.zero_le _, rfl, rfl, Chg.refl _ _⟩
  case round =>
    obtain ⟨i, hil, rfl, rfl, hc⟩ := hrel
    have HC := hide hc
    clear hc
    by_cases hin : i < xs.length
    · obtain ⟨g, off, e1⟩ : ∃ g off, ao = some ⟨g, off, none⟩ := by
        rcases H.out.2 with ⟨_, h0⟩ | ⟨g, off, cap', cur, h0, _⟩
        · omega
        · exact ⟨g, off, by cases h0; rfl⟩
      obtain ⟨g', off', e2⟩ : ∃ g off, ao' = some ⟨g, off, none⟩ := by
        rcases H'.out.2 with ⟨_, h0⟩ | ⟨g, off, cap', cur, h0, _⟩
        · omega
        · exact ⟨g, off, by cases h0; rfl⟩
      subst e1 e2
      obtain ⟨x, hx⟩ : ∃ x, xs[i]? = some x := ⟨xs[i], by simp⟩
      have hu : (intsV xs)[i]? = some (.int .i64 x) := by simp [intsV, hx]
      have hc1 := (RowAt.cell H.out hu).1
      have hc2 := (RowAt.cell H'.out hu).1
      have hc1 := (HC.out.cell (World.block_lt_of_cell? _ _ hc1) (by simp)).trans hc1
      have hc2 := (HC.out.cell (World.block_lt_of_cell? _ _ hc2) (by simp)).trans hc2
      have hiz : (i : Int) < (xs.length : Int) := by omega
      clear hu hx
      go_wp2_with fail
      refine wp_region_tk [(0, 0), (1, 0), (2, 0), (3, 1), (4, 0), (5, 0), (6, 0), (7, 1), (8, 0)] 9 (fun w' => w'.cell? ⟨g, off + i, none⟩ = some (.int .i64 x) ∧ w'.cell? ⟨g', off' + i, none⟩ = some (.int .i64 x)) (by kernel_rfl) (by kernel_rfl) (by kernel_rfl) rfl (by intro d v c a w h; cases d <;> exact h) ⟨hc1, hc2⟩ ?_
      simp only [tkList, List.filterMap_cons, List.filterMap_nil, List.getElem?_toArray, List.getElem?_cons_zero, List.getElem?_cons_succ, Option.map_some, guardAt, Option.map_none, Oper.bare]
      apply wpTk_p rfl
      · intro _; first | rfl | (go_simp; rfl)
      (try simp only [Act.put]); (try go_simp)
      apply wpTk_p rfl
      · intro _; first | rfl | (go_simp; rfl)
      (try simp only [Act.put]); (try go_simp)
      apply wpTk_p rfl
      · intro _; first | rfl | (go_simp; rfl)
      (try simp only [Act.put]); (try go_simp)
      apply wpTk_h rfl
      · intro w' hS; (try dsimp only at hS); go_simp; rfl
      (try simp only [Act.put]); (try go_simp)
      apply wpTk_p rfl
      · intro _; first | rfl | (go_simp; rfl)
      (try simp only [Act.put]); (try go_simp)
      apply wpTk_p rfl
      · intro _; first | rfl | (go_simp; rfl)
      (try simp only [Act.put]); (try go_simp)
      apply wpTk_p rfl
      · intro _; first | rfl | (go_simp; rfl)
      (try simp only [Act.put]); (try go_simp)
      apply wpTk_h rfl
      · intro w' hS; (try dsimp only at hS); go_simp; rfl
      (try simp only [Act.put]); (try go_simp)
      apply wpTk_p rfl
      · intro _; first | rfl | (go_simp; rfl)
      (try simp only [Act.put]); (try go_simp)
      apply wpTk_nil
      go_wp2_with fail
      go_roundg (xs.length - (i + 1))
      case measure => omega
      case rel => exact ⟨i + 1, by omega, by simp, rfl, HC.out.drew⟩
    · obtain rfl : i = xs.length := by omega
      have hiz : ¬ ((xs.length : Int) < (xs.length : Int)) := by omega
      go_wp2_with fail
      go_ret
      exact ⟨rfl, HC.out⟩
end Go.Proofs.YtliikmmcbbmppaaDoor
