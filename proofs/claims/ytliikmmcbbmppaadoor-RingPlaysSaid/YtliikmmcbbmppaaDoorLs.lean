/- The helper Lists: two rows of rows of bytes that hold the same bytes. -/
import Derived.Test.YtliikmmcbbmppaaDoorHp
import Derived.Laws.BytesArg
namespace Go.Proofs.YtliikmmcbbmppaaDoor
open Go.RowKit Go.ChangeMaps

theorem conv_row {w : World} {x : Value} {n : Nat} {zs : List Int} (h : RowAt w 5 1 x n (bytesV zs)) : (convert 36 9 x).run Tryd.prog w = .ok (.string (strOfNums zs)) w := by
  have hl : zs.length = n := by simpa [bytesV_len] using h.1
  subst hl
  obtain ⟨ao, cap, rfl, hnc, hcm, hao⟩ := h.shape
  cases ao with
  | none =>
    have : zs = [] := List.eq_nil_of_length_eq_zero (hao rfl)
    subst this
    exact run_convert_bytes_nil w 36 5 Tryd.underlying36 Tryd.underlying5 _ _ 9 Tryd.underlying9
  | some ad =>
    obtain ⟨g, off, hv⟩ : ∃ g off, ad = ⟨g, off, none⟩ := by
      rcases h.2 with ⟨h0, _⟩ | ⟨g, off, cap', cur, h0, _⟩
      · cases h0
      · exact ⟨g, off, by cases h0; rfl⟩
    subst hv
    refine run_convert_bytes_arg w 36 5 Tryd.underlying36 Tryd.underlying5 g off _ cap zs rfl (fun i hi => ?_) 9 Tryd.underlying9
    have hu : (bytesV zs)[i]? = some (.int .u8 (zs.getD i 0)) := by simp [bytesV, List.getElem?_eq_getElem hi, List.getD]
    exact (RowAt.cell h hu).1

set_option maxRecDepth 100000 in
set_option maxHeartbeats 1000000 in
theorem lists_same {w : World} {v v' : Value} {n : Nat} {xs ys : List Value} (h : RowAt w 36 1 v n xs) (h' : RowAt w 36 1 v' n ys) (hn : n ≤ 1000)
    (hb : ∀ i, i < n → ∃ x y m k zs, xs[i]? = some x ∧ ys[i]? = some y ∧ RowAt w 5 1 x m (bytesV zs) ∧ RowAt w 5 1 y k (bytesV zs)) :
    Calls Tryd.prog 21 #[v, v'] w fun e w' => e = .returned (.bool true) ∧ Chg [] w w' := by
  obtain ⟨ao, cap, rfl, hnc, hcm, hao⟩ := h.shape
  obtain ⟨ao', cap', rfl, hnc', hcm', hao'⟩ := h'.shape
  have H := hide h
  have H' := hide h'
  have HB := hide hb
  clear h hao h' hao' hb
  go_enter Tryd.func21, Tryd.ntmps21
  go_wp2_with fail
  go_loopg [5] n (fun gk s5 wr => ∃ i : Nat, i ≤ n ∧ s5 = .int .i64 i ∧ gk = n - i ∧ Chg [] w wr)
  case atStart => exact ⟨0, Nat.zero_le _, rfl, rfl, Chg.refl _ _⟩
  case round =>
    obtain ⟨i, hil, rfl, rfl, hc⟩ := hrel
    have HC := hide hc
    clear hc
    by_cases hin : i < n
    · obtain ⟨g, off, e1⟩ : ∃ g off, ao = some ⟨g, off, none⟩ := by
        rcases H.out.2 with ⟨_, h0⟩ | ⟨g, off, cap', cur, h0, _⟩
        · omega
        · exact ⟨g, off, by cases h0; rfl⟩
      obtain ⟨g', off', e2⟩ : ∃ g off, ao' = some ⟨g, off, none⟩ := by
        rcases H'.out.2 with ⟨_, h0⟩ | ⟨g, off, cap', cur, h0, _⟩
        · omega
        · exact ⟨g, off, by cases h0; rfl⟩
      subst e1 e2
      obtain ⟨x, y, m, k, zs, hx, hy, hrx, hry⟩ := HB.out i hin
      have hc1 := (RowAt.cell H.out hx).1
      have hc2 := (RowAt.cell H'.out hy).1
      have hc1 := (HC.out.cell (World.block_lt_of_cell? _ _ hc1) (by simp)).trans hc1
      have hc2 := (HC.out.cell (World.block_lt_of_cell? _ _ hc2) (by simp)).trans hc2
      have hv1 : ∀ dst, dst = 9 → (convert 36 dst x).run Tryd.prog wr = .ok (.string (strOfNums zs)) wr := fun _ e => e ▸ conv_row (hrx.chg HC.out (by simp))
      have hv2 : ∀ dst, dst = 9 → (convert 36 dst y).run Tryd.prog wr = .ok (.string (strOfNums zs)) wr := fun _ e => e ▸ conv_row (hry.chg HC.out (by simp))
      have hrx' := hide (hrx.chg HC.out (by simp))
      have hry' := hide (hry.chg HC.out (by simp))
      have hiz : (i : Int) < (n : Int) := by omega
      clear hx hy hrx hry hv1 hv2
      go_wp2_with fail
      refine wp_region_tk [(0, 0), (1, 0), (2, 0), (3, 1), (4, 1), (5, 0), (6, 0), (7, 0), (8, 1), (9, 1), (10, 0)] 11 (fun w' => (w'.cell? ⟨g, off + i, none⟩ = some x ∧ w'.cell? ⟨g', off' + i, none⟩ = some y) ∧ RowAt w' 5 1 x m (bytesV zs) ∧ RowAt w' 5 1 y k (bytesV zs)) (by kernel_rfl) (by kernel_rfl) (by kernel_rfl) rfl (by intro d v c a w h; cases d <;> exact h) ⟨⟨hc1, hc2⟩, hrx'.out, hry'.out⟩ ?_
      simp only [tkList, List.filterMap_cons, List.filterMap_nil, List.getElem?_toArray, List.getElem?_cons_zero, List.getElem?_cons_succ, Option.map_some, guardAt, Option.map_none, Oper.bare]
      apply wpTk_p rfl
      · intro _; first | rfl | (go_simp; rfl)
      (try simp only [Act.put]); (try go_simp)
      apply wpTk_p rfl
      · intro _; first | rfl | (go_simp; rfl)
      (try simp only [Act.put]); (try go_simp)
      apply wpTk_p rfl
      · intro _; first | rfl | (go_simp; rfl)
      (try simp only [Act.put]); (try go_simp)
      (apply wpTk_h rfl; · (intro w' hS; obtain ⟨⟨ha, hb⟩, _⟩ := hS; go_simp; rfl)); (try simp only [Act.put]); (try go_simp)
      (apply wpTk_h rfl; · (intro w' hS; obtain ⟨_, hS, _⟩ := hS; have hr := conv_row hS; clear hS; go_simp; rfl)); (try simp only [Act.put]); (try go_simp)
      apply wpTk_p rfl
      · intro _; first | rfl | (go_simp; rfl)
      (try simp only [Act.put]); (try go_simp)
      apply wpTk_p rfl
      · intro _; first | rfl | (go_simp; rfl)
      (try simp only [Act.put]); (try go_simp)
      apply wpTk_p rfl
      · intro _; first | rfl | (go_simp; rfl)
      (try simp only [Act.put]); (try go_simp)
      (apply wpTk_h rfl; · (intro w' hS; obtain ⟨⟨ha, hb⟩, _⟩ := hS; go_simp; rfl)); (try simp only [Act.put]); (try go_simp)
      (apply wpTk_h rfl; · (intro w' hS; obtain ⟨_, _, hS⟩ := hS; have hr := conv_row hS; clear hS; go_simp; rfl)); (try simp only [Act.put]); (try go_simp)
      apply wpTk_p rfl
      · intro _; first | rfl | (go_simp; rfl)
      (try simp only [Act.put]); (try go_simp)
      apply wpTk_nil
      go_wp2_with fail
      go_roundg (n - (i + 1))
      case measure => omega
      case rel => exact ⟨i + 1, by omega, by simp, rfl, HC.out.drew⟩
    · obtain rfl : i = n := by omega
      have hiz : ¬ ((i : Int) < (i : Int)) := by omega
      go_wp2_with fail
      go_ret
      exact ⟨rfl, HC.out⟩
end Go.Proofs.YtliikmmcbbmppaaDoor
