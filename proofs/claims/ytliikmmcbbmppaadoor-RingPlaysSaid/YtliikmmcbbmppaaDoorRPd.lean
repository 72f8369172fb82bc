/- Pending of the reference's ring. -/
import Derived.Test.YtliikmmcbbmppaaDoorROut
namespace Go.Proofs.YtliikmmcbbmppaaDoor
open Go.RowKit Go.ChangeMaps

set_option maxRecDepth 100000 in
set_option maxHeartbeats 2000000 in
theorem rpending_any {w : World} {R M : Nat} {size : Int} {lv : Value} {Q : List RecL} (h : RingR w R M size lv Q) (hQ : Q.length ≤ 1000) :
    Calls Tryd.prog 28 #[.pointer (some ⟨R, 0, none⟩)] w (PendPost w (apend (Q.map RecL.abs))) := by
  rw [pids_abs]
  obtain ⟨i0, hi, hz0, hz1, hz2⟩ := info_parts Tryd.info3
  have hRl := lt_of_blk h.root
  have hc2 : w.cell? ⟨R, 2, none⟩ = some lv := by rw [cell_of_row w R 2 _ _ _ h.root]; rfl
  obtain ⟨ao, cap, rfl, hnc, hcm, hao⟩ := h.row.shape
  have H := hide h
  have HC2 := hide hc2
  clear h hao hc2
  go_enter Tryd.func28, Tryd.ntmps28
  go_wp2_with fail
  go_loopg [3, 4] Q.length (fun gk s3 s4 wr => ∃ i : Nat, i ≤ Q.length ∧ s4 = .int .i64 i ∧ gk = Q.length - i ∧ PdInv w wr (pids (Q.take i)) s3)
  case atStart => exact ⟨0, Nat.zero_le _, rfl, rfl, ⟨RowAt.nil _ _ _, Chg.refl _ _, by simp [Value.ownBlock]⟩⟩
  case round =>
    obtain ⟨i, hil, rfl, rfl, hinv⟩ := hrel
    have HI := hide hinv
    clear hinv
    have hc2 := (HI.out.chg.cell (p := ⟨R, 2, none⟩) hRl (by simp)).trans HC2.out
    by_cases hin : i < Q.length
    · obtain ⟨q, hq⟩ : ∃ q, Q[i]? = some q := ⟨Q[i], by simp [hin]⟩
      obtain ⟨g, off, hao'⟩ : ∃ g off, ao = some ⟨g, off, none⟩ := by
        rcases H.out.row.2 with ⟨_, h0⟩ | ⟨g, off, cap', cur, h0, _⟩
        · omega
        · exact ⟨g, off, by cases h0; rfl⟩
      subst hao'
      have hgl : g < w.heap.size := H.out.row.lt g rfl
      obtain ⟨hg0, _, hg2, _⟩ := H.out.cells hq
      have hg0 := (HI.out.chg.cell (p := ⟨g, off + i * 4, none⟩) hgl (by simp)).trans hg0
      have hg2 := (HI.out.chg.cell (p := ⟨g, off + i * 4 + 2, none⟩) hgl (by simp)).trans hg2
      have hts := hide (take_snoc hq)
      have hiz : (i : Int) < (Q.length : Int) := by omega
      have hpl : (pids (Q.take i)).length ≤ 1000 := by have := pids_le (Q.take i); simp at this; omega
      clear hq
      by_cases hst : q.st = 0
      · have hst' : (q.st : Int) = 0 := by omega
        go_wp2_with (first | (at_builtin; refine wpList_append_rowat _ rfl (.tmp 23) (.tmp 32) 54 rfl 3 i0 (.int .i64 0) 1 8 Tryd.underlying54 hi hz0 hz1 hz2 rfl _ (pids (Q.take i)).length _ rfl (by exact HI.out.row.alloc _) ⟨wr.heap.size, 0, none⟩ 1 1 [.int .i64 q.id] rfl rfl (by exact news_one _ _ _ _ (by simp)) (by simp [Value.oneCell']) (by omega) (by unfold maxLen; omega) (by omega) (wr.heap.size + 1) (by simp) ?_; intro g2 off2 cap2 w1 hr1 hch1 hg1 hlt1; have HR1 := hide hr1; have HG1 := hide hg1; have HC1 := hide ((((Chg.refl _ wr).alloc _)).trans hch1 (fun x hx => .inl hx)); clear hr1 hg1 hch1))
        go_roundg (Q.length - (i + 1))
        case measure => omega
        case rel =>
          refine ⟨i + 1, by omega, by simp, rfl, ?_⟩
          rw [hts.out, pids_snoc, if_pos hst]
          exact HI.out.snoc HR1.out HC1.out (by rcases HG1.out with e | e; exact .inl e; exact .inr (by omega))
      · have hst' : ¬ ((q.st : Int) = 0) := by omega
        go_wp2_with fail
        go_roundg (Q.length - (i + 1))
        case measure => omega
        case rel =>
          refine ⟨i + 1, by omega, by simp, rfl, ?_⟩
          rw [hts.out, pids_snoc, if_neg hst, List.append_nil]
          exact HI.out
    · obtain rfl : i = Q.length := by omega
      have hiz : ¬ ((Q.length : Int) < (Q.length : Int)) := by omega
      go_wp2_with fail
      go_ret
      rw [List.take_length] at HI
      exact ⟨_, rfl, HI.out.row, HI.out.chg, HI.out.new⟩
end Go.Proofs.YtliikmmcbbmppaaDoor
