/- Read of the reference's ring: the walk. -/
import Derived.Test.YtliikmmcbbmppaaDoorRRd2
namespace Go.Proofs.YtliikmmcbbmppaaDoor
open Go.RowKit Go.ChangeMaps

set_option maxRecDepth 100000 in
set_option maxHeartbeats 1000000 in
theorem rread_any {w : World} {M R : Nat} {v lv : Value} {L : List RegL} {size : Int} {Q : List RecL} (h : AllR w M R v L size lv Q) (hQ : Q.length ≤ 1000) :
    Calls Tryd.prog 20 #[.pointer (some ⟨R, 0, none⟩)] w (RReadPost w M R v L size lv Q) := by
  obtain ⟨i0, hi, hz0, hz1, hz2⟩ := info_parts Tryd.info36
  obtain ⟨i1, hi1, hy0, hy1, hy2⟩ := info_parts Tryd.info76
  have hRl := lt_of_blk h.ring.root
  have hc2 : w.cell? ⟨R, 2, none⟩ = some lv := by rw [cell_of_row w R 2 _ _ _ h.ring.root]; rfl
  have hf2 : w.frozen? ⟨R, 2, none⟩ = false := by simp [World.frozen?, h.ring.root]
  obtain ⟨ao, cap, rfl, hnc, hcm, hao⟩ := h.ring.row.shape
  have H := hide h
  have HC2 := hide hc2
  have HF2 := hide hf2
  clear h hao hc2 hf2
  go_enter Tryd.func20, Tryd.ntmps20
  go_wp2_with fail
  go_loopg [3, 4] Q.length (fun gk s3 s4 wr => ∃ i : Nat, i ≤ Q.length ∧ s4 = .int .i64 i ∧ gk = Q.length - i ∧ RdR w wr Q i s3)
  case atStart => exact ⟨0, Nat.zero_le _, rfl, rfl, ⟨by simp, Chg.refl _ _, RowAt.nil _ _ _, by simp [Value.ownBlock]⟩⟩
  case round =>
    obtain ⟨i, hil, rfl, rfl, hinv⟩ := hrel
    have HI := hide hinv
    clear hinv
    have hc2 := (HI.out.chg.cell (p := ⟨R, 2, none⟩) hRl (by simp)).trans HC2.out
    have hf2 := (HI.out.chg.frozen (p := ⟨R, 2, none⟩) hRl (by simp)).trans HF2.out
    by_cases hin : i < Q.length
    · obtain ⟨q, hq⟩ : ∃ q, Q[i]? = some q := ⟨Q[i], by simp [hin]⟩
      obtain ⟨g, off, hao'⟩ : ∃ g off, ao = some ⟨g, off, none⟩ := by
        rcases H.out.ring.row.2 with ⟨_, h0⟩ | ⟨g, off, cap', cur, h0, _⟩
        · omega
        · exact ⟨g, off, by cases h0; rfl⟩
      subst hao'
      have hgl : g < w.heap.size := H.out.ring.row.lt g rfl
      obtain ⟨_, _, hg2, hg3⟩ := H.out.ring.cells hq
      have hg2 := (HI.out.chg.cell (p := ⟨g, off + i * 4 + 2, none⟩) hgl (by simp)).trans hg2
      have hg3 := (HI.out.chg.cell (p := ⟨g, off + i * 4 + 3, none⟩) hgl (by simp)).trans hg3
      have hts := hide (take_snoc hq)
      have hiz : (i : Int) < (Q.length : Int) := by omega
      have HQ := hide hq
      clear hq
      by_cases hst : q.st = 0
      · have hst' : (q.st : Int) = 0 := by omega
        have hdr := fun w => run_drop Tryd.underlying68 hi1 hy1 g off Q.length cap i hil w
        go_wp2_with fail
        go_ret
        have hhd : ∀ q', (Q.drop i).head? = some q' → q'.st = 0 := by
          intro q' hq'
          rw [List.head?_drop, HQ.out] at hq'
          cases hq'
          exact hst
        have hrw := RowAt.drop (i := i) H.out.ring.row hil
        rw [cellsR_drop] at hrw
        exact rrd_end H.out HI.out hil hhd hrw rfl
      · have hst' : ¬ ((q.st : Int) = 0) := by omega
        by_cases h1 : q.st = 1
        · have h1' : (q.st : Int) = 1 := by omega
          have hol : (outs (Q.take i)).length ≤ 1000 := by
            have := List.length_filter_le (fun q : RecL => q.st == 1) (Q.take i)
            unfold outs
            simp at this ⊢
            omega
          have hbv : q.bval = .slice (some ⟨q.bb, q.bo, none⟩) q.n q.cap := by simp [RecL.bval, hst]
          go_wp2_with (first | (at_builtin; refine wpList_append_rowat _ rfl (.tmp 32) (.tmp 41) 48 rfl 36 i0 (.slice none 0 0) 1 24 Tryd.underlying48 hi hz0 hz1 hz2 rfl _ (outs (Q.take i)).length _ rfl (by exact HI.out.out.alloc _) ⟨wr.heap.size, 0, none⟩ 1 1 [.slice (some ⟨q.bb, q.bo, none⟩) q.n q.cap] rfl rfl (by exact news_one _ _ _ _ (by simp)) (by simp [Value.oneCell']) (by omega) (by unfold maxLen; omega) (by omega) (wr.heap.size + 1) (by simp) ?_; intro g2 off2 cap2 w1 hr1 hch1 hg1 hlt1; have HR1 := hide hr1; have HG1 := hide hg1; have HC1 := hide ((((Chg.refl _ wr).alloc _)).trans hch1 (fun x hx => .inl hx)); clear hr1 hg1 hch1))
          go_roundg (Q.length - (i + 1))
          case measure => omega
          case rel =>
            refine ⟨i + 1, by omega, by simp, rfl, ?_⟩
            have hsn := outs_snoc (Q.take i) q
            rw [if_pos h1] at hsn
            refine ⟨fun p hp => ?_, HI.out.chg.trans HC1.out fun y hy => .inr (HI.out.new y (by rwa [Option.mem_toList] at hy)), ?_, fun k hk => ?_⟩
            · rw [hts.out, List.mem_append] at hp
              rcases hp with hp | hp
              · exact HI.out.done p hp
              · obtain rfl := List.mem_singleton.1 hp; exact hst
            · rw [hts.out, hsn]; simpa [hbv] using HR1.out
            · have : g2 = k := by simpa [Value.ownBlock] using hk
              subst this
              rcases HG1.out with e | e
              · exact HI.out.new _ e
              · have := HI.out.chg.size; omega
        · have h1' : ¬ ((q.st : Int) = 1) := by omega
          go_wp2_with fail
          go_roundg (Q.length - (i + 1))
          case measure => omega
          case rel =>
            refine ⟨i + 1, by omega, by simp, rfl, ?_⟩
            have hsn := outs_snoc (Q.take i) q
            rw [if_neg h1, List.append_nil] at hsn
            refine ⟨fun p hp => ?_, HI.out.chg, ?_, HI.out.new⟩
            · rw [hts.out, List.mem_append] at hp
              rcases hp with hp | hp
              · exact HI.out.done p hp
              · obtain rfl := List.mem_singleton.1 hp; exact hst
            · rw [hts.out, hsn]; exact HI.out.out
    · obtain rfl : i = Q.length := by omega
      have hiz : ¬ ((Q.length : Int) < (Q.length : Int)) := by omega
      have hhd : ∀ q', (Q.drop Q.length).head? = some q' → q'.st = 0 := by simp
      rcases H.out.ring.row.2 with ⟨h0, hz⟩ | ⟨g, off, cap', cur, h0, _⟩
      · simp only [Value.slice.injEq] at h0
        obtain ⟨rfl, _, rfl⟩ := h0
        obtain rfl : Q = [] := List.eq_nil_of_length_eq_zero hz
        have hdr : ∀ w, (Instr.slice 68 (.slice none 0 0) (some (.int .i64 0)) none none).run Tryd.prog w = .ok (.slice none 0 0) w := fun w => by
          simp [Instr.slice, run_underlying Tryd.underlying68, Instr.sliceBounds, sizeOf, typeInfo, hi1, go_sem]
        simp only [List.length_nil] at hc2 hiz HI
        go_wp2_with fail
        go_ret
        exact rrd_end H.out HI.out (by simp) (by simp) (RowAt.nil _ _ _) rfl
      · simp only [Value.slice.injEq] at h0
        obtain ⟨rfl, _, rfl⟩ := h0
        have hdr := fun w => run_drop Tryd.underlying68 hi1 hy1 g off Q.length cap Q.length (Nat.le_refl _) w
        go_wp2_with fail
        go_ret
        have hrw := RowAt.drop (i := Q.length) H.out.ring.row (Nat.le_refl _)
        rw [cellsR_drop] at hrw
        exact rrd_end H.out HI.out (Nat.le_refl _) hhd (by rw [Nat.sub_self] at hrw ⊢; exact hrw) rfl
end Go.Proofs.YtliikmmcbbmppaaDoor
