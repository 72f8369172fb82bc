/- Read of the program's ring: the walk. -/
import Derived.Test.YtliikmmcbbmppaaDoorRd
import Derived.Deep.LoopGhost
namespace Go.Proofs.YtliikmmcbbmppaaDoor
open Go.RowKit Go.ChangeMaps

theorem RdInv.drew {w wr : World} {R T M : Nat} {size : Int} {rv : Value} {Q P Q' : List RecL} {rv' ov : Value} (h : RdInv w wr R T M size rv Q P Q' rv' ov) : RdInv w wr.drew R T M size rv Q P Q' rv' ov :=
  ⟨h.split, h.done, h.chg.drew, h.root, h.row.drew, h.own, h.out.drew, h.new⟩
theorem used_cons (q : RecL) (Q : List RecL) : used (q :: Q) = takes q.n + used Q := by simp [used]

set_option maxRecDepth 100000 in
set_option maxHeartbeats 2000000 in
theorem read_any {w : World} {M R T : Nat} {v : Value} {L : List RegL} {size : Int} {rv : Value} {Q : List RecL} {E : List Ent} {clock : Nat} (h : AllM w M R T v L size rv Q E clock) (hQ : Q.length ≤ 1000) :
    Calls Tryd.prog 19 #[.pointer (some ⟨R, 0, none⟩)] w (ReadPost w M R T v L size rv Q E clock) := by
  obtain ⟨i0, hi, hz0, hz1, hz2⟩ := info_parts Tryd.info36
  obtain ⟨i1, hi1, hy0, hy1, hy2⟩ := info_parts Tryd.info71
  obtain ⟨i5, hi5, hx0, hx1, hx2⟩ := info_parts Tryd.info5
  have hRlt := lt_of_blk h.ring.root
  have hu0 : (used Q : Int) ≤ 4096 := by have := h.ring.le; have := h.ring.size; omega
  have H := hide h
  have HI0 : Hid (RdInv w w R T M size rv Q [] Q rv (.slice none 0 0)) := hide ⟨rfl, by simp, Chg.refl _ _, h.ring.root, h.ring.row, rfl, RowAt.nil _ _ _, by simp [Value.ownBlock]⟩
  clear h
  go_enter Tryd.func19, Tryd.ntmps19
  go_wp2_with fail
  go_loopg [3] Q.length (fun gk s3 wr => ∃ P Q' rv', RdInv w wr R T M size rv Q P Q' rv' s3 ∧ gk = Q'.length)
  case atStart => exact ⟨[], Q, rv, HI0.out, rfl⟩
  case round =>
    obtain ⟨P, Q', rv', hinv, rfl⟩ := hrel
    have HI := hide hinv
    have hc3 : wr.cell? ⟨R, 3, none⟩ = some rv' := by rw [cell_of_row wr R 3 _ _ _ hinv.root]; rfl
    obtain ⟨ao, cap, rfl, hnc, hcm, hao⟩ := hinv.row.shape
    cases Q' with
    | nil =>
      clear hinv hao
      simp only [List.length_nil] at hc3 HI
      go_wp2_with fail
      go_ret
      exact rd_end H.out HI.out (by simp)
    | cons q Q' =>
      obtain ⟨g, off, hao'⟩ : ∃ g off, ao = some ⟨g, off, none⟩ := by
        rcases hinv.row.2 with ⟨_, h0⟩ | ⟨g, off, cap', cur, h0, _⟩
        · simp at h0
        · exact ⟨g, off, by cases h0; rfl⟩
      subst hao'
      have hgc : wr.cell? ⟨g, off, none⟩ = some (.pointer (some ⟨q.blk, 0, none⟩)) := by
        have := (RowAt.cell hinv.row (j := 0) (u := .pointer (some ⟨q.blk, 0, none⟩)) (by simp)).1
        simpa using this
      have hqm : q ∈ Q := by rw [hinv.split]; simp
      obtain ⟨hqb, hqr⟩ := H.out.ring.recs q hqm
      have hqR : q.blk ≠ R := blk_ne hqb H.out.ring.root (by decide)
      have hqw := hinv.chg.keep hqb (by simpa using hqR)
      have hq2 : wr.cell? ⟨q.blk, 2, none⟩ = some (.int .i64 q.st) := by rw [cell_of_row wr _ 2 _ _ _ hqw]; rfl
      have hlen : (Q'.length + 1 : Int) > 0 := by omega
      have HQB := hide hqb
      have HQR := hide hqr
      have HQM := hide hqm
      have HQW := hide hqw
      clear hinv hao hqb hqr hqw hqm
      by_cases hst : q.st = 0
      · have hst' : (q.st : Int) = 0 := by omega
        go_wp2_with fail
        go_ret
        exact rd_end H.out HI.out (by simp [hst])
      · have hst' : ¬ ((q.st : Int) = 0) := by omega
        have hq1 : wr.cell? ⟨q.blk, 1, none⟩ = some (.int .i64 q.n) := by rw [cell_of_row wr _ 1 _ _ _ HQW.out]; rfl
        have hbv : q.bval = .slice (some ⟨q.bb, q.bo, none⟩) q.n q.cap := by simp [RecL.bval, hst]
        have hq3 : wr.cell? ⟨q.blk, 3, none⟩ = some (.slice (some ⟨q.bb, q.bo, none⟩) q.n q.cap) := by rw [cell_of_row wr _ 3 _ _ _ HQW.out, ← hbv]; rfl
        obtain ⟨hn1, hn2⟩ := H.out.ring.pos q HQM.out
        have hncq : q.n ≤ q.cap := by
          obtain ⟨ao', cap', e1, e2, _⟩ := (HQR.out hst).shape
          rw [hbv] at e1
          cases e1
          exact e2
        have hct := fun w => run_cut hi5 hx1 q.bb q.bo q.n q.cap hn1 hncq w
        have htl := fun w => run_tail Tryd.underlying65 hi1 hy1 g off (Q'.length + 1) cap (by omega) w
        simp only [Nat.add_sub_cancel] at htl
        have hule : used (q :: Q') ≤ 4096 := by
          have e : used Q = used P + used (q :: Q') := by rw [HI.out.split]; simp [used]
          omega
        have hus := used_cons q Q'
        have ht := takes_le q.n hn2
        have hwr : IntKind.i64.wrap (((used (q :: Q') : Nat) : Int) - (takes q.n : Nat)) = ((used Q' : Nat) : Int) := by rw [IntWalk.i64_in _ (by omega)]; omega
        have hc1 : wr.cell? ⟨R, 1, none⟩ = some (.int .i64 (used (q :: Q'))) := by rw [cell_of_row wr R 1 _ _ _ HI.out.root]; rfl
        have hf3 : wr.frozen? ⟨R, 3, none⟩ = false := by simp [World.frozen?, HI.out.root]
        have hf1 : wr.frozen? ⟨R, 1, none⟩ = false := by simp [World.frozen?, HI.out.root]
        have hbv0 := hide hbv
        clear hbv hus hule
        by_cases h1 : q.st = 1
        · have h1' : (q.st : Int) = 1 := by omega
          have hol : (outs P).length ≤ 1000 := by
            have e : Q.length = P.length + (Q'.length + 1) := by rw [HI.out.split]; simp
            have := List.length_filter_le (fun q : RecL => q.st == 1) P
            unfold outs
            omega
          go_wp2_with fail
          refine wp_region_tk [(0, 0), (1, 0), (2, 0), (3, 0), (4, 1), (5, 0), (6, 0), (7, 0), (8, 1), (9, 0), (10, 0), (11, 0), (12, 1), (13, 0), (14, 2), (15, 2), (16, 0)] 17 (fun w' => w'.cell? ⟨q.blk, 3, none⟩ = some (.slice (some ⟨q.bb, q.bo, none⟩) q.n q.cap) ∧ w'.cell? ⟨q.blk, 1, none⟩ = some (.int .i64 q.n)) (by kernel_rfl) (by kernel_rfl) (by kernel_rfl) rfl (by intro d v c a w h; cases d <;> exact h) ⟨hq3, hq1⟩ ?_
          simp only [tkList, List.filterMap_cons, List.filterMap_nil, List.getElem?_toArray, List.getElem?_cons_zero, List.getElem?_cons_succ, Option.map_some, guardAt, Option.map_none, Oper.bare]
          apply wpTk_p rfl
          · intro _; first | rfl | (go_simp; rfl)
          (try simp only [Act.put]); (try go_simp)
          apply wpTk_p rfl
          · intro _; first | rfl | (go_simp; rfl)
          (try simp only [Act.put]); (try go_simp)
          apply wpTk_p rfl
          · intro _; first | rfl | (go_simp; rfl)
          (try simp only [Act.put]); (try go_simp)
          apply wpTk_p rfl
          · intro _; first | rfl | (go_simp; rfl)
          (try simp only [Act.put]); (try go_simp)
          apply wpTk_h rfl
          · intro w' hS; (try dsimp only at hS); go_simp; rfl
          (try simp only [Act.put]); (try go_simp)
          apply wpTk_p rfl
          · intro _; first | rfl | (go_simp; rfl)
          (try simp only [Act.put]); (try go_simp)
          apply wpTk_p rfl
          · intro _; first | rfl | (go_simp; rfl)
          (try simp only [Act.put]); (try go_simp)
          apply wpTk_p rfl
          · intro _; first | rfl | (go_simp; rfl)
          (try simp only [Act.put]); (try go_simp)
          apply wpTk_h rfl
          · intro w' hS; (try dsimp only at hS); go_simp; rfl
          (try simp only [Act.put]); (try go_simp)
          apply wpTk_p rfl
          · intro _; first | rfl | (go_simp; rfl)
          (try simp only [Act.put]); (try go_simp)
          apply wpTk_p rfl
          · intro _; first | rfl | (go_simp; rfl)
          (try simp only [Act.put]); (try go_simp)
          apply wpTk_p rfl
          · intro _; first | rfl | (go_simp; rfl)
          (try simp only [Act.put]); (try go_simp)
          apply wpTk_h rfl
          · intro w' hS; (try dsimp only at hS); go_simp; rfl
          (try simp only [Act.put]); (try go_simp)
          apply wpTk_p rfl
          · intro _; first | rfl | (go_simp; rfl)
          (try simp only [Act.put]); (try go_simp)
          apply wpTk_l rfl
          intro K hK
          go_simp
          refine hK _ _ ?_ ?_
          · (go_keep)
          clear hK K
          (try simp only [Act.put]); (try go_simp)
          apply wpTk_l rfl
          intro K hK
          refine wp_append_rowat _ (.tmp 34) (.tmp 48) 48 rfl 36 i0 (.slice none 0 0) 1 24 Tryd.underlying48 hi hz0 hz1 hz2 rfl _ (outs P).length _ rfl (by exact HI.out.out.alloc _) ⟨wr.heap.size, 0, none⟩ 1 1 [cutv q] rfl rfl (by exact news_one _ _ _ _ (by simp)) (by simp [Value.oneCell', cutv]) (by omega) (by unfold maxLen; omega) (by omega) (wr.heap.size + 1) (by simp) ?_; intro g2 off2 cap2 w1 hr1 hch1 hg1 hlt1; have HR1 := hide hr1; have HG1 := hide hg1; obtain ⟨d1, d2, d3⟩ := rd_out HI.out hRlt ((((Chg.refl _ wr).alloc _).drew).trans hch1 (fun x hx => .inl hx)); have hqw1 := d1.keep HQB.out (by simpa using hqR); have D1 := hide d1; have D2 := hide d2; have D3 := hide d3; have hq1 : w1.cell? ⟨q.blk, 1, none⟩ = some (.int .i64 q.n) := (by rw [cell_of_row w1 _ 1 _ _ _ hqw1]; rfl); have hq3 : w1.cell? ⟨q.blk, 3, none⟩ = some (.slice (some ⟨q.bb, q.bo, none⟩) q.n q.cap) := (by rw [cell_of_row w1 _ 3 _ _ _ hqw1, ← hbv0.out]; rfl); have hc1 : w1.cell? ⟨R, 1, none⟩ = some (.int .i64 (used (q :: Q'))) := (by rw [cell_of_row w1 R 1 _ _ _ d2]; rfl); have hc3 : w1.cell? ⟨R, 3, none⟩ = some (.slice (some ⟨g, off, none⟩) (Q'.length + 1) cap) := (by rw [cell_of_row w1 R 3 _ _ _ d2]; rfl); have hf3 : w1.frozen? ⟨R, 3, none⟩ = false := (by simp [World.frozen?, d2]); have hf1 : w1.frozen? ⟨R, 1, none⟩ = false := (by simp [World.frozen?, d2]); clear hr1 hch1 hg1 d1 d2 d3 hqw1
          refine hK _ _ ?_ ?_
          · (exact ⟨hq3, hq1⟩)
          clear hK K
          (try simp only [Act.put]); (try go_simp)
          apply wpTk_p rfl
          · intro _; first | rfl | (go_simp; rfl)
          (try simp only [Act.put]); (try go_simp)
          apply wpTk_nil
          go_wp2_with fail
          refine wp_region_tk [(0, 0), (1, 0), (2, 0), (3, 0), (4, 0), (5, 1), (6, 0), (7, 0), (8, 0), (9, 0), (10, 1), (11, 0), (12, 0), (13, 0), (14, 1), (15, 2), (16, 0), (17, 0), (18, 0), (19, 3), (20, 0), (21, 0), (22, 3)] 19 (fun w' => w'.cell? ⟨R, 3, none⟩ = some (.slice (some ⟨g, off, none⟩) (Q'.length + 1) cap) ∧ w'.cell? ⟨R, 1, none⟩ = some (.int .i64 (used (q :: Q'))) ∧ w'.cell? ⟨q.blk, 1, none⟩ = some (.int .i64 q.n)) (by kernel_rfl) (by kernel_rfl) (by kernel_rfl) rfl (by intro d v c a w h; cases d <;> exact h) ⟨hc3, hc1, hq1⟩ ?_
          simp only [tkList, List.filterMap_cons, List.filterMap_nil, List.getElem?_toArray, List.getElem?_cons_zero, List.getElem?_cons_succ, Option.map_some, guardAt, Option.map_none, Oper.bare]
          apply wpTk_p rfl
          · intro _; first | rfl | (go_simp; rfl)
          (try simp only [Act.put]); (try go_simp)
          apply wpTk_p rfl
          · intro _; first | rfl | (go_simp; rfl)
          (try simp only [Act.put]); (try go_simp)
          apply wpTk_p rfl
          · intro _; first | rfl | (go_simp; rfl)
          (try simp only [Act.put]); (try go_simp)
          apply wpTk_p rfl
          · intro _; first | rfl | (go_simp; rfl)
          (try simp only [Act.put]); (try go_simp)
          apply wpTk_p rfl
          · intro _; first | rfl | (go_simp; rfl)
          (try simp only [Act.put]); (try go_simp)
          apply wpTk_h rfl
          · intro w' hS; (try dsimp only at hS); go_simp; rfl
          (try simp only [Act.put]); (try go_simp)
          apply wpTk_p rfl
          · intro _; first | rfl | (go_simp; rfl)
          (try simp only [Act.put]); (try go_simp)
          apply wpTk_p rfl
          · intro _; first | rfl | (go_simp; rfl)
          (try simp only [Act.put]); (try go_simp)
          apply wpTk_p rfl
          · intro _; first | rfl | (go_simp; rfl)
          (try simp only [Act.put]); (try go_simp)
          apply wpTk_p rfl
          · intro _; first | rfl | (go_simp; rfl)
          (try simp only [Act.put]); (try go_simp)
          apply wpTk_h rfl
          · intro w' hS; (try dsimp only at hS); go_simp; rfl
          (try simp only [Act.put]); (try go_simp)
          apply wpTk_p rfl
          · intro _; first | rfl | (go_simp; rfl)
          (try simp only [Act.put]); (try go_simp)
          apply wpTk_p rfl
          · intro _; first | rfl | (go_simp; rfl)
          (try simp only [Act.put]); (try go_simp)
          apply wpTk_p rfl
          · intro _; first | rfl | (go_simp; rfl)
          (try simp only [Act.put]); (try go_simp)
          apply wpTk_h rfl
          · intro w' hS; (try dsimp only at hS); go_simp; rfl
          (try simp only [Act.put]); (try go_simp)
          apply wpTk_l rfl
          intro K hK
          go_simp; go_at_call 31; refine (takes_any q.n _ hn2).mono ?_; rintro e w' ⟨rfl, rfl⟩
          refine hK _ _ ?_ ?_
          · (exact ⟨hc3, hc1, hq1⟩)
          clear hK K
          (try simp only [Act.put]); (try go_simp)
          apply wpTk_p rfl
          · intro _; first | rfl | (go_simp; rfl)
          (try simp only [Act.put]); (try go_simp)
          apply wpTk_p rfl
          · intro _; first | rfl | (go_simp; rfl)
          (try simp only [Act.put]); (try go_simp)
          apply wpTk_p rfl
          · intro _; first | rfl | (go_simp; rfl)
          (try simp only [Act.put]); (try go_simp)
          apply wpTk_e rfl
          intro K hK
          go_simp
          refine hK _ _ ?_
          clear hK K
          (try simp only [Act.put]); (try go_simp)
          apply wpTk_p rfl
          · intro _; first | rfl | (go_simp; rfl)
          (try simp only [Act.put]); (try go_simp)
          apply wpTk_p rfl
          · intro _; first | rfl | (go_simp; rfl)
          (try simp only [Act.put]); (try go_simp)
          apply wpTk_e rfl
          intro K hK
          go_simp
          refine hK _ _ ?_
          clear hK K
          (try simp only [Act.put]); (try go_simp)
          apply wpTk_nil
          go_wp2_with fail
          go_roundg Q'.length
          case measure => simp
          case rel =>
            have hsn := outs_snoc P q
            rw [if_pos h1] at hsn
            exact ⟨P ++ [q], Q', _, RdInv.drew (rd_step HI.out.split HI.out.done hst hRlt D1.out D2.out D3.out HI.out.own (by rw [hsn]; simpa using HR1.out) (fun k hk => by
              have : g2 = k := by simpa [Value.ownBlock] using hk
              subst this
              rcases HG1.out with e | e
              · exact HI.out.new _ e
              · have := HI.out.chg.size; omega)), rfl⟩
        · have h1' : ¬ ((q.st : Int) = 1) := by omega
          go_wp2_with fail
          refine wp_region_tk [(0, 0), (1, 0), (2, 0), (3, 0), (4, 0), (5, 1), (6, 0), (7, 0), (8, 0), (9, 0), (10, 1), (11, 0), (12, 0), (13, 0), (14, 1), (15, 2), (16, 0), (17, 0), (18, 0), (19, 3), (20, 0), (21, 0), (22, 3)] 19 (fun w' => w'.cell? ⟨R, 3, none⟩ = some (.slice (some ⟨g, off, none⟩) (Q'.length + 1) cap) ∧ w'.cell? ⟨R, 1, none⟩ = some (.int .i64 (used (q :: Q'))) ∧ w'.cell? ⟨q.blk, 1, none⟩ = some (.int .i64 q.n)) (by kernel_rfl) (by kernel_rfl) (by kernel_rfl) rfl (by intro d v c a w h; cases d <;> exact h) ⟨hc3, hc1, hq1⟩ ?_
          simp only [tkList, List.filterMap_cons, List.filterMap_nil, List.getElem?_toArray, List.getElem?_cons_zero, List.getElem?_cons_succ, Option.map_some, guardAt, Option.map_none, Oper.bare]
          apply wpTk_p rfl
          · intro _; first | rfl | (go_simp; rfl)
          (try simp only [Act.put]); (try go_simp)
          apply wpTk_p rfl
          · intro _; first | rfl | (go_simp; rfl)
          (try simp only [Act.put]); (try go_simp)
          apply wpTk_p rfl
          · intro _; first | rfl | (go_simp; rfl)
          (try simp only [Act.put]); (try go_simp)
          apply wpTk_p rfl
          · intro _; first | rfl | (go_simp; rfl)
          (try simp only [Act.put]); (try go_simp)
          apply wpTk_p rfl
          · intro _; first | rfl | (go_simp; rfl)
          (try simp only [Act.put]); (try go_simp)
          apply wpTk_h rfl
          · intro w' hS; (try dsimp only at hS); go_simp; rfl
          (try simp only [Act.put]); (try go_simp)
          apply wpTk_p rfl
          · intro _; first | rfl | (go_simp; rfl)
          (try simp only [Act.put]); (try go_simp)
          apply wpTk_p rfl
          · intro _; first | rfl | (go_simp; rfl)
          (try simp only [Act.put]); (try go_simp)
          apply wpTk_p rfl
          · intro _; first | rfl | (go_simp; rfl)
          (try simp only [Act.put]); (try go_simp)
          apply wpTk_p rfl
          · intro _; first | rfl | (go_simp; rfl)
          (try simp only [Act.put]); (try go_simp)
          apply wpTk_h rfl
          · intro w' hS; (try dsimp only at hS); go_simp; rfl
          (try simp only [Act.put]); (try go_simp)
          apply wpTk_p rfl
          · intro _; first | rfl | (go_simp; rfl)
          (try simp only [Act.put]); (try go_simp)
          apply wpTk_p rfl
          · intro _; first | rfl | (go_simp; rfl)
          (try simp only [Act.put]); (try go_simp)
          apply wpTk_p rfl
          · intro _; first | rfl | (go_simp; rfl)
          (try simp only [Act.put]); (try go_simp)
          apply wpTk_h rfl
          · intro w' hS; (try dsimp only at hS); go_simp; rfl
          (try simp only [Act.put]); (try go_simp)
          apply wpTk_l rfl
          intro K hK
          go_simp; go_at_call 31; refine (takes_any q.n _ hn2).mono ?_; rintro e w' ⟨rfl, rfl⟩
          refine hK _ _ ?_ ?_
          · (exact ⟨hc3, hc1, hq1⟩)
          clear hK K
          (try simp only [Act.put]); (try go_simp)
          apply wpTk_p rfl
          · intro _; first | rfl | (go_simp; rfl)
          (try simp only [Act.put]); (try go_simp)
          apply wpTk_p rfl
          · intro _; first | rfl | (go_simp; rfl)
          (try simp only [Act.put]); (try go_simp)
          apply wpTk_p rfl
          · intro _; first | rfl | (go_simp; rfl)
          (try simp only [Act.put]); (try go_simp)
          apply wpTk_e rfl
          intro K hK
          go_simp
          refine hK _ _ ?_
          clear hK K
          (try simp only [Act.put]); (try go_simp)
          apply wpTk_p rfl
          · intro _; first | rfl | (go_simp; rfl)
          (try simp only [Act.put]); (try go_simp)
          apply wpTk_p rfl
          · intro _; first | rfl | (go_simp; rfl)
          (try simp only [Act.put]); (try go_simp)
          apply wpTk_e rfl
          intro K hK
          go_simp
          refine hK _ _ ?_
          clear hK K
          (try simp only [Act.put]); (try go_simp)
          apply wpTk_nil
          go_wp2_with fail
          go_roundg Q'.length
          case measure => simp
          case rel =>
            have hsn := outs_snoc P q
            rw [if_neg h1, List.append_nil] at hsn
            obtain ⟨d1, d2, d3⟩ := rd_out HI.out hRlt (Chg.refl _ wr)
            exact ⟨P ++ [q], Q', _, RdInv.drew (rd_step (w1 := wr) HI.out.split HI.out.done hst hRlt d1 d2 d3 HI.out.own (by rw [hsn]; exact HI.out.out) HI.out.new), rfl⟩
end Go.Proofs.YtliikmmcbbmppaaDoor
