/- Reserve of the reference's ring: the walk. -/
import Derived.Test.YtliikmmcbbmppaaDoorRRes
namespace Go.Proofs.YtliikmmcbbmppaaDoor
open Go.RowKit Go.ChangeMaps

def RResPost (w : World) (M R : Nat) (v : Value) (L : List RegL) (size : Int) (lv : Value) (Q : List RecL) (n : Int) (e : Ending) (w' : World) : Prop :=
  ∃ v' L' lv' Q', e = .returned (.tuple #[.int .i64 (aReserve size (absM L) (Q.map RecL.abs) n).1.1, .int .i64 (aReserve size (absM L) (Q.map RecL.abs) n).1.2]) ∧
    AllR w' M R v' L' size lv' Q' ∧ absM L' = (aReserve size (absM L) (Q.map RecL.abs) n).2.1 ∧ Q'.map RecL.abs = (aReserve size (absM L) (Q.map RecL.abs) n).2.2 ∧ L'.length ≤ L.length + 1 ∧ Q'.length ≤ Q.length + 1 ∧
    Upd w w' (fpAllR M R v L lv Q) (fpAllR M R v' L' lv' Q')

set_option maxHeartbeats 400000 in
theorem rreserve_bad (R : Nat) (n : Int) (w : World) (h : n < 1 ∨ 4096 < n) :
    Calls Tryd.prog 11 #[.pointer (some ⟨R, 0, none⟩), .int .i64 n] w fun e w' => e = .returned (.tuple #[.int .i64 0, .int .i64 100]) ∧ w = w' := by
  by_cases h1 : n < 1
  · go_enter Tryd.func11, Tryd.ntmps11
    go_wp2_with fail
    go_ret2
    exact ⟨rfl, rfl⟩
  · have h2 : 4096 < n := by omega
    go_enter Tryd.func11, Tryd.ntmps11
    go_wp2_with fail
    go_ret2
    exact ⟨rfl, rfl⟩

set_option maxRecDepth 100000 in
set_option maxHeartbeats 1000000 in
theorem rreserve_full {w : World} {R M : Nat} {size : Int} {lv : Value} {Q : List RecL} {k : Nat} (h : RingR w R M size lv Q) (hQ : Q.length ≤ 1000) (h1 : 1 ≤ k) (h2 : k ≤ 4096)
    (hfull : size < ((used Q : Nat) : Int) + (takes k : Nat)) :
    Calls Tryd.prog 11 #[.pointer (some ⟨R, 0, none⟩), .int .i64 (k : Int)] w fun e w' => e = .returned (.tuple #[.int .i64 0, .int .i64 102]) ∧ Chg [] w w' := by
  have ht := takes_le k h2
  have hu : used Q ≤ 4096 := by have := h.le; have := h.size; omega
  have hwr : IntKind.i64.wrap (((used Q : Nat) : Int) + (takes k : Nat)) = ((used Q : Nat) : Int) + (takes k : Nat) := IntWalk.i64_in _ (by omega)
  have hc0 : w.cell? ⟨R, 0, none⟩ = some (.int .i64 size) := by rw [cell_of_row w R 0 _ _ _ h.root]; rfl
  have HD := hide h.drew
  clear h
  go_enter Tryd.func11, Tryd.ntmps11
  go_wp2_with fail
  refine wp_region_tk [(0, 0), (2, 0), (5, 0), (6, 0), (7, 0), (8, 1), (1, 2), (3, 2), (4, 0), (9, 0)] 10 (fun w' => w'.cell? ⟨R, 0, none⟩ = some (.int .i64 size)) (by kernel_rfl) (by kernel_rfl) (by kernel_rfl) rfl (by intro d v c a w h; cases d <;> exact h) hc0 ?_
  simp only [tkList, List.filterMap_cons, List.filterMap_nil, List.getElem?_toArray, List.getElem?_cons_zero, List.getElem?_cons_succ, Option.map_some, guardAt, Option.map_none, Oper.bare]
  apply wpTk_p rfl
  · intro _; first | rfl | (go_simp; rfl)
  (try simp only [Act.put]); (try go_simp)
  apply wpTk_p rfl
  · intro _; first | rfl | (go_simp; rfl)
  (try simp only [Act.put]); (try go_simp)
  apply wpTk_p rfl
  · intro _; first | rfl | (go_simp; rfl)
  (try simp only [Act.put]); (try go_simp)
  apply wpTk_p rfl
  · intro _; first | rfl | (go_simp; rfl)
  (try simp only [Act.put]); (try go_simp)
  apply wpTk_p rfl
  · intro _; first | rfl | (go_simp; rfl)
  (try simp only [Act.put]); (try go_simp)
  apply wpTk_h rfl
  · intro w' hS; (try dsimp only at hS); go_simp; rfl
  (try simp only [Act.put]); (try go_simp)
  apply wpTk_l rfl
  intro K hK
  go_simp; go_at_call 25; refine (rused_any (by exact HD.out) hQ).mono ?_; rintro e w' ⟨rfl, rfl⟩
  refine hK _ _ ?_ ?_
  · (exact hc0)
  clear hK K
  (try simp only [Act.put]); (try go_simp)
  apply wpTk_l rfl
  intro K hK
  go_simp; go_at_call 33; refine (rtakes_any k _ h2).mono ?_; rintro e w' ⟨rfl, rfl⟩
  refine hK _ _ ?_ ?_
  · (exact hc0)
  clear hK K
  (try simp only [Act.put]); (try go_simp)
  apply wpTk_p rfl
  · intro _; first | rfl | (go_simp; rfl)
  (try simp only [Act.put]); (try go_simp)
  apply wpTk_p rfl
  · intro _; first | rfl | (go_simp; rfl)
  (try simp only [Act.put]); (try go_simp)
  apply wpTk_nil
  go_wp2_with fail
  go_ret2
  exact ⟨rfl, (Chg.refl [] w).drew⟩

theorem news_four (w : World) (a b c d : Value) (t : TypeId) (k : Nat) (hk : k = w.heap.size) : ∀ j x, [a, b, c, d][j]? = some x → (w.alloc (.cells #[a, b, c, d] t)).cell? ((⟨k, 0, none⟩ : Addr).add j) = some x := by
  subst hk
  exact World.news_of_block (cs := #[a, b, c, d]) (heap_alloc_new w _)

theorem radd_back {w w3 : World} {M : Nat} {v v' : Value} {r : RegL} {o : Obj} (hc : Chg (M :: v.ownBlock.toList) (w.alloc o).drew.drew w3) (hb : (w.alloc o).drew.drew.heap.size ≤ r.blk) (hbb : (w.alloc o).drew.drew.heap.size ≤ r.bb)
    (hv' : ∀ g, v'.ownBlock = some g → v.ownBlock = some g ∨ (w.alloc o).drew.drew.heap.size ≤ g) :
    Chg (M :: v.ownBlock.toList) w w3 ∧ w.heap.size ≤ r.blk ∧ w.heap.size ≤ r.bb ∧ ∀ g, v'.ownBlock = some g → v.ownBlock = some g ∨ w.heap.size ≤ g := add_back hc hb hbb hv'

theorem rres_tail {w w3 w5 : World} {M R g2 off2 cap2 : Nat} {v v' lv : Value} {L : List RegL} {r : RegL} {size : Int} {Q : List RecL} {k : Nat} (h : AllR w M R v L size lv Q)
    (hk : 1 ≤ k ∧ k ≤ 4096) (hfit : ((used Q : Nat) : Int) + (takes k : Nat) ≤ size)
    (hm : MemR w3 M v' (L ++ [r])) (hr2 : r.bytes = List.replicate k 0) (hc3 : Chg (M :: v.ownBlock.toList) w w3) (hrb : w.heap.size ≤ r.blk) (hrbb : w.heap.size ≤ r.bb)
    (hv' : ∀ g, v'.ownBlock = some g → v.ownBlock = some g ∨ w.heap.size ≤ g)
    (h3 : RingR w3 R M size lv Q) (hR5 : w5.heap[R]? = some (.cells #[.int .i64 size, .pointer (some ⟨M, 0, none⟩), lv] 70 (0, 0))) (hc5 : Chg lv.ownBlock.toList w3 w5)
    (hr5 : RowAt w5 76 4 (.slice (some ⟨g2, off2, none⟩) (Q.length + 1) cap2) (Q.length + 1) (cellsR Q ++ [.int .i64 ((L.length : Int) + 1), .int .i64 k, .int .i64 0, .slice none 0 0]))
    (hg : lv.ownBlock = some g2 ∨ g2 = w3.heap.size + 1) :
    AllR (w5.setCell ⟨R, 2, none⟩ (.slice (some ⟨g2, off2, none⟩) (Q.length + 1) cap2)) M R v' (L ++ [r]) size (.slice (some ⟨g2, off2, none⟩) (Q.length + 1) cap2) (Q ++ [⟨0, L.length + 1, k, 0, 0, 0, 0, []⟩]) ∧
      Upd w (w5.setCell ⟨R, 2, none⟩ (.slice (some ⟨g2, off2, none⟩) (Q.length + 1) cap2)) (fpAllR M R v L lv Q) (fpAllR M R v' (L ++ [r]) (.slice (some ⟨g2, off2, none⟩) (Q.length + 1) cap2) (Q ++ [⟨0, L.length + 1, k, 0, 0, 0, 0, []⟩])) := by
  have hcs : Chg [R] w5 (w5.setCell ⟨R, 2, none⟩ (.slice (some ⟨g2, off2, none⟩) (Q.length + 1) cap2)) := (Chg.refl [R] w5).setCell _ (by simp) _
  refine rres_end h hk hfit hm hr2 hc3 hrb hrbb hv' ((hc5.mono fun x hx => .inl (List.mem_cons_of_mem _ hx)).trans hcs (by simp)) ?_ (hr5.chg hcs fun g hg hm => ?_) fun g hg' => ?_
  · rw [heap_setCell_same w5 R 2 _ 70 _ hR5]; simp
  · obtain rfl := List.mem_singleton.1 hm
    exact own_ne hr5 hR5 (by decide) hg
  · have : g2 = g := by simpa [Value.ownBlock] using hg'
    subst this
    rcases hg with e | e
    · exact .inl e
    · exact .inr (by omega)

set_option maxRecDepth 100000 in
set_option maxHeartbeats 2000000 in
theorem rreserve_ok {w : World} {M R : Nat} {v lv : Value} {L : List RegL} {size : Int} {Q : List RecL} {k : Nat} (h : AllR w M R v L size lv Q)
    (h1 : 1 ≤ k) (h2 : k ≤ 4096) (hfit : ((used Q : Nat) : Int) + (takes k : Nat) ≤ size) (hL : L.length ≤ 1000) (hQ : Q.length ≤ 1000) :
    Calls Tryd.prog 11 #[.pointer (some ⟨R, 0, none⟩), .int .i64 (k : Int)] w (fun e w' => ∃ r v' lv', e = .returned (.tuple #[.int .i64 ((L.length : Int) + 1), .int .i64 0]) ∧ r.dead = false ∧ r.bytes = List.replicate k 0 ∧
      AllR w' M R v' (L ++ [r]) size lv' (Q ++ [⟨0, L.length + 1, k, 0, 0, 0, 0, []⟩]) ∧
      Upd w w' (fpAllR M R v L lv Q) (fpAllR M R v' (L ++ [r]) lv' (Q ++ [⟨0, L.length + 1, k, 0, 0, 0, 0, []⟩]))) := by
  obtain ⟨i0, hi, hz0, hz1, hz2⟩ := info_parts Tryd.info76
  have hmk := run_make_row' (P := Tryd.prog) 36 5 (.int .u8 0) 1 Tryd.underlying36 info5z rfl .i64 .i64 k (by omega) (by omega)
  have ht := takes_le k h2
  have hu : used Q ≤ 4096 := by have := h.ring.le; have := h.ring.size; omega
  have hwr : IntKind.i64.wrap (((used Q : Nat) : Int) + (takes k : Nat)) = ((used Q : Nat) : Int) + (takes k : Nat) := IntWalk.i64_in _ (by omega)
  have hc0 : w.cell? ⟨R, 0, none⟩ = some (.int .i64 size) := by rw [cell_of_row w R 0 _ _ _ h.ring.root]; rfl
  have hc1 : w.cell? ⟨R, 1, none⟩ = some (.pointer (some ⟨M, 0, none⟩)) := by rw [cell_of_row w R 1 _ _ _ h.ring.root]; rfl
  have HD := hide h.ring.drew
  have hRb := hide (rring_beside h R (by simp [fpRR]))
  have HM0 := hide (h.mem.chg (((Chg.refl [] w).alloc (.cells (madeCells #[Value.int .u8 0] k) 5)).drew.drew) (by simp))
  have HN0 : Hid (∀ j u, (bytesV (List.replicate k 0))[j]? = some u → (w.alloc (.cells (madeCells #[Value.int .u8 0] k) 5)).drew.drew.cell? ((⟨w.heap.size, 0, none⟩ : Addr).add j) = some u) :=
    hide fun j u hu => World.news_of_block (w := (w.alloc (.cells (madeCells #[Value.int .u8 0] k) 5))) (heap_alloc_new w _) j u (by rw [made_zero]; exact hu)
  have H := hide h
  have HS := hide hfit
  clear h
  have hfit' : ¬ (size < ((used Q : Nat) : Int) + (takes k : Nat)) := by omega
  clear hfit
  go_enter Tryd.func11, Tryd.ntmps11
  go_wp2_with fail
  refine wp_region_tk [(0, 0), (2, 0), (5, 0), (6, 0), (7, 0), (8, 1), (1, 2), (3, 2), (4, 0), (9, 0)] 10 (fun w' => w'.cell? ⟨R, 0, none⟩ = some (.int .i64 size)) (by kernel_rfl) (by kernel_rfl) (by kernel_rfl) rfl (by intro d v c a w h; cases d <;> exact h) hc0 ?_
  simp only [tkList, List.filterMap_cons, List.filterMap_nil, List.getElem?_toArray, List.getElem?_cons_zero, List.getElem?_cons_succ, Option.map_some, guardAt, Option.map_none, Oper.bare]
  apply wpTk_p rfl
  · intro _; first | rfl | (go_simp; rfl)
  (try simp only [Act.put]); (try go_simp)
  apply wpTk_p rfl
  · intro _; first | rfl | (go_simp; rfl)
  (try simp only [Act.put]); (try go_simp)
  apply wpTk_p rfl
  · intro _; first | rfl | (go_simp; rfl)
  (try simp only [Act.put]); (try go_simp)
  apply wpTk_p rfl
  · intro _; first | rfl | (go_simp; rfl)
  (try simp only [Act.put]); (try go_simp)
  apply wpTk_p rfl
  · intro _; first | rfl | (go_simp; rfl)
  (try simp only [Act.put]); (try go_simp)
  apply wpTk_h rfl
  · intro w' hS; (try dsimp only at hS); go_simp; rfl
  (try simp only [Act.put]); (try go_simp)
  apply wpTk_l rfl
  intro K hK
  go_simp; go_at_call 25; refine (rused_any (by exact HD.out) hQ).mono ?_; rintro e w' ⟨rfl, rfl⟩
  refine hK _ _ ?_ ?_
  · (exact hc0)
  clear hK K
  (try simp only [Act.put]); (try go_simp)
  apply wpTk_l rfl
  intro K hK
  go_simp; go_at_call 33; refine (rtakes_any k _ h2).mono ?_; rintro e w' ⟨rfl, rfl⟩
  refine hK _ _ ?_ ?_
  · (exact hc0)
  clear hK K
  (try simp only [Act.put]); (try go_simp)
  apply wpTk_p rfl
  · intro _; first | rfl | (go_simp; rfl)
  (try simp only [Act.put]); (try go_simp)
  apply wpTk_p rfl
  · intro _; first | rfl | (go_simp; rfl)
  (try simp only [Act.put]); (try go_simp)
  apply wpTk_nil
  go_wp2_with fail
  refine wp_region_tk [(0, 0), (1, 0), (2, 0), (3, 1), (4, 0), (5, 2), (6, 2), (7, 0)] 8 (fun w' => w'.cell? ⟨R, 1, none⟩ = some (.pointer (some ⟨M, 0, none⟩))) (by kernel_rfl) (by kernel_rfl) (by kernel_rfl) rfl (by intro d v c a w h; cases d <;> exact h) hc1 ?_
  simp only [tkList, List.filterMap_cons, List.filterMap_nil, List.getElem?_toArray, List.getElem?_cons_zero, List.getElem?_cons_succ, Option.map_some, guardAt, Option.map_none, Oper.bare]
  apply wpTk_p rfl
  · intro _; first | rfl | (go_simp; rfl)
  (try simp only [Act.put]); (try go_simp)
  apply wpTk_p rfl
  · intro _; first | rfl | (go_simp; rfl)
  (try simp only [Act.put]); (try go_simp)
  apply wpTk_p rfl
  · intro _; first | rfl | (go_simp; rfl)
  (try simp only [Act.put]); (try go_simp)
  apply wpTk_h rfl
  · intro w' hS; (try dsimp only at hS); go_simp; rfl
  (try simp only [Act.put]); (try go_simp)
  apply wpTk_p rfl
  · intro _; first | rfl | (go_simp; rfl)
  (try simp only [Act.put]); (try go_simp)
  apply wpTk_l rfl
  intro K hK
  go_simp
  refine hK _ _ ?_ ?_
  · (go_keep)
  clear hK K
  (try simp only [Act.put]); (try go_simp)
  apply wpTk_l rfl
  intro K hK
  go_simp; go_at_call 34; refine (radd_any M k k v L ⟨w.heap.size, 0, none⟩ (List.replicate k 0) _ (by exact HM0.out) (by simp) (by omega) (by omega) hL (by exact HN0.out)).mono ?_; rintro e w3 ⟨v', r, rfl, hm3, hr1, hr2, hch3, hrb, hrbb, hv'⟩; obtain ⟨hch3, hrb, hrbb, hv'⟩ := radd_back hch3 hrb hrbb hv'; have hR3 := hch3.keep H.out.ring.root hRb.out; have HM3 := hide hm3; have HCH3 := hide hch3; have HRB := hide hrb; have HRBB := hide hrbb; have HV' := hide hv'; clear hm3 hch3 hrb hrbb hv'; have hc1' : w3.cell? ⟨R, 1, none⟩ = some (.pointer (some ⟨M, 0, none⟩)) := (by rw [cell_of_row w3 R 1 _ _ _ hR3]; rfl); have hc2' : w3.cell? ⟨R, 2, none⟩ = some lv := (by rw [cell_of_row w3 R 2 _ _ _ hR3]; rfl); have HR3 := hide hR3; clear hR3
  refine hK _ _ ?_ ?_
  · (exact hc1')
  clear hK K
  (try simp only [Act.put]); (try go_simp)
  apply wpTk_p rfl
  · intro _; first | rfl | (go_simp; rfl)
  (try simp only [Act.put]); (try go_simp)
  apply wpTk_nil
  have HB3 := hide (H.out.ring.chg HCH3.out (rring_beside H.out))
  clear hc0 hc1 hc1' HM0 HN0 HD
  go_wp2_with (first | (at_builtin; refine wpList_append_rowat _ rfl (.tmp 34) (.tmp 38) 68 rfl 76 i0 _ 4 48 Tryd.underlying68 hi hz0 hz1 hz2 rfl lv Q.length _ rfl (by exact HB3.out.row.alloc _) ⟨w3.heap.size, 0, none⟩ 1 1 [.int .i64 ((L.length : Int) + 1), .int .i64 k, .int .i64 0, .slice none 0 0] rfl rfl (by exact news_four _ _ _ _ _ _ _ (by simp)) (by simp [Value.oneCell']) (by omega) (by unfold maxLen; omega) (by omega) (w3.heap.size + 1) (by simp) ?_; intro g2 off2 cap2 w5 hr5 hch5 hg5 hlt5; have HR5 := hide hr5; have HG5 := hide hg5; have HC5 := hide ((((Chg.refl _ w3).alloc _)).trans hch5 (fun x hx => .inl hx)); have hR5 := HC5.out.keep HR3.out (not_mem_own (own_ne HB3.out.row HR3.out (by decide))); have hc2'' : w5.cell? ⟨R, 2, none⟩ = some lv := (by rw [cell_of_row w5 R 2 _ _ _ hR5]; rfl); have hf2 : w5.frozen? ⟨R, 2, none⟩ = false := (by simp [World.frozen?, hR5]); have HRT := hide hR5; clear hr5 hg5 hch5 hR5))
  go_ret2
  have hfin := rres_tail H.out ⟨h1, h2⟩ HS.out HM3.out hr2 HCH3.out HRB.out HRBB.out HV'.out HB3.out HRT.out HC5.out HR5.out HG5.out
  exact ⟨r, v', _, rfl, hr1, hr2, hfin.1, hfin.2⟩

theorem rreserve_any {w : World} {M R : Nat} {v lv : Value} {L : List RegL} {size : Int} {Q : List RecL} (h : AllR w M R v L size lv Q)
    (hL : L.length ≤ 1000) (hQ : Q.length ≤ 1000) (n : Int) : Calls Tryd.prog 11 #[.pointer (some ⟨R, 0, none⟩), .int .i64 n] w (RResPost w M R v L size lv Q n) := by
  obtain ⟨hs8, hs4⟩ := h.ring.size
  by_cases hb : n < 1 ∨ 4096 < n
  · refine (rreserve_bad R n w hb).mono ?_
    rintro e w' ⟨rfl, rfl⟩
    rw [RResPost, aReserve, if_pos hb]
    exact ⟨v, L, lv, Q, rfl, h, rfl, rfl, by omega, by omega, Upd.refl _ _⟩
  · obtain ⟨k, rfl⟩ : ∃ k : Nat, n = (k : Int) := ⟨n.toNat, by omega⟩
    have ea : aused (Q.map RecL.abs) = used Q := used_abs Q
    by_cases hf : size < ((used Q : Nat) : Int) + (takes k : Nat)
    · refine (rreserve_full h.ring hQ (by omega) (by omega) hf).mono ?_
      rintro e w' ⟨rfl, hc⟩
      rw [RResPost, aReserve, if_neg hb, ea, Int.toNat_natCast, if_pos hf]
      exact ⟨v, L, lv, Q, rfl, h.chg hc (by simp), rfl, rfl, by omega, by omega, hc.mono (by simp), fun x hx => .inl hx⟩
    · refine (rreserve_ok h (by omega) (by omega) (by omega) hL hQ).mono ?_
      rintro e w' ⟨r, v', lv', rfl, hr1, hr2, hA, hU⟩
      rw [RResPost, aReserve, if_neg hb, ea, Int.toNat_natCast, if_neg hf]
      refine ⟨v', _, lv', _, by simp [absM], hA, ?_, ?_, by simp, by simp, hU⟩
      · simp [absM, hr1, hr2]
      · simp [RecL.abs, absM]
end Go.Proofs.YtliikmmcbbmppaaDoor
