/- Adding a part to the reference's memory; making both memories. -/
import Derived.Test.YtliikmmcbbmppaaDoorMemR
namespace Go.Proofs.YtliikmmcbbmppaaDoor
open Go.RowKit

def RAddPost (w : World) (M : Nat) (v : Value) (L : List RegL) (zs : List Int) (e : Ending) (w' : World) : Prop :=
  ∃ v' r, e = .returned (.int .i64 (L.length + 1)) ∧ MemR w' M v' (L ++ [r]) ∧ r.dead = false ∧ r.bytes = zs ∧ Chg (M :: v.ownBlock.toList) w w' ∧ w.heap.size ≤ r.blk ∧ w.heap.size ≤ r.bb ∧
    (∀ g, v'.ownBlock = some g → v.ownBlock = some g ∨ w.heap.size ≤ g)

theorem radd_end {w w1 w2 : World} {M n g off cap g2 off2 cap2 : Nat} {v : Value} {L : List RegL} {zs : List Int} {x y : Value} (h : MemR w M v L) (hl : zs.length = n) (hn : 0 < n)
    (hr1 : RowAt w1 5 1 (.slice (some ⟨g, off, none⟩) n cap) n (bytesV zs)) (hch1 : Chg [] w.drew w1) (hg1 : w.heap.size ≤ g) (HB : Chg v.ownBlock.toList w1 w2)
    (HRb : w2.heap[w1.heap.size]? = some (.cells (partCells x y (.slice (some ⟨g, off, none⟩) n cap)) 98 (0, 0)))
    (HR2 : RowAt w2 88 1 (.slice (some ⟨g2, off2, none⟩) (L.length + 1) cap2) (L.length + 1) ((L.map fun r => Value.pointer (some ⟨r.blk, 0, none⟩)) ++ [.pointer (some ⟨w1.heap.size, 0, none⟩)]))
    (HG2 : v.ownBlock = some g2 ∨ g2 = w1.heap.size + 2) :
    RAddPost w M v L zs (.returned (.int .i64 (L.length + 1))) (w2.setCell ⟨M, 0, none⟩ (.slice (some ⟨g2, off2, none⟩) (L.length + 1) cap2)) := by
  have hc1 : Chg [] w w1 := ((Chg.refl [] w).drew).trans hch1 (by simp)
  have hc2 : Chg v.ownBlock.toList w w2 := (hc1.mono (by simp)).trans HB (fun x hx => .inl hx)
  have hvM := own_ne h.row h.root (by decide)
  have hM2 := hc2.keep h.root (not_mem_own hvM)
  have hset := Chg.setCell (Chg.refl [M] w2) ⟨M, 0, none⟩ (.inl (by simp)) (.slice (some ⟨g2, off2, none⟩) (L.length + 1) cap2)
  have hc : Chg (M :: v.ownBlock.toList) w (w2.setCell ⟨M, 0, none⟩ (.slice (some ⟨g2, off2, none⟩) (L.length + 1) cap2)) :=
    (hc2.mono (fun x hx => .inl (List.mem_cons_of_mem _ hx))).trans hset (by simp)
  have hMlt := lt_of_blk h.root
  have hs1 := hc1.size
  refine ⟨.slice (some ⟨g2, off2, none⟩) (L.length + 1) cap2, ⟨w1.heap.size, false, g, off, cap, zs⟩, rfl, h.snoc hc ?_ ?_ ?_ ?_ (by simpa [hl] using hn) hs1 hg1, rfl, rfl, hc, hs1, hg1, fun k hk => ?_⟩
  · exact one_setCell hM2
  · refine HR2.chg hset fun k hk => ?_
    have := own_ne HR2 hM2 (by decide)
    simp only [List.mem_singleton]
    rintro rfl
    exact this hk
  · refine ⟨_, hset.keep HRb (by simp; omega), partCells_size _ _ _, ?_, partCells_1 _ _ _, ?_⟩
    · exact partCells_0 _ _ _
    · simp only [RegL.bv, hl]
      exact partCells_4 _ _ _
  · simp only [RegL.bv, hl]
    refine (hr1.chg HB fun k hk => ?_).chg hset fun k hk => ?_
    · intro hm
      have : k = g := by simpa [Value.ownBlock] using hk.symm
      subst this
      have := h.row.lt _ (by rwa [Option.mem_toList] at hm)
      omega
    · have : k = g := by simpa [Value.ownBlock] using hk.symm
      subst this
      simp
      omega
  · have : k = g2 := by simpa [Value.ownBlock] using hk.symm
    subst this
    rcases HG2 with h1 | h1
    · exact .inl h1
    · exact .inr (by omega)

set_option maxRecDepth 100000 in
set_option maxHeartbeats 2000000 in
theorem radd_any (M n c : Nat) (v : Value) (L : List RegL) (ad : Addr) (zs : List Int) (w : World)
    (h : MemR w M v L) (hl : zs.length = n) (hn : 0 < n) (hb : n ≤ 140737488355328) (hL : L.length ≤ 1000)
    (hc : ∀ j u, (bytesV zs)[j]? = some u → w.cell? (ad.add j) = some u) :
    Calls Tryd.prog 34 #[.pointer (some ⟨M, 0, none⟩), .slice (some ad) n c, .bool true, .int .i64 0] w (RAddPost w M v L zs) := by
  obtain ⟨i0, hi, hz0, hz1, hz2⟩ := info_parts Tryd.info88
  obtain ⟨i5, hi5, hy0, hy1, hy2⟩ := info_parts Tryd.info5
  have hcM : w.cell? ⟨M, 0, none⟩ = some v := by rw [cell_of_row w M 0 _ _ _ h.root]; rfl
  have hfM : w.frozen? ⟨M, 0, none⟩ = false := by simp [World.frozen?, h.root]
  have hMl := lt_of_blk h.root
  have hn0 : (if (n : Int) < 0 then (n : Int) else 0) = 0 := if_neg (by omega)
  have HC := hide hc
  have HV := hide h.row
  have H := hide h
  have HVM := hide (own_ne h.row h.root (by decide))
  clear hc h
  go_enter Tryd.func34, Tryd.ntmps34
  go_wp2_with fail
  refine wp_region_tk [(0, 0), (1, 0), (2, 0), (3, 0), (4, 1), (5, 0), (6, 0), (7, 0), (8, 2), (9, 0), (10, 2), (11, 2), (12, 2), (13, 0), (14, 0), (15, 3)] 15 (fun w' => w'.cell? ⟨M, 0, none⟩ = some v) (by kernel_rfl) (by kernel_rfl) (by kernel_rfl) rfl (by intro d v c a w h; cases d <;> exact h) hcM ?_
  simp only [tkList, List.filterMap_cons, List.filterMap_nil, List.getElem?_toArray, List.getElem?_cons_zero, List.getElem?_cons_succ, Option.map_some, guardAt, Option.map_none, Oper.bare]
  apply wpTk_p rfl
  · intro _; first | rfl | (go_simp; rfl)
  (try simp only [Act.put]); (try go_simp)
  apply wpTk_p rfl
  · intro _; first | rfl | (go_simp; rfl)
  (try simp only [Act.put]); (try go_simp)
  apply wpTk_p rfl
  · intro _; first | rfl | (go_simp; rfl)
  (try simp only [Act.put]); (try go_simp)
  apply wpTk_p rfl
  · intro _; first | rfl | (go_simp; rfl)
  (try simp only [Act.put]); (try go_simp)
  apply wpTk_h rfl
  · intro w' hS; (try dsimp only at hS); go_simp; rfl
  (try simp only [Act.put]); (try go_simp)
  apply wpTk_p rfl
  · intro _; first | rfl | (go_simp; rfl)
  (try simp only [Act.put]); (try go_simp)
  apply wpTk_p rfl
  · intro _; first | rfl | (go_simp; rfl)
  (try simp only [Act.put]); (try go_simp)
  apply wpTk_p rfl
  · intro _; first | rfl | (go_simp; rfl)
  (try simp only [Act.put]); (try go_simp)
  apply wpTk_l rfl
  intro K hK
  refine wp_append_rowat _ (.const (.slice none 0 0)) (.tmp 21) 36 rfl 5 i5 (.int .u8 0) 1 1 Tryd.underlying36 hi5 hy0 hy1 hy2 rfl (.slice none 0 0) 0 [] rfl (RowAt.nil _ _ _) ad n c (bytesV zs) rfl (by rw [bytesV_len, hl]; simp) (by exact HC.out) (oneCell_bytes zs) hn (by unfold maxLen; omega) (by omega) w.heap.size rfl ?_; intro g off cap w1 hr1 hch1 hg1 hlt1; simp only [Nat.zero_add, List.nil_append] at hr1 ⊢; have hch1 : Chg [] w.drew w1 := hch1; have hg1 : w.heap.size ≤ g := Nat.le_of_eq (hg1.resolve_left (by simp [Value.ownBlock])).symm; have hcM1 : w1.cell? ⟨M, 0, none⟩ = some v := (hch1.cell hMl (by simp)).trans hcM; have hfM1 : w1.frozen? ⟨M, 0, none⟩ = false := (hch1.frozen hMl (by simp)).trans hfM; have hMl1 := ownBlock_lt hch1 hMl; have HV1 := hide (HV.out.drew.chg hch1 (by simp)); have hb98 := build98 true 0 (some ⟨g, off, none⟩) n cap
  refine hK _ _ ?_ ?_
  · (exact hcM1)
  clear hK K
  (try simp only [Act.put]); (try go_simp)
  apply wpTk_p rfl
  · intro _; first | rfl | (go_simp; rfl)
  (try simp only [Act.put]); (try go_simp)
  apply wpTk_l rfl
  intro K hK
  go_simp
  refine hK _ _ ?_ ?_
  · (go_keep)
  clear hK K
  (try simp only [Act.put]); (try go_simp)
  apply wpTk_l rfl
  intro K hK
  go_simp
  refine hK _ _ ?_ ?_
  · (go_keep)
  clear hK K
  (try simp only [Act.put]); (try go_simp)
  apply wpTk_l rfl
  intro K hK
  refine wp_append_rowat _ (.tmp 18) (.tmp 25) 61 rfl 88 i0 (.pointer none) 1 8 Tryd.underlying61 hi hz0 hz1 hz2 rfl v L.length _ rfl (by exact (HV1.out.alloc _).alloc _) ⟨w1.heap.size + 1, 0, none⟩ 1 1 [.pointer (some ⟨w1.heap.size, 0, none⟩)] rfl rfl (by exact news_one _ _ _ _ (by simp)) (by simp [Value.oneCell']) (by omega) (by unfold maxLen; omega) (by omega) (w1.heap.size + 2) (by simp) ?_; intro g2 off2 cap2 w2 hr2 hch2 hg2 hlt2; have hB : Chg v.ownBlock.toList w1 w2 := (((Chg.refl _ w1).alloc _).alloc _).trans hch2 (fun x hx => .inl hx); have HRb := hide (hch2.keep (k := w1.heap.size) ((Below.heap_alloc _ _ _ (by simp)).trans (heap_alloc_new w1 _)) (not_mem_own (fun e => by have := HV.out.lt _ e; have := hch1.size; simp at this; omega))); have hcM2 : w2.cell? ⟨M, 0, none⟩ = some v := (hB.cell hMl1 (not_mem_own HVM.out)).trans hcM1; have hfM2 : w2.frozen? ⟨M, 0, none⟩ = false := (hB.frozen hMl1 (not_mem_own HVM.out)).trans hfM1; have hMl2 := ownBlock_lt hB hMl1; have HB := hide hB; have HR2 := hide hr2; have HG2 := hide hg2; clear hB hr2 hg2 hch2
  refine hK _ _ ?_ ?_
  · (exact hcM2)
  clear hK K
  (try simp only [Act.put]); (try go_simp)
  apply wpTk_p rfl
  · intro _; first | rfl | (go_simp; rfl)
  (try simp only [Act.put]); (try go_simp)
  apply wpTk_p rfl
  · intro _; first | rfl | (go_simp; rfl)
  (try simp only [Act.put]); (try go_simp)
  apply wpTk_e rfl
  intro K hK
  go_simp
  refine hK _ _ ?_
  clear hK K
  (try simp only [Act.put]); (try go_simp)
  apply wpTk_nil
  go_wp2
  go_ret
  exact radd_end H.out hl hn hr1 hch1 hg1 HB.out HRb.out HR2.out HG2.out
end Go.Proofs.YtliikmmcbbmppaaDoor
