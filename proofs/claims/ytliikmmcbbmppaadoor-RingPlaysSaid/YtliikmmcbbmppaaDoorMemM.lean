/- The calls of the program's memory of regions (its makers of copies and parts): what each answers, and which blocks it turns. No condition. -/
import Derived.Test.YtliikmmcbbmppaaDoorRep
namespace Go.Proofs.YtliikmmcbbmppaaDoor
open Go.RowKit

theorem Tryd.info5 : (Tryd.prog.info? 5).map (fun i => (i.zero, i.size, i.bytes)) = some (some (.int .u8 0), 1, 1) := by kernel_rfl
theorem Tryd.info82 : (Tryd.prog.info? 82).map (fun i => (i.zero, i.size, i.bytes)) = some (some .nilIface, 1, 16) := by kernel_rfl

theorem oneCell_ints (zs : List Int) : ∀ u ∈ zs.map (Value.int .u8), u.oneCell' = true := by
  intro u hu
  obtain ⟨z, _, rfl⟩ := List.mem_map.1 hu
  rfl

set_option maxHeartbeats 400000 in
theorem clone_any (ad : Addr) (n c : Nat) (zs : List Int) (w : World) (hl : zs.length = n) (hn : 0 < n)
    (hc : ∀ j u, (zs.map (Value.int .u8))[j]? = some u → w.cell? (ad.add j) = some u) (hbytes : n ≤ 140737488355328) :
    Calls Tryd.prog 39 #[.slice (some ad) n c] w fun e w' => ∃ g off cap, e = .returned (.slice (some ⟨g, off, none⟩) n cap) ∧
      RowAt w' 5 1 (.slice (some ⟨g, off, none⟩) n cap) n (zs.map (Value.int .u8)) ∧ Chg [] w w' ∧ w.heap.size ≤ g ∧ g < w'.heap.size := by
  obtain ⟨i0, hi, hz0, hz1, hz2⟩ := info_parts Tryd.info5
  have hq := fun (w : World) => Lib.run_eql_slice_nil (P := Tryd.prog) w 36 5 (some ad) n c 0 0 Tryd.underlying36
  go_enter Tryd.func39, Tryd.ntmps39
  have hx : RowAt (w.alloc (.cells #[] 5)) 5 1 (.slice (some ⟨w.heap.size, 0, none⟩) 0 0) 0 [] := ⟨rfl, .inr ⟨w.heap.size, 0, 0, #[], rfl, heap_alloc_new w _, Nat.le_refl _, Nat.zero_le _, by simp, rfl⟩⟩
  have hcl : ∀ j u, (zs.map (Value.int .u8))[j]? = some u → (w.alloc (.cells #[] 5)).cell? (ad.add j) = some u := fun j u h => by
    have h0 := hc j u h
    rw [World.cell?_alloc_lt]
    · exact h0
    · exact World.block_lt_of_cell? _ _ h0
  have HX := hide hx
  have HC := hide hcl
  clear hx hcl
  go_wp2_with (at_builtin; refine wpList_append_rowat _ rfl (.tmp 5) (.tmp 6) 36 rfl 5 i0 (.int .u8 0) 1 1 Tryd.underlying36 hi hz0 hz1 hz2 rfl _ 0 [] rfl HX.out ad n c (zs.map (Value.int .u8)) rfl ?c1 HC.out (oneCell_ints zs) hn ?c3 ?c4 _ rfl ?_)
  case c1 => simp [hl]
  case c3 => unfold maxLen; omega
  case c4 => omega
  intro g off cap w' hr hch hg hlt
  have hch' : Chg [] w w' := ((Chg.refl [] w).alloc _).trans hch (by simp [Value.ownBlock])
  have hg' : w.heap.size ≤ g := by rcases hg with h | h <;> (try simp [Value.ownBlock] at h) <;> omega
  clear hq HX HC hg hch
  go_wp2
  go_ret
  exact ⟨g, off, cap, rfl, hr, hch', hg', hlt⟩

theorem ownBlock_lt {w w' : World} {S : List Nat} (h : Chg S w w') {k : Nat} (hk : k < w.heap.size) : k < w'.heap.size := Nat.lt_of_lt_of_le hk h.size

def AddPost (w : World) (M : Nat) (v : Value) (L : List RegL) (zs : List Int) (e : Ending) (w' : World) : Prop :=
  ∃ v' r, e = .returned (.int .i64 (L.length + 1)) ∧ MemM w' M v' (L ++ [r]) ∧ r.dead = false ∧ r.bytes = zs ∧ Chg (M :: v.ownBlock.toList) w w' ∧ w.heap.size ≤ r.blk ∧ w.heap.size ≤ r.bb ∧
    (∀ g, v'.ownBlock = some g → v.ownBlock = some g ∨ w.heap.size ≤ g)

/-- What the call of Add leaves. -/
theorem add_end {w w1 w2 : World} {M n g off cap g2 off2 cap2 : Nat} {v : Value} {L : List RegL} {zs : List Int} (h : MemM w M v L) (hl : zs.length = n) (hn : 0 < n)
    (hr1 : RowAt w1 5 1 (.slice (some ⟨g, off, none⟩) n cap) n (bytesV zs)) (hch1 : Chg [] w.drew w1) (hg1 : w.drew.heap.size ≤ g) (HB : Chg v.ownBlock.toList w1 w2)
    (HRb : w2.heap[w1.heap.size]? = some (.cells #[.bool false, .slice (some ⟨g, off, none⟩) n cap, .bool true, .int .i64 0] 87 (0, 0)))
    (HR2 : RowAt w2 82 1 (.slice (some ⟨g2, off2, none⟩) (L.length + 1) cap2) (L.length + 1) ((L.map fun r => Value.iface 79 (.pointer (some ⟨r.blk, 0, none⟩))) ++ [.iface 79 (.pointer (some ⟨w1.heap.size, 0, none⟩))]))
    (HG2 : v.ownBlock = some g2 ∨ g2 = w1.heap.size + 2) :
    AddPost w M v L zs (.returned (.int .i64 (L.length + 1))) (w2.setCell ⟨M, 0, none⟩ (.slice (some ⟨g2, off2, none⟩) (L.length + 1) cap2)) := by
  have hc1 : Chg [] w w1 := ((Chg.refl [] w).drew).trans hch1 (by simp)
  have hc2 : Chg v.ownBlock.toList w w2 := (hc1.mono (by simp)).trans HB (fun x hx => .inl hx)
  have hvM := own_ne h.row h.root (by decide)
  have hM2 := hc2.keep h.root (not_mem_own hvM)
  have hset := Chg.setCell (Chg.refl [M] w2) ⟨M, 0, none⟩ (.inl (by simp)) (.slice (some ⟨g2, off2, none⟩) (L.length + 1) cap2)
  have hc : Chg (M :: v.ownBlock.toList) w (w2.setCell ⟨M, 0, none⟩ (.slice (some ⟨g2, off2, none⟩) (L.length + 1) cap2)) :=
    (hc2.mono (fun x hx => .inl (List.mem_cons_of_mem _ hx))).trans hset (by simp)
  have hMlt := lt_of_blk h.root
  have hs1 := hc1.size
  refine ⟨.slice (some ⟨g2, off2, none⟩) (L.length + 1) cap2, ⟨w1.heap.size, false, g, off, cap, zs⟩, rfl, h.snoc hc ?_ ?_ ?_ ?_ (by simpa [hl] using hn) hs1 hg1, rfl, rfl, hc, hs1, hg1, fun k hk => ?_⟩
  · exact one_setCell hM2
  · refine HR2.chg hset fun k hk => ?_
    have := own_ne HR2 hM2 (by decide)
    simp only [List.mem_singleton]
    rintro rfl
    exact this hk
  · simp only [RegL.obj, RegL.bv, hl]
    exact hset.keep HRb (by simp; omega)
  · simp only [RegL.bv, hl]
    refine (hr1.chg HB fun k hk => ?_).chg hset fun k hk => ?_
    · intro hm
      have : k = g := by simpa [Value.ownBlock] using hk.symm
      subst this
      have := h.row.lt _ (by rwa [Option.mem_toList] at hm)
      simp at hg1
      omega
    · have : k = g := by simpa [Value.ownBlock] using hk.symm
      subst this
      simp at hg1 ⊢
      omega
  · have : k = g2 := by simpa [Value.ownBlock] using hk.symm
    subst this
    rcases HG2 with h1 | h1
    · exact .inl h1
    · exact .inr (by omega)

set_option maxRecDepth 100000 in
set_option maxHeartbeats 1000000 in
theorem add_any (M n c : Nat) (v : Value) (L : List RegL) (ad : Addr) (zs : List Int) (w : World)
    (h : MemM w M v L) (hl : zs.length = n) (hn : 0 < n) (hb : n ≤ 140737488355328) (hL : L.length ≤ 1000)
    (hc : ∀ j u, (bytesV zs)[j]? = some u → w.cell? (ad.add j) = some u) :
    Calls Tryd.prog 32 #[.pointer (some ⟨M, 0, none⟩), .slice (some ad) n c, .bool true, .int .i64 0] w (AddPost w M v L zs) := by
  obtain ⟨i0, hi, hz0, hz1, hz2⟩ := info_parts Tryd.info82
  have hcM : w.cell? ⟨M, 0, none⟩ = some v := by rw [cell_of_row w M 0 _ _ _ h.root]; rfl
  have hfM : w.frozen? ⟨M, 0, none⟩ = false := by simp [World.frozen?, h.root]
  have hMl := lt_of_blk h.root
  have hn0 : (if (n : Int) < 0 then (n : Int) else 0) = 0 := if_neg (by omega)
  have HC := hide hc
  have HV := hide h.row
  have H := hide h
  have HVM := hide (own_ne h.row h.root (by decide))
  clear hc h
  go_enter Tryd.func32, Tryd.ntmps32
  go_wp2_with fail
  refine wp_region_tk [(0, 0), (1, 0), (2, 0), (3, 0), (4, 1), (5, 0), (7, 0), (8, 0), (9, 0), (10, 0), (11, 0), (12, 0), (6, 2), (13, 0), (14, 2), (15, 0), (16, 2), (17, 2), (18, 0), (19, 0), (20, 3)] 20 (fun w' => w'.cell? ⟨M, 0, none⟩ = some v) (by kernel_rfl) (by kernel_rfl) (by kernel_rfl) rfl (by intro d v c a w h; cases d <;> exact h) hcM ?_
  simp only [tkList, List.filterMap_cons, List.filterMap_nil, List.getElem?_toArray, List.getElem?_cons_zero, List.getElem?_cons_succ, Option.map_some, guardAt, Option.map_none, Oper.bare]
  apply wpTk_p rfl
  · intro _; first | rfl | (go_simp; rfl)
  (try simp only [Act.put]); (try go_simp)
  apply wpTk_p rfl
  · intro _; first | rfl | (go_simp; rfl)
  (try simp only [Act.put]); (try go_simp)
  apply wpTk_p rfl
  · intro _; first | rfl | (go_simp; rfl)
  (try simp only [Act.put]); (try go_simp)
  apply wpTk_p rfl
  · intro _; first | rfl | (go_simp; rfl)
  (try simp only [Act.put]); (try go_simp)
  apply wpTk_h rfl
  · intro w' hS; (try dsimp only at hS); go_simp; rfl
  (try simp only [Act.put]); (try go_simp)
  apply wpTk_p rfl
  · intro _; first | rfl | (go_simp; rfl)
  (try simp only [Act.put]); (try go_simp)
  apply wpTk_p rfl
  · intro _; first | rfl | (go_simp; rfl)
  (try simp only [Act.put]); (try go_simp)
  apply wpTk_p rfl
  · intro _; first | rfl | (go_simp; rfl)
  (try simp only [Act.put]); (try go_simp)
  apply wpTk_p rfl
  · intro _; first | rfl | (go_simp; rfl)
  (try simp only [Act.put]); (try go_simp)
  apply wpTk_p rfl
  · intro _; first | rfl | (go_simp; rfl)
  (try simp only [Act.put]); (try go_simp)
  apply wpTk_p rfl
  · intro _; first | rfl | (go_simp; rfl)
  (try simp only [Act.put]); (try go_simp)
  apply wpTk_p rfl
  · intro _; first | rfl | (go_simp; rfl)
  (try simp only [Act.put]); (try go_simp)
  apply wpTk_l rfl
  intro K hK
  go_simp; go_at_call 39; refine (clone_any ad n c zs _ hl hn (by exact fun j u h => HC.out j u h) hb).mono ?_; rintro e w1 ⟨g, off, cap, rfl, hr1, hch1, hg1, hlt1⟩; have hcM1 : w1.cell? ⟨M, 0, none⟩ = some v := (hch1.cell hMl (by simp)).trans hcM; have hfM1 : w1.frozen? ⟨M, 0, none⟩ = false := (hch1.frozen hMl (by simp)).trans hfM; have hMl1 := ownBlock_lt hch1 hMl; have HV1 := hide (HV.out.drew.chg hch1 (by simp))
  refine hK _ _ ?_ ?_
  · (exact hcM1)
  clear hK K
  (try simp only [Act.put]); (try go_simp)
  apply wpTk_p rfl
  · intro _; first | rfl | (go_simp; rfl)
  (try simp only [Act.put]); (try go_simp)
  apply wpTk_l rfl
  intro K hK
  go_simp
  refine hK _ _ ?_ ?_
  · (go_keep)
  clear hK K
  (try simp only [Act.put]); (try go_simp)
  apply wpTk_p rfl
  · intro _; first | rfl | (go_simp; rfl)
  (try simp only [Act.put]); (try go_simp)
  apply wpTk_l rfl
  intro K hK
  go_simp
  refine hK _ _ ?_ ?_
  · (go_keep)
  clear hK K
  (try simp only [Act.put]); (try go_simp)
  apply wpTk_l rfl
  intro K hK
  refine wp_append_rowat _ (.tmp 13) (.tmp 25) 58 rfl 82 i0 .nilIface 1 16 Tryd.underlying58 hi hz0 hz1 hz2 rfl v L.length _ rfl (by exact (HV1.out.alloc _).alloc _) ⟨w1.heap.size + 1, 0, none⟩ 1 1 [.iface 79 (.pointer (some ⟨w1.heap.size, 0, none⟩))] rfl rfl (by exact news_one _ _ _ _ (by simp)) (by simp [Value.oneCell']) (by omega) (by unfold maxLen; omega) (by omega) (w1.heap.size + 2) (by simp) ?_; intro g2 off2 cap2 w2 hr2 hch2 hg2 hlt2; have hB : Chg v.ownBlock.toList w1 w2 := (((Chg.refl _ w1).alloc _).alloc _).trans hch2 (fun x hx => .inl hx); have HRb := hide (hch2.keep (k := w1.heap.size) ((Below.heap_alloc _ _ _ (by simp)).trans (heap_alloc_new w1 _)) (not_mem_own (fun e => by have := HV.out.lt _ e; have := hch1.size; simp at this; omega))); have hcM2 : w2.cell? ⟨M, 0, none⟩ = some v := (hB.cell hMl1 (not_mem_own HVM.out)).trans hcM1; have hfM2 : w2.frozen? ⟨M, 0, none⟩ = false := (hB.frozen hMl1 (not_mem_own HVM.out)).trans hfM1; have hMl2 := ownBlock_lt hB hMl1; have HB := hide hB; have HR2 := hide hr2; have HG2 := hide hg2; clear hB hr2 hg2 hch2
  refine hK _ _ ?_ ?_
  · (exact hcM2)
  clear hK K
  (try simp only [Act.put]); (try go_simp)
  apply wpTk_p rfl
  · intro _; first | rfl | (go_simp; rfl)
  (try simp only [Act.put]); (try go_simp)
  apply wpTk_p rfl
  · intro _; first | rfl | (go_simp; rfl)
  (try simp only [Act.put]); (try go_simp)
  apply wpTk_e rfl
  intro K hK
  go_simp
  refine hK _ _ ?_
  clear hK K
  (try simp only [Act.put]); (try go_simp)
  apply wpTk_nil
  go_wp2
  go_ret
  exact add_end H.out hl hn hr1 hch1 hg1 HB.out HRb.out HR2.out HG2.out
end Go.Proofs.YtliikmmcbbmppaaDoor
