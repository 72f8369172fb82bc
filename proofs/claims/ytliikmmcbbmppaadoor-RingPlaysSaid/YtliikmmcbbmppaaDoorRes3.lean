/- Reserve of the program's ring: the walk where the record fits, and all of it. -/
import Derived.Test.YtliikmmcbbmppaaDoorRes2
namespace Go.Proofs.YtliikmmcbbmppaaDoor
open Go.RowKit Go.ChangeMaps

theorem beside_all {w : World} {M R T : Nat} {v : Value} {L : List RegL} {size : Int} {rv : Value} {Q : List RecL} {E : List Ent} {clock : Nat} (h : AllM w M R T v L size rv Q E clock) : R ∉ M :: v.ownBlock.toList ∧ T ∉ M :: v.ownBlock.toList :=
  ⟨ring_beside h.mem h.ring R (by simp [fpRing]), ring_beside h.mem h.ring T (by simp [fpRing])⟩
theorem add_back {w w3 : World} {M : Nat} {v v' : Value} {r : RegL} {o : Obj} (hc : Chg (M :: v.ownBlock.toList) (w.alloc o).drew.drew w3) (hb : (w.alloc o).drew.drew.heap.size ≤ r.blk) (hbb : (w.alloc o).drew.drew.heap.size ≤ r.bb)
    (hv' : ∀ g, v'.ownBlock = some g → v.ownBlock = some g ∨ (w.alloc o).drew.drew.heap.size ≤ g) :
    Chg (M :: v.ownBlock.toList) w w3 ∧ w.heap.size ≤ r.blk ∧ w.heap.size ≤ r.bb ∧ ∀ g, v'.ownBlock = some g → v.ownBlock = some g ∨ w.heap.size ≤ g := by
  have hs : w.heap.size ≤ (w.alloc o).drew.drew.heap.size := (((Chg.refl [] w).alloc o).drew.drew).size
  refine ⟨((((Chg.refl [] w).alloc o).drew.drew).mono (by simp)).trans hc fun x hx => .inl hx, by omega, by omega, fun g hg => ?_⟩
  rcases hv' g hg with h | h
  · exact .inl h
  · exact .inr (by omega)

theorem map_after {w : World} {T R : Nat} {E : List Ent} {clock : Nat} {c : Array Value} {e : Nat} {fr : Nat × Nat} (hT : w.heap[T]? = some (mapObj E clock)) (hR : w.heap[R]? = some (.cells c e fr)) (a b : Value) : ((w.setCell ⟨R, 3, none⟩ a).setCell ⟨R, 1, none⟩ b).heap[T]? = some (mapObj E clock) := by
  have hTR : T ≠ R := map_no_cells hT hR
  rw [Below.heap_setCell _ _ _ _ hTR, Below.heap_setCell _ _ _ _ hTR]; exact hT
theorem fresh_id {w : World} {M R T : Nat} {v : Value} {L : List RegL} {size : Int} {rv : Value} {Q : List RecL} {E : List Ent} {clock : Nat} (h : AllM w M R T v L size rv Q E clock) : ∀ x ∈ E, x.id ≠ (L.length : Int) + 1 := by
  intro x hx
  have : (x.id, x.blk) ∈ E.map (fun x => (x.id, x.blk)) := List.mem_map.2 ⟨x, hx, rfl⟩
  rw [h.ring.ent] at this
  obtain ⟨q, hq, he⟩ := List.mem_map.1 this
  have := h.idle q (List.mem_filter.1 hq).1
  simp at he
  omega

/-- The end of a store into a map, at a world of its own name. -/
theorem wp_entryStore_gen {o : Oper} {a : Act} {w : World} {KK : Act → World → Prop} {Q : Exit → Act → World → Prop} {K : Nat} {E : List Ent} {clock : Nat} (m s v : Operand) (ho : o.op = .entryStore 64 m s v) (hm : a.eval m = .map (some K)) (hs : a.eval s = .int .i64 clock) {B : Nat} (hv : a.eval v = .pointer (some ⟨B, 0, none⟩)) {id : Int}
    (hK : w.heap[K]? = some (.map ((E.map Ent.e).toArray.push { key := .int .i64 id, val := .pointer none, born := clock }) (clock + 1))) (hb : ∀ x ∈ E, x.born < clock)
    (hn : ∀ wf, wf = setBlock w K (mapObj (E ++ [⟨id, B, clock⟩]) (clock + 1)) → KK (a.put o.dst undef) wf) : o.wp Tryd.prog a w KK Q :=
  wp_entryStore_new m s v ho hm hs hv hK hb (hn _ rfl)

theorem wp_mapEntry_gen {o : Oper} {a : Act} {w : World} {KK : Act → World → Prop} {Q : Exit → Act → World → Prop} {K : Nat} {E : List Ent} {clock : Nat} (m k : Operand) (ho : o.op = .mapEntry 64 m k) (hm : a.eval m = .map (some K)) {id : Int} (hk : a.eval k = .int .i64 id) (hK : w.heap[K]? = some (mapObj E clock)) (h : ∀ x ∈ E, x.id ≠ id)
    (hn : ∀ w1, w1 = setBlock w K (.map ((E.map Ent.e).toArray.push { key := .int .i64 id, val := .pointer none, born := clock }) (clock + 1)) → KK (a.put o.dst (.tuple #[.pointer none, .int .i64 clock])) w1) : o.wp Tryd.prog a w KK Q :=
  wp_mapEntry_new m k ho hm hk hK h (hn _ rfl)

theorem res_mid {w3 w4 w5 : World} {M R T X g2 : Nat} {rv : Value} {size : Int} {Q : List RecL} {E : List Ent} {clock : Nat} {o : Obj} (h : RingM w3 R T M size rv Q E clock) (hch4 : Chg [] w3 w4) (hX : X = w3.heap.size) (hX4 : w4.heap[X]? = some o)
    (hch5 : Chg rv.ownBlock.toList w4 w5) (hg : rv.ownBlock = some g2 ∨ g2 = w4.heap.size + 1) :
    Chg rv.ownBlock.toList w3 w5 ∧ w5.heap[R]? = some (.cells #[.int .i64 size, .int .i64 (used Q), .pointer (some ⟨M, 0, none⟩), rv, .map (some T)] 67 (0, 0)) ∧ w5.heap[T]? = some (mapObj E clock) ∧ w5.heap[X]? = some o ∧ (rv.ownBlock = some g2 ∨ w3.heap.size ≤ g2) := by
  have hc : Chg rv.ownBlock.toList w3 w5 := (hch4.mono (by simp)).trans hch5 fun x hx => .inl hx
  refine ⟨hc, hc.keep h.root (not_mem_own (own_ne h.row h.root (by decide))), hc.keep h.tab (not_mem_own (map_no_row h.tab h.row)), hch5.keep hX4 (not_mem_own fun e => ?_), ?_⟩
  · have := h.row.lt _ e
    omega
  · have := hch4.size
    rcases hg with e | e
    · exact .inl e
    · exact .inr (by omega)

theorem res_tail {w3 w5 wf : World} {M R T X : Nat} {rv rv' u' : Value} {xs : List Value} {n : Nat} {size : Int} {Q : List RecL} {E : List Ent} {clock : Nat} {o : Obj} {c1 : Array MapEntry} {E' : List Ent} (h : RingM w3 R T M size rv Q E clock)
    (hc : Chg rv.ownBlock.toList w3 w5) (hR : w5.heap[R]? = some (.cells #[.int .i64 size, .int .i64 (used Q), .pointer (some ⟨M, 0, none⟩), rv, .map (some T)] 67 (0, 0))) (hT : w5.heap[T]? = some (mapObj E clock)) (hX : w5.heap[X]? = some o) (hXs : w3.heap.size ≤ X)
    (hr : RowAt w5 71 1 rv' n xs)
    (hwf : wf = setBlock (setBlock ((w5.setCell ⟨R, 3, none⟩ rv').setCell ⟨R, 1, none⟩ u') T (.map c1 (clock + 1))) T (mapObj E' (clock + 1))) :
    Chg (R :: T :: rv.ownBlock.toList) w3 wf ∧ wf.heap[R]? = some (.cells #[.int .i64 size, u', .pointer (some ⟨M, 0, none⟩), rv', .map (some T)] 67 (0, 0)) ∧ wf.heap[T]? = some (mapObj E' (clock + 1)) ∧ wf.heap[X]? = some o ∧ RowAt wf 71 1 rv' n xs := by
  have hTR : T ≠ R := map_no_cells hT hR
  have hR1 := heap_setCell_same w5 R 3 _ 67 rv' hR
  have hR2 := heap_setCell_same _ R 1 _ 67 u' hR1
  have hT1 : ((w5.setCell ⟨R, 3, none⟩ rv').setCell ⟨R, 1, none⟩ u').heap[T]? = some (mapObj E clock) := by
    rw [Below.heap_setCell _ _ _ _ hTR, Below.heap_setCell _ _ _ _ hTR]; exact hT
  have hT2 := heap_setBlock_same hT1 (.map c1 (clock + 1))
  have hT3 := heap_setBlock_same hT2 (mapObj E' (clock + 1))
  have hcs : Chg [R, T] w5 wf := by
    have a1 : Chg [R, T] w5 ((w5.setCell ⟨R, 3, none⟩ rv').setCell ⟨R, 1, none⟩ u') := ((Chg.refl [R, T] w5).setCell _ (by simp) _).setCell _ (by simp) _
    have a2 := a1.trans (setBlock_chg hT1 (es' := c1) (clock' := clock + 1)) (by simp)
    rw [hwf]
    exact a2.trans (setBlock_chg hT2) (by simp)
  refine ⟨(hc.mono fun x hx => .inl (by simp only [List.mem_cons]; exact .inr (.inr hx))).trans hcs (by simp), ?_, ?_, ?_, ?_⟩
  · rw [hwf, heap_setBlock_other hT2 _ hTR.symm, heap_setBlock_other hT1 _ hTR.symm, hR2]
    simp
  · rw [hwf]; exact hT3
  · refine hcs.keep hX fun hm => ?_
    have := lt_of_blk h.root
    have := lt_of_blk h.tab
    simp at hm
    omega
  · refine hr.chg hcs fun g hg hm => ?_
    simp at hm
    rcases hm with rfl | rfl
    · exact own_ne hr hR (by decide) hg
    · exact map_no_row hT hr hg

theorem made_zero (k : Nat) : (madeCells #[Value.int .u8 0] k).toList = bytesV (List.replicate k 0) := by
  apply List.ext_getElem
  · simp [bytesV, size_madeCells]
  · intro i h1 h2
    simp [bytesV, madeCells, Nat.mod_one]

theorem info5z : (Tryd.prog.info? 5).map (fun i => (i.zero, i.size, i.bytes)) = some (some (.int .u8 0), 1, 1) := by kernel_rfl

def ResPost (w : World) (M R T : Nat) (v : Value) (L : List RegL) (size : Int) (rv : Value) (Q : List RecL) (n : Int) (e : Ending) (w' : World) : Prop :=
  ∃ v' L' rv' Q' E' clock', e = .returned (.tuple #[.int .i64 (aReserve size (absM L) (Q.map RecL.abs) n).1.1, .int .i64 (aReserve size (absM L) (Q.map RecL.abs) n).1.2]) ∧
    AllM w' M R T v' L' size rv' Q' E' clock' ∧ absM L' = (aReserve size (absM L) (Q.map RecL.abs) n).2.1 ∧ Q'.map RecL.abs = (aReserve size (absM L) (Q.map RecL.abs) n).2.2 ∧ L'.length ≤ L.length + 1 ∧ Q'.length ≤ Q.length + 1 ∧
    Upd w w' (fpAll M R T v L rv Q) (fpAll M R T v' L' rv' Q')

set_option maxRecDepth 100000 in
set_option maxHeartbeats 2000000 in
theorem reserve_ok {w : World} {M R T : Nat} {v rv : Value} {L : List RegL} {size : Int} {Q : List RecL} {E : List Ent} {clock k : Nat} (h : AllM w M R T v L size rv Q E clock)
    (h1 : 1 ≤ k) (h2 : k ≤ 4096) (hfit : ((used Q : Nat) : Int) + (takes k : Nat) ≤ size) (hL : L.length ≤ 1000) (hQ : Q.length ≤ 1000) :
    Calls Tryd.prog 10 #[.pointer (some ⟨R, 0, none⟩), .int .i64 (k : Int)] w (fun e w' => ∃ r X v' rv', e = .returned (.tuple #[.int .i64 ((L.length : Int) + 1), .int .i64 0]) ∧ r.dead = false ∧ r.bytes = List.replicate k 0 ∧
      AllM w' M R T v' (L ++ [r]) size rv' (Q ++ [⟨X, L.length + 1, k, 0, 0, 0, 0, []⟩]) (E ++ [⟨(L.length : Int) + 1, X, clock⟩]) (clock + 1) ∧
      Upd w w' (fpAll M R T v L rv Q) (fpAll M R T v' (L ++ [r]) rv' (Q ++ [⟨X, L.length + 1, k, 0, 0, 0, 0, []⟩]))) := by
  obtain ⟨i0, hi, hz0, hz1, hz2⟩ := info_parts Tryd.info71
  have hmk := run_make_row' (P := Tryd.prog) 36 5 (.int .u8 0) 1 Tryd.underlying36 info5z rfl .i64 .i64 k (by omega) (by omega)
  have ht := takes_le k h2
  obtain ⟨hs8, hs4⟩ := h.ring.size
  have hu : used Q ≤ 4096 := by have := h.ring.le; omega
  have hwr : IntKind.i64.wrap ((used Q : Nat) + (takes k : Nat) : Int) = ((used Q : Nat) : Int) + (takes k : Nat) := IntWalk.i64_in _ (by omega)
  have HR := hide h.ring.root
  have hcR (w' : World) (o : Value) (hw : w'.heap[R]? = some (.cells #[.int .i64 size, .int .i64 (used Q), .pointer (some ⟨M, 0, none⟩), rv, .map (some T)] 67 (0, 0))) : w'.cell? ⟨R, 0, none⟩ = some (.int .i64 size) ∧ w'.cell? ⟨R, 1, none⟩ = some (.int .i64 (used Q)) ∧ w'.cell? ⟨R, 2, none⟩ = some (.pointer (some ⟨M, 0, none⟩)) ∧ w'.cell? ⟨R, 3, none⟩ = some rv ∧ w'.cell? ⟨R, 4, none⟩ = some (.map (some T)) ∧ w'.frozen? ⟨R, 3, none⟩ = false ∧ w'.frozen? ⟨R, 1, none⟩ = false := by
    refine ⟨?_, ?_, ?_, ?_, ?_, ?_, ?_⟩
    all_goals first | (rw [cell_of_row w' R _ _ _ _ hw]; rfl) | simp [World.frozen?, hw]
  have HC := hide hcR
  clear hcR
  obtain ⟨hc0, hc1, hc2, hc3, hc4, hf3, hf1⟩ := HC.out w (.pointer none) HR.out
  have H := hide h
  have HS := hide hfit
  clear h
  have hfit' : ¬ (size < ((used Q : Nat) : Int) + (takes k : Nat)) := by omega
  clear hfit
  go_enter Tryd.func10, Tryd.ntmps10
  go_wp2_with fail
  refine wp_region_tk [(0, 0), (1, 0), (2, 0), (3, 1), (4, 0), (7, 0), (8, 0), (9, 0), (10, 1), (5, 2), (6, 0), (11, 0), (12, 0)] 13 (fun w' => w'.cell? ⟨R, 1, none⟩ = some (.int .i64 (used Q)) ∧ w'.cell? ⟨R, 0, none⟩ = some (.int .i64 size)) (by kernel_rfl) (by kernel_rfl) (by kernel_rfl) rfl (by intro d v c a w h; cases d <;> exact h) ⟨hc1, hc0⟩ ?_
  simp only [tkList, List.filterMap_cons, List.filterMap_nil, List.getElem?_toArray, List.getElem?_cons_zero, List.getElem?_cons_succ, Option.map_some, guardAt, Option.map_none, Oper.bare]
  apply wpTk_p rfl
  · intro _; first | rfl | (go_simp; rfl)
  (try simp only [Act.put]); (try go_simp)
  apply wpTk_p rfl
  · intro _; first | rfl | (go_simp; rfl)
  (try simp only [Act.put]); (try go_simp)
  apply wpTk_p rfl
  · intro _; first | rfl | (go_simp; rfl)
  (try simp only [Act.put]); (try go_simp)
  apply wpTk_h rfl
  · intro w' hS; (try dsimp only at hS); go_simp; rfl
  (try simp only [Act.put]); (try go_simp)
  apply wpTk_p rfl
  · intro _; first | rfl | (go_simp; rfl)
  (try simp only [Act.put]); (try go_simp)
  apply wpTk_p rfl
  · intro _; first | rfl | (go_simp; rfl)
  (try simp only [Act.put]); (try go_simp)
  apply wpTk_p rfl
  · intro _; first | rfl | (go_simp; rfl)
  (try simp only [Act.put]); (try go_simp)
  apply wpTk_p rfl
  · intro _; first | rfl | (go_simp; rfl)
  (try simp only [Act.put]); (try go_simp)
  apply wpTk_h rfl
  · intro w' hS; (try dsimp only at hS); go_simp; rfl
  (try simp only [Act.put]); (try go_simp)
  apply wpTk_l rfl
  intro K hK
  go_simp; go_at_call 31; refine (takes_any k _ h2).mono ?_; rintro e w' ⟨rfl, rfl⟩
  refine hK _ _ ?_ ?_
  · (exact ⟨hc1, hc0⟩)
  clear hK K
  (try simp only [Act.put]); (try go_simp)
  apply wpTk_p rfl
  · intro _; first | rfl | (go_simp; rfl)
  (try simp only [Act.put]); (try go_simp)
  apply wpTk_p rfl
  · intro _; first | rfl | (go_simp; rfl)
  (try simp only [Act.put]); (try go_simp)
  apply wpTk_p rfl
  · intro _; first | rfl | (go_simp; rfl)
  (try simp only [Act.put]); (try go_simp)
  apply wpTk_nil
  go_wp2_with fail
  have hb := hide (beside_all H.out)
  have hm0 : MemM (w.alloc (.cells (madeCells #[Value.int .u8 0] k) 5)).drew.drew M v L := H.out.mem.chg (((Chg.refl [] w).alloc _).drew.drew) (by simp)
  have hn0 : ∀ j u, (bytesV (List.replicate k 0))[j]? = some u → (w.alloc (.cells (madeCells #[Value.int .u8 0] k) 5)).drew.drew.cell? ((⟨w.heap.size, 0, none⟩ : Addr).add j) = some u := fun j u hu => World.news_of_block (w := (w.alloc (.cells (madeCells #[Value.int .u8 0] k) 5))) (heap_alloc_new w _) j u (by rw [made_zero]; exact hu)
  have HM0 := hide hm0
  have HN0 := hide hn0
  clear hm0 hn0
  refine wp_region_tk [(0, 0), (1, 0), (2, 0), (3, 1), (4, 0), (7, 0), (5, 2), (6, 2), (8, 0), (9, 2), (10, 0)] 11 (fun w' => w'.cell? ⟨R, 2, none⟩ = some (.pointer (some ⟨M, 0, none⟩))) (by kernel_rfl) (by kernel_rfl) (by kernel_rfl) rfl (by intro d v c a w h; cases d <;> exact h) hc2 ?_
  simp only [tkList, List.filterMap_cons, List.filterMap_nil, List.getElem?_toArray, List.getElem?_cons_zero, List.getElem?_cons_succ, Option.map_some, guardAt, Option.map_none, Oper.bare]
  apply wpTk_p rfl
  · intro _; first | rfl | (go_simp; rfl)
  (try simp only [Act.put]); (try go_simp)
  apply wpTk_p rfl
  · intro _; first | rfl | (go_simp; rfl)
  (try simp only [Act.put]); (try go_simp)
  apply wpTk_p rfl
  · intro _; first | rfl | (go_simp; rfl)
  (try simp only [Act.put]); (try go_simp)
  apply wpTk_h rfl
  · intro w' hS; (try dsimp only at hS); go_simp; rfl
  (try simp only [Act.put]); (try go_simp)
  apply wpTk_p rfl
  · intro _; first | rfl | (go_simp; rfl)
  (try simp only [Act.put]); (try go_simp)
  apply wpTk_p rfl
  · intro _; first | rfl | (go_simp; rfl)
  (try simp only [Act.put]); (try go_simp)
  apply wpTk_l rfl
  intro K hK
  go_simp
  refine hK _ _ ?_ ?_
  · (go_keep)
  clear hK K
  (try simp only [Act.put]); (try go_simp)
  apply wpTk_l rfl
  intro K hK
  go_simp; go_at_call 32; refine (add_any M k k v L ⟨w.heap.size, 0, none⟩ (List.replicate k 0) _ (by exact HM0.out) (by simp) (by omega) (by omega) hL (by exact HN0.out)).mono ?_; rintro e w3 ⟨v', r, rfl, hm3, hr1, hr2, hch3, hrb, hrbb, hv'⟩; obtain ⟨hch3, hrb, hrbb, hv'⟩ := add_back hch3 hrb hrbb hv'; have hR3 := hch3.keep HR.out hb.out.1; have HM3 := hide hm3; have HCH3 := hide hch3; have HRB := hide hrb; have HRBB := hide hrbb; have HV' := hide hv'; clear hm3 hch3 hrb hrbb hv'; obtain ⟨hc0', hc1', hc2', hc3', hc4', hf3', hf1'⟩ := HC.out w3 (.pointer none) hR3
  refine hK _ _ ?_ ?_
  · (exact hc2')
  clear hK K
  (try simp only [Act.put]); (try go_simp)
  apply wpTk_p rfl
  · intro _; first | rfl | (go_simp; rfl)
  (try simp only [Act.put]); (try go_simp)
  apply wpTk_l rfl
  intro K hK
  go_simp
  refine hK _ _ ?_ ?_
  · (go_keep)
  clear hK K
  (try simp only [Act.put]); (try go_simp)
  apply wpTk_p rfl
  · intro _; first | rfl | (go_simp; rfl)
  (try simp only [Act.put]); (try go_simp)
  apply wpTk_nil
  have HB3 := hide (H.out.ring.chg HCH3.out (ring_beside H.out.mem H.out.ring))
  clear hc0 hc1 hc2 hc3 hc4 hf3 hf1 hc0' hc2' hf3' hf1' HM0 HN0
  go_wp2_with fail
  have hX4 := heap_alloc_new w3 (.cells #[.int .i64 ((L.length : Int) + 1), .int .i64 (k : Int), .int .i64 0, .slice none 0 0] 74)
  have hch4 : Chg [] w3 (w3.alloc (.cells #[.int .i64 ((L.length : Int) + 1), .int .i64 (k : Int), .int .i64 0, .slice none 0 0] 74)) := (Chg.refl [] w3).alloc _
  generalize w3.alloc (.cells #[.int .i64 ((L.length : Int) + 1), .int .i64 (k : Int), .int .i64 0, .slice none 0 0] 74) = w4 at *
  have hR4 := hch4.keep hR3 (by simp)
  obtain ⟨_, hc1, _, hc3, hc4, _, _⟩ := HC.out w4 (.pointer none) hR4
  have hcX : w4.cell? ⟨w3.heap.size, 0, none⟩ = some (.int .i64 ((L.length : Int) + 1)) := by rw [cell_of_row w4 _ 0 _ _ _ hX4]; rfl
  obtain ⟨X, hXX⟩ : ∃ X, X = w3.heap.size := ⟨_, rfl⟩
  rw [← hXX] at hX4 hcX ⊢
  have HX4 := hide hX4
  have HCH4 := hide hch4
  have HXX := hide hXX
  have HRV := hide (HB3.out.row.chg hch4 (by simp))
  have hnoid := hide (fresh_id H.out)
  clear hX4 hch4 hXX
  refine wp_region_tk [(0, 0), (1, 0), (2, 0), (3, 0), (4, 0), (5, 1), (6, 0), (7, 0), (8, 0), (9, 1), (10, 0), (11, 0), (12, 0), (13, 1), (14, 0), (17, 0), (18, 0), (19, 0), (20, 1), (21, 0), (24, 0), (15, 2), (16, 2), (22, 2), (23, 0), (25, 0), (26, 0), (27, 3), (28, 0), (29, 0), (30, 3), (31, 3), (32, 0), (33, 3)] 27 (fun w' => w'.cell? ⟨R, 4, none⟩ = some (.map (some T)) ∧ w'.cell? ⟨X, 0, none⟩ = some (.int .i64 ((L.length : Int) + 1)) ∧ w'.cell? ⟨R, 3, none⟩ = some rv ∧ w'.cell? ⟨R, 1, none⟩ = some (.int .i64 (used Q))) (by kernel_rfl) (by kernel_rfl) (by kernel_rfl) rfl (by intro d v c a w h; cases d <;> exact h) ⟨hc4, hcX, hc3, hc1⟩ ?_
  simp only [tkList, List.filterMap_cons, List.filterMap_nil, List.getElem?_toArray, List.getElem?_cons_zero, List.getElem?_cons_succ, Option.map_some, guardAt, Option.map_none, Oper.bare]
  apply wpTk_p rfl
  · intro _; first | rfl | (go_simp; rfl)
  (try simp only [Act.put]); (try go_simp)
  apply wpTk_p rfl
  · intro _; first | rfl | (go_simp; rfl)
  (try simp only [Act.put]); (try go_simp)
  apply wpTk_p rfl
  · intro _; first | rfl | (go_simp; rfl)
  (try simp only [Act.put]); (try go_simp)
  apply wpTk_p rfl
  · intro _; first | rfl | (go_simp; rfl)
  (try simp only [Act.put]); (try go_simp)
  apply wpTk_p rfl
  · intro _; first | rfl | (go_simp; rfl)
  (try simp only [Act.put]); (try go_simp)
  apply wpTk_h rfl
  · intro w' hS; (try dsimp only at hS); go_simp; rfl
  (try simp only [Act.put]); (try go_simp)
  apply wpTk_p rfl
  · intro _; first | rfl | (go_simp; rfl)
  (try simp only [Act.put]); (try go_simp)
  apply wpTk_p rfl
  · intro _; first | rfl | (go_simp; rfl)
  (try simp only [Act.put]); (try go_simp)
  apply wpTk_p rfl
  · intro _; first | rfl | (go_simp; rfl)
  (try simp only [Act.put]); (try go_simp)
  apply wpTk_h rfl
  · intro w' hS; (try dsimp only at hS); go_simp; rfl
  (try simp only [Act.put]); (try go_simp)
  apply wpTk_p rfl
  · intro _; first | rfl | (go_simp; rfl)
  (try simp only [Act.put]); (try go_simp)
  apply wpTk_p rfl
  · intro _; first | rfl | (go_simp; rfl)
  (try simp only [Act.put]); (try go_simp)
  apply wpTk_p rfl
  · intro _; first | rfl | (go_simp; rfl)
  (try simp only [Act.put]); (try go_simp)
  apply wpTk_h rfl
  · intro w' hS; (try dsimp only at hS); go_simp; rfl
  (try simp only [Act.put]); (try go_simp)
  apply wpTk_p rfl
  · intro _; first | rfl | (go_simp; rfl)
  (try simp only [Act.put]); (try go_simp)
  apply wpTk_p rfl
  · intro _; first | rfl | (go_simp; rfl)
  (try simp only [Act.put]); (try go_simp)
  apply wpTk_p rfl
  · intro _; first | rfl | (go_simp; rfl)
  (try simp only [Act.put]); (try go_simp)
  apply wpTk_p rfl
  · intro _; first | rfl | (go_simp; rfl)
  (try simp only [Act.put]); (try go_simp)
  apply wpTk_h rfl
  · intro w' hS; (try dsimp only at hS); go_simp; rfl
  (try simp only [Act.put]); (try go_simp)
  apply wpTk_p rfl
  · intro _; first | rfl | (go_simp; rfl)
  (try simp only [Act.put]); (try go_simp)
  apply wpTk_p rfl
  · intro _; first | rfl | (go_simp; rfl)
  (try simp only [Act.put]); (try go_simp)
  apply wpTk_l rfl
  intro K hK
  go_simp
  refine hK _ _ ?_ ?_
  · (go_keep)
  clear hK K
  (try simp only [Act.put]); (try go_simp)
  apply wpTk_l rfl
  intro K hK
  refine wp_append_rowat _ (.tmp 50) (.tmp 52) 65 rfl 71 i0 (.pointer none) 1 8 Tryd.underlying65 hi hz0 hz1 hz2 rfl rv Q.length _ rfl (by exact HRV.out.alloc _) ⟨w4.heap.size, 0, none⟩ 1 1 [.pointer (some ⟨X, 0, none⟩)] rfl rfl (by exact news_one _ _ _ _ (by simp)) (by simp [Value.oneCell']) (by omega) (by unfold maxLen; omega) (by omega) (w4.heap.size + 1) (by simp) ?_; intro g2 off2 cap2 w5 hr5 hch5 hg5 hlt5; obtain ⟨hch5, hR5, hT5, hX5, hg5⟩ := res_mid HB3.out HCH4.out HXX.out HX4.out ((((Chg.refl _ w4).alloc _).drew).trans hch5 (fun x hx => .inl hx)) hg5; have HR5 := hide hR5; have HT5 := hide hT5; have HX5 := hide hX5; have HCH5 := hide hch5; have HG5 := hide hg5; have HRW5 := hide hr5; clear hr5 hch5 hg5 hT5; obtain ⟨_, hc1, _, hc3, hc4, hf3, hf1⟩ := HC.out w5 (.pointer none) hR5; have hcX : w5.cell? ⟨X, 0, none⟩ = some (.int .i64 ((L.length : Int) + 1)) := by { rw [cell_of_row w5 _ 0 _ _ _ hX5]; rfl }; clear hR5 hX5
  refine hK _ _ ?_ ?_
  · (exact ⟨hc4, hcX, hc3, hc1⟩)
  clear hK K
  (try simp only [Act.put]); (try go_simp)
  apply wpTk_l rfl
  intro K hK
  go_simp; go_at_call 31; refine (takes_any k _ h2).mono ?_; rintro e w' ⟨rfl, rfl⟩
  refine hK _ _ ?_ ?_
  · (exact ⟨hc4, hcX, hc3, hc1⟩)
  clear hK K
  (try simp only [Act.put]); (try go_simp)
  apply wpTk_p rfl
  · intro _; first | rfl | (go_simp; rfl)
  (try simp only [Act.put]); (try go_simp)
  apply wpTk_p rfl
  · intro _; first | rfl | (go_simp; rfl)
  (try simp only [Act.put]); (try go_simp)
  apply wpTk_p rfl
  · intro _; first | rfl | (go_simp; rfl)
  (try simp only [Act.put]); (try go_simp)
  apply wpTk_e rfl
  intro K hK
  go_simp
  refine hK _ _ ?_
  clear hK K
  (try simp only [Act.put]); (try go_simp)
  apply wpTk_p rfl
  · intro _; first | rfl | (go_simp; rfl)
  (try simp only [Act.put]); (try go_simp)
  apply wpTk_p rfl
  · intro _; first | rfl | (go_simp; rfl)
  (try simp only [Act.put]); (try go_simp)
  apply wpTk_e rfl
  intro K hK
  go_simp
  refine hK _ _ ?_
  clear hK K
  (try simp only [Act.put]); (try go_simp)
  apply wpTk_e rfl
  intro K hK
  refine wp_mapEntry_gen (K := T) (E := E) (clock := clock) (.tmp 42) (.tmp 46) rfl rfl rfl (by exact map_after HT5.out HR5.out _ _) hnoid.out ?_; intro w6 hw6; have HW6 := hide hw6; clear hw6
  refine hK _ _ ?_
  clear hK K
  (try simp only [Act.put]); (try go_simp)
  apply wpTk_p rfl
  · intro _; first | rfl | (go_simp; rfl)
  (try simp only [Act.put]); (try go_simp)
  apply wpTk_e rfl
  intro K hK
  refine wp_entryStore_gen (K := T) (E := E) (clock := clock) (.tmp 42) (.tmp 67) (.tmp 61) rfl rfl rfl rfl (by rw [HW6.out]; exact heap_setBlock_same (map_after HT5.out HR5.out _ _) _) H.out.ring.born ?_; intro wf hwf; rw [HW6.out] at hwf; have HWF := hide hwf; clear hwf
  refine hK _ _ ?_
  clear hK K
  (try simp only [Act.put]); (try go_simp)
  apply wpTk_nil
  obtain ⟨t1, t2, t3, t4, t5⟩ := res_tail HB3.out HCH5.out HR5.out HT5.out HX5.out (by have := HXX.out; omega) HRW5.out HWF.out
  have hcXf : wf.cell? ⟨X, 0, none⟩ = some (.int .i64 ((L.length : Int) + 1)) := by rw [cell_of_row wf _ 0 _ _ _ t4]; rfl
  have T1 := hide t1
  have T2 := hide t2
  have T3 := hide t3
  have T4 := hide t4
  have T5 := hide t5
  clear t1 t2 t3 t4 t5 hc1 hc3 hc4 hf3 hf1
  go_wp2_with fail
  go_ret2
  have hfin := res_end H.out ⟨h1, h2⟩ HS.out HM3.out hr1 hr2 HCH3.out HRB.out HRBB.out HV'.out T1.out (Nat.le_of_eq HXX.out.symm) T4.out T2.out T3.out T5.out (fun g hg => by
    have : g2 = g := by simpa [Value.ownBlock] using hg
    subst this
    exact HG5.out)
  exact ⟨r, X, v', _, rfl, hr1, hr2, hfin.1, hfin.2⟩
end Go.Proofs.YtliikmmcbbmppaaDoor
