/- The end of a record of the program's ring: the walk. -/
import Derived.Test.YtliikmmcbbmppaaDoorEnd
namespace Go.Proofs.YtliikmmcbbmppaaDoor
open Go.RowKit Go.ChangeMaps

set_option maxRecDepth 100000 in
set_option maxHeartbeats 1000000 in
theorem ends_miss (R T : Nat) (id : Int) (st : Nat) (w : World) (hc4 : w.cell? ⟨R, 4, none⟩ = some (.map (some T)))
    (hlk : (Instr.lookup 64 (.map (some T)) (.int .i64 id) true).run Tryd.prog w = .ok (.tuple #[.pointer none, .bool false]) w) :
    Calls Tryd.prog 35 #[.pointer (some ⟨R, 0, none⟩), .int .i64 id, .int .i64 (st : Nat)] w fun e w' => e = .returned (.int .i64 101) ∧ w = w' := by
  go_enter Tryd.func35, Tryd.ntmps35
  go_wp2_with fail
  go_ret
  exact ⟨rfl, rfl⟩

/-- What lies behind the bytes' copying. -/
theorem ends_mid {w w2 : World} {M R T : Nat} {v rv : Value} {L : List RegL} {size : Int} {Q : List RecL} {q : RecL} {E E' : List Ent} {clock : Nat} {u : Value}
    (h : AllM w M R T v L size rv Q E clock) (hqm : q ∈ Q) (hch : Chg [] (w.setCell ⟨q.blk, 2, none⟩ u) w2) :
    w2.cell? ⟨R, 4, none⟩ = some (.map (some T)) ∧ w2.cell? ⟨R, 2, none⟩ = some (.pointer (some ⟨M, 0, none⟩)) ∧ w2.cell? ⟨q.blk, 3, none⟩ = some q.bval ∧ w2.frozen? ⟨q.blk, 3, none⟩ = false ∧
    (∀ b : Value, (w2.setCell ⟨q.blk, 3, none⟩ b).heap[T]? = some (mapObj E clock)) ∧
    (∀ (b : Value) w4, w4 = setBlock (w2.setCell ⟨q.blk, 3, none⟩ b) T (mapObj E' clock) → w4.cell? ⟨R, 2, none⟩ = some (.pointer (some ⟨M, 0, none⟩)) ∧ MemM w4 M v L) := by
  obtain ⟨hqb, _⟩ := h.ring.recs q hqm
  have c1 : Chg [q.blk] w (w.setCell ⟨q.blk, 2, none⟩ u) := (Chg.refl [q.blk] w).setCell _ (by simp) _
  have c2 : Chg [q.blk] w w2 := c1.trans hch (by simp)
  have hTq : T ≠ q.blk := map_no_cells h.ring.tab hqb
  have hRq : R ≠ q.blk := blk_ne h.ring.root hqb (by decide)
  have hRT : R ≠ T := (map_no_cells h.ring.tab h.ring.root).symm
  have hR2 := c2.keep h.ring.root (by simpa using hRq)
  have hq2 := hch.keep (heap_setCell_same w q.blk 2 _ 74 u hqb) (by simp)
  have c3 : ∀ b : Value, Chg [q.blk] w (w2.setCell ⟨q.blk, 3, none⟩ b) := fun b => c2.setCell _ (by simp) _
  refine ⟨by rw [cell_of_row w2 R 4 _ _ _ hR2]; rfl, by rw [cell_of_row w2 R 2 _ _ _ hR2]; rfl, by rw [cell_of_row w2 q.blk 3 _ _ _ hq2]; rfl, by simp [World.frozen?, hq2], fun b => (c3 b).keep h.ring.tab (by simpa using hTq), fun b w4 hw4 => ?_⟩
  have hT3 := (c3 b).keep h.ring.tab (by simpa using hTq)
  have c4 : Chg [q.blk, T] w w4 := by
    rw [hw4]
    exact ((c3 b).mono (T := [q.blk, T]) (by simp)).trans (setBlock_chg hT3) (by simp)
  have hR4 := c4.keep h.ring.root (by simp [hRq, hRT])
  refine ⟨by rw [cell_of_row w4 R 2 _ _ _ hR4]; rfl, h.mem.chg c4 fun y hy hm => mem_beside h.mem h.ring y hy ?_⟩
  simp only [List.mem_cons, List.not_mem_nil, or_false] at hm
  rcases hm with rfl | rfl
  · simp only [List.mem_cons, List.mem_append, List.mem_map]
    exact .inr (.inr (.inr ⟨q, hqm, rfl⟩))
  · simp

set_option maxRecDepth 100000 in
set_option maxHeartbeats 1000000 in
theorem ends_hit {w : World} {M R T i : Nat} {v rv : Value} {L : List RegL} {r : RegL} {size : Int} {Q1 Q2 : List RecL} {q : RecL} {E1 E2 : List Ent} {x : Ent} {clock st : Nat}
    (h : AllM w M R T v L size rv (Q1 ++ q :: Q2) (E1 ++ x :: E2) clock) (hq : q.st = 0) (hi : L[i]? = some r) (hid : q.id = i + 1) (hxid : x.id = (i : Int) + 1) (hxb : x.blk = q.blk) (hn : ∀ y ∈ E1, y.id ≠ x.id) :
    Calls Tryd.prog 35 #[.pointer (some ⟨R, 0, none⟩), .int .i64 ((i : Int) + 1), .int .i64 (st : Nat)] w (fun e w5 => ∃ w2 w3 w4 g off cap, e = .returned (.int .i64 0) ∧
      Chg [] (w.setCell ⟨q.blk, 2, none⟩ (.int .i64 st)) w2 ∧ RowAt w2 5 1 (.slice (some ⟨g, off, none⟩) r.bytes.length cap) r.bytes.length (bytesV r.bytes) ∧ w.heap.size ≤ g ∧
      w3 = w2.setCell ⟨q.blk, 3, none⟩ (.slice (some ⟨g, off, none⟩) r.bytes.length cap) ∧ w4 = setBlock w3 T (mapObj (E1 ++ E2) clock) ∧ MemM w5 M v (L.set i { r with dead := true }) ∧ Chg [r.blk] w4 w5) := by
  have hqm : q ∈ Q1 ++ q :: Q2 := by simp
  obtain ⟨hqb, _⟩ := h.ring.recs q hqm
  have hrl := (h.mem.reg r (List.mem_of_getElem? hi)).1
  have hlen : r.bytes.length ≤ 140737488355328 := by have := h.lens r (List.mem_of_getElem? hi); omega
  have hlk := run_lookup_at h.ring.tab hn
  rw [hxid, hxb] at hlk
  have hTq : T ≠ q.blk := map_no_cells h.ring.tab hqb
  have hRq : R ≠ q.blk := blk_ne h.ring.root hqb (by decide)
  have hRT : R ≠ T := (map_no_cells h.ring.tab h.ring.root).symm
  have hqf : w.frozen? ⟨q.blk, 2, none⟩ = false := by simp [World.frozen?, hqb, RecL.obj]
  have hqc : w.cell? ⟨q.blk, 2, none⟩ = some (.int .i64 q.st) := by rw [cell_of_row w _ 2 _ _ _ hqb]; rfl
  have hc4 : w.cell? ⟨R, 4, none⟩ = some (.map (some T)) := by rw [cell_of_row w R 4 _ _ _ h.ring.root]; rfl
  have hc2 : w.cell? ⟨R, 2, none⟩ = some (.pointer (some ⟨M, 0, none⟩)) := by rw [cell_of_row w R 2 _ _ _ h.ring.root]; rfl
  have hMq : MemM (w.setCell ⟨q.blk, 2, none⟩ (.int .i64 st)) M v L := h.mem.chg (S := [q.blk]) ((Chg.refl [q.blk] w).setCell _ (by simp) _) fun y hy hm => mem_beside h.mem h.ring y hy (by
    obtain rfl := List.mem_singleton.1 hm
    simp)
  have HM := hide hMq
  have HR := hide h.ring.root
  have HT := hide h.ring.tab
  have HQ := hide hqb
  have HN := hide hn
  have H := hide h
  have hkx := hide (hxid.symm)
  clear hMq hqb hn h hrl
  go_enter Tryd.func35, Tryd.ntmps35
  go_wp2_with (first | (go_at_call 40; refine (bytes_any (by exact HM.out) hi hlen).mono ?_; rintro e w2 ⟨g, off, cap, rfl, hrow, hch, hg, hlt⟩; have HCH := hide hch; have HROW := hide hrow; have hgs : w.heap.size ≤ g := (by simpa using hg); clear hch hrow hg hlt; obtain ⟨f1, f2, f3, f4, f5, f6⟩ := ends_mid (E' := E1 ++ E2) H.out hqm HCH.out; have F5 := hide f5; have F6 := hide f6; clear f5 f6) | (with_reducible refine wpList_delete_at (K := T) (E1 := E1) (E2 := E2) (x := x) (clock := clock) rfl (.tmp 39) (.tmp 40) rfl rfl rfl hkx.out (F5.out _) HN.out ?_; intro w4 hw4; have HW4 := hide hw4; clear hw4; obtain ⟨g2, gm⟩ := F6.out _ _ HW4.out; have HM4 := hide gm; clear gm) | (go_at_call 41; refine (kill_any (by exact HM4.out) hi).mono ?_; rintro e w5 ⟨rfl, hm5, hc5⟩))
  go_ret
  exact ⟨w2, _, w4, g, off, cap, rfl, HCH.out, HROW.out, hgs, rfl, HW4.out, hm5, hc5⟩
end Go.Proofs.YtliikmmcbbmppaaDoor
