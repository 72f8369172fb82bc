/- The calls of the reference's memory: which part a number names, adding one, killing it, whether it lives, its bytes, writing its bytes over. -/
import Derived.Test.YtliikmmcbbmppaaDoorRepR
namespace Go.Proofs.YtliikmmcbbmppaaDoor
open Go.RowKit

theorem Tryd.info88 : (Tryd.prog.info? 88).map (fun i => (i.zero, i.size, i.bytes)) = some (some (.pointer none), 1, 8) := by kernel_rfl

/-- The zero value of a part. -/
noncomputable def zero98 : Array Value := ((Tryd.prog.info? 98).bind (·.zero)).elim #[] Value.cells
theorem zero98_size : zero98.size = 390 := by kernel_rfl
theorem zero98_one : zero98[1]? = some (.bool false) := by kernel_rfl
noncomputable def partCells (x y z : Value) : Array Value := (((zero98.setIfInBounds 0 (.bool true)).setIfInBounds 2 x).setIfInBounds 3 y).setIfInBounds 4 z
theorem partCells_size (x y z : Value) : (partCells x y z).size = 390 := by simp [partCells, zero98_size]
theorem partCells_0 (x y z : Value) : (partCells x y z)[0]? = some (.bool true) := by simp [partCells, Array.getElem?_setIfInBounds, zero98_size]
theorem partCells_1 (x y z : Value) : (partCells x y z)[1]? = some (.bool false) := by
  unfold partCells
  rw [Array.getElem?_setIfInBounds_ne (by decide), Array.getElem?_setIfInBounds_ne (by decide), Array.getElem?_setIfInBounds_ne (by decide), Array.getElem?_setIfInBounds_ne (by decide)]
  exact zero98_one
theorem partCells_4 (x y z : Value) : (partCells x y z)[4]? = some z := by simp [partCells, Array.getElem?_setIfInBounds, zero98_size]

theorem build98 (b : Bool) (k : Int) (a : Option Addr) (n c : Nat) (w : World) :
    (Instr.build 98 #[(0, .bool true), (2, .bool b), (3, .int .i64 k), (4, .slice a n c)]).run Tryd.prog w = .ok (.agg (partCells (.bool b) (.int .i64 k) (.slice a n c))) w := by
  kernel_rfl

set_option maxHeartbeats 400000 in
theorem part_low (M A o n c i : Nat) (v : Value) (w : World) (hi : i < n) (_hn : n ≤ 9223372036854775807)
    (h1 : w.cell? ⟨M, 0, none⟩ = some (.slice (some ⟨A, o, none⟩) n c)) (h2 : w.cell? ⟨A, o + i, none⟩ = some v) :
    Calls Tryd.prog 38 #[.pointer (some ⟨M, 0, none⟩), .int .i64 ((i : Int) + 1)] w fun e w' => e = .returned v ∧ w = w' := by
  go_enter Tryd.func38, Tryd.ntmps38
  go_wp2
  go_ret
  exact ⟨rfl, rfl⟩

set_option maxHeartbeats 400000 in
theorem part_out_low (M n c : Nat) (b : Option Addr) (id : Int) (w : World) (hi : id < 1 ∨ (n : Int) < id)
    (h1 : w.cell? ⟨M, 0, none⟩ = some (.slice b n c)) :
    Calls Tryd.prog 38 #[.pointer (some ⟨M, 0, none⟩), .int .i64 id] w fun e w' => e = .returned (.pointer none) ∧ w = w' := by
  by_cases h : id < 1
  · go_enter Tryd.func38, Tryd.ntmps38
    go_wp2
    go_ret
    exact ⟨rfl, rfl⟩
  · have h' : (n : Int) < id := by omega
    go_enter Tryd.func38, Tryd.ntmps38
    go_wp2
    go_ret
    exact ⟨rfl, rfl⟩

theorem part_hit {M : Nat} {v : Value} {L : List RegL} {w : World} (h : MemR w M v L) {i : Nat} {r : RegL} (hi : L[i]? = some r) :
    Calls Tryd.prog 38 #[.pointer (some ⟨M, 0, none⟩), .int .i64 ((i : Int) + 1)] w fun e w' => e = .returned (.pointer (some ⟨r.blk, 0, none⟩)) ∧ w = w' := by
  have hlt : i < L.length := (List.getElem?_eq_some_iff.1 hi).1
  have hroot := h.root
  have hrow := h.row
  rcases hrow.2 with ⟨_, h0⟩ | ⟨g, off, cap, cur, rfl, _, hnc, hcm, _⟩
  · omega
  · have hc := (RowAt.cell hrow (j := i) (u := .pointer (some ⟨r.blk, 0, none⟩)) (by simp [hi])).1
    exact part_low M g off L.length cap i _ w hlt (by unfold maxLen at hcm; omega) (by rw [cell_of_row w M 0 _ _ _ hroot]; rfl) hc
theorem part_out {M : Nat} {v : Value} {L : List RegL} {w : World} (h : MemR w M v L) {id : Int} (hi : id < 1 ∨ (L.length : Int) < id) :
    Calls Tryd.prog 38 #[.pointer (some ⟨M, 0, none⟩), .int .i64 id] w fun e w' => e = .returned (.pointer none) ∧ w = w' := by
  obtain ⟨ao, cap, rfl, _, _, _⟩ := h.row.shape
  exact part_out_low M L.length cap ao id w hi (by rw [cell_of_row w M 0 _ _ _ h.root]; rfl)

theorem PartIs.cell {w : World} {r : RegL} (h : PartIs w r) : w.cell? ⟨r.blk, 0, none⟩ = some (.bool (!r.dead)) ∧ w.frozen? ⟨r.blk, 0, none⟩ = false ∧ w.cell? ⟨r.blk, 1, none⟩ = some (.bool false) ∧ w.cell? ⟨r.blk, 4, none⟩ = some r.bv := by
  obtain ⟨cs, h1, _, h3, h4, h5⟩ := h.ex
  exact ⟨(cell_of_row w r.blk 0 _ _ _ h1).trans h3, by simp [World.frozen?, h1], (cell_of_row w r.blk 1 _ _ _ h1).trans h4, (cell_of_row w r.blk 4 _ _ _ h1).trans h5⟩

set_option maxRecDepth 100000 in
set_option maxHeartbeats 1000000 in
theorem rkill_low (M R : Nat) (id : Int) (w : World) (hR : w.cell? ⟨R, 0, none⟩ = some (.bool true)) (hR1 : w.cell? ⟨R, 1, none⟩ = some (.bool false)) (hf : w.frozen? ⟨R, 0, none⟩ = false)
    (hat : Calls Tryd.prog 38 #[.pointer (some ⟨M, 0, none⟩), .int .i64 id] w fun e w' => e = .returned (.pointer (some ⟨R, 0, none⟩)) ∧ w = w') :
    Calls Tryd.prog 43 #[.pointer (some ⟨M, 0, none⟩), .int .i64 id] w fun e w' => e = .returned (.bool true) ∧ w' = w.setCell ⟨R, 0, none⟩ (.bool false) := by
  have HA := hide hat
  clear hat
  go_enter Tryd.func43, Tryd.ntmps43
  go_wp2_with (first | (go_at_call 38; refine HA.out.mono ?_; rintro e w' ⟨rfl, rfl⟩))
  go_ret
  exact ⟨rfl, rfl⟩

set_option maxRecDepth 100000 in
set_option maxHeartbeats 1000000 in
theorem rkill_dead (M R : Nat) (id : Int) (w : World) (hR : w.cell? ⟨R, 0, none⟩ = some (.bool false))
    (hat : Calls Tryd.prog 38 #[.pointer (some ⟨M, 0, none⟩), .int .i64 id] w fun e w' => e = .returned (.pointer (some ⟨R, 0, none⟩)) ∧ w = w') :
    Calls Tryd.prog 43 #[.pointer (some ⟨M, 0, none⟩), .int .i64 id] w fun e w' => e = .returned (.bool false) ∧ w = w' := by
  have HA := hide hat
  clear hat
  go_enter Tryd.func43, Tryd.ntmps43
  go_wp2_with (first | (go_at_call 38; refine HA.out.mono ?_; rintro e w' ⟨rfl, rfl⟩))
  go_ret
  exact ⟨rfl, rfl⟩

set_option maxRecDepth 100000 in
set_option maxHeartbeats 1000000 in
theorem rlive_low (M R : Nat) (b : Bool) (id : Int) (w : World) (hR : w.cell? ⟨R, 0, none⟩ = some (.bool b))
    (hat : Calls Tryd.prog 38 #[.pointer (some ⟨M, 0, none⟩), .int .i64 id] w fun e w' => e = .returned (.pointer (some ⟨R, 0, none⟩)) ∧ w = w') :
    Calls Tryd.prog 30 #[.pointer (some ⟨M, 0, none⟩), .int .i64 id] w fun e w' => e = .returned (.bool b) ∧ w = w' := by
  have HA := hide hat
  clear hat
  go_enter Tryd.func30, Tryd.ntmps30
  go_wp2_with (first | (go_at_call 38; refine HA.out.mono ?_; rintro e w' ⟨rfl, rfl⟩))
  go_ret
  exact ⟨rfl, rfl⟩

set_option maxRecDepth 100000 in
set_option maxHeartbeats 1000000 in
theorem rlive_none (M : Nat) (id : Int) (w : World)
    (hat : Calls Tryd.prog 38 #[.pointer (some ⟨M, 0, none⟩), .int .i64 id] w fun e w' => e = .returned (.pointer none) ∧ w = w') :
    Calls Tryd.prog 30 #[.pointer (some ⟨M, 0, none⟩), .int .i64 id] w fun e w' => e = .returned (.bool false) ∧ w = w' := by
  have HA := hide hat
  clear hat
  go_enter Tryd.func30, Tryd.ntmps30
  go_wp2_with (first | (go_at_call 38; refine HA.out.mono ?_; rintro e w' ⟨rfl, rfl⟩))
  go_ret
  exact ⟨rfl, rfl⟩

/-- Live. -/
theorem rlive_any {M : Nat} {v : Value} {L : List RegL} {w : World} (h : MemR w M v L) (id : Int) :
    Calls Tryd.prog 30 #[.pointer (some ⟨M, 0, none⟩), .int .i64 id] w fun e w' => e = .returned (.bool (amLive (absM L) id)) ∧ w = w' := by
  rw [← live_abs]
  by_cases hid : 1 ≤ id ∧ id ≤ L.length
  · obtain ⟨i, rfl⟩ : ∃ i : Nat, id = (i : Int) + 1 := ⟨(id - 1).toNat, by omega⟩
    have hlt : i < L.length := by omega
    have hi : L[i]? = some L[i] := by simp [hlt]
    have h1 := (h.reg L[i] (List.mem_of_getElem? hi)).1.cell
    refine (rlive_low M L[i].blk (!L[i].dead) _ w h1.1 (part_hit h hi)).mono ?_
    rintro e w' ⟨rfl, rfl⟩
    refine ⟨?_, rfl⟩
    rw [if_pos (by omega), show ((i : Int) + 1 - 1).toNat = i by omega, hi]
    rfl
  · refine (rlive_none M id w (part_out h (by omega))).mono ?_
    rintro e w' ⟨rfl, rfl⟩
    refine ⟨?_, rfl⟩
    by_cases h1 : 1 ≤ id
    · rw [if_pos h1, List.getElem?_eq_none (by omega)]; rfl
    · rw [if_neg h1]

/-- Kill, of a part that is there. -/
theorem rkill_any {M : Nat} {v : Value} {L : List RegL} {w : World} (h : MemR w M v L) {i : Nat} {r : RegL} (hi : L[i]? = some r) :
    Calls Tryd.prog 43 #[.pointer (some ⟨M, 0, none⟩), .int .i64 ((i : Int) + 1)] w fun e w' => e = .returned (.bool (!r.dead)) ∧ MemR w' M v (L.set i { r with dead := true }) ∧ Chg [r.blk] w w' := by
  obtain ⟨h1, h2, h3⟩ := h.reg r (List.mem_of_getElem? hi)
  obtain ⟨c0, cf, c1, _⟩ := h1.cell
  cases hd : r.dead with
  | true =>
    rw [hd] at c0
    refine (rkill_dead M r.blk _ w c0 (part_hit h hi)).mono ?_
    rintro e w' ⟨rfl, rfl⟩
    refine ⟨rfl, ?_, Chg.refl _ _⟩
    have : L.set i { r with dead := true } = L := by
      have e : { r with dead := true } = r := by cases r; simp_all
      rw [e]
      apply List.ext_getElem?
      intro j
      rw [List.getElem?_set]
      split
      · rename_i hij; subst hij; simp [hi]; exact (List.getElem?_eq_some_iff.1 hi).1
      · rfl
    rw [this]
    exact h
  | false =>
    rw [hd] at c0
    refine (rkill_low M r.blk _ w c0 c1 cf (part_hit h hi)).mono ?_
    rintro e w' ⟨rfl, rfl⟩
    have hc := Chg.setCell (Chg.refl [r.blk] w) ⟨r.blk, 0, none⟩ (.inl (by simp)) (.bool false)
    refine ⟨rfl, h.upd hi rfl rfl hc (by simp) ?_ (h2.chg hc fun g hg hm => ?_) h3, hc⟩
    · obtain ⟨cs, g1, g2, g3, g4, g5⟩ := h1.ex
      refine ⟨cs.setIfInBounds 0 (.bool false), heap_setCell_same w r.blk 0 _ 98 (.bool false) g1, by simpa using g2, ?_, ?_, ?_⟩
      · simp [Array.getElem?_setIfInBounds, g2]
      · rw [Array.getElem?_setIfInBounds_ne (by decide)]; exact g4
      · rw [Array.getElem?_setIfInBounds_ne (by decide)]; exact g5
    · exact h1.own h2 (by decide) (by rw [hg]; simpa using hm)

set_option maxRecDepth 100000 in
set_option maxHeartbeats 1000000 in
theorem rbytes_low (M R : Nat) (v : Value) (id : Int) (w : World) (hR : w.cell? ⟨R, 4, none⟩ = some v) (hR1 : w.cell? ⟨R, 1, none⟩ = some (.bool false))
    (hat : Calls Tryd.prog 38 #[.pointer (some ⟨M, 0, none⟩), .int .i64 id] w fun e w' => e = .returned (.pointer (some ⟨R, 0, none⟩)) ∧ w = w') :
    Calls Tryd.prog 42 #[.pointer (some ⟨M, 0, none⟩), .int .i64 id] w fun e w' => e = .returned (.tuple #[v, .bool true]) ∧ w = w' := by
  have HA := hide hat
  clear hat
  go_enter Tryd.func42, Tryd.ntmps42
  go_wp2_with (first | (go_at_call 38; refine HA.out.mono ?_; rintro e w' ⟨rfl, rfl⟩))
  go_ret2
  exact ⟨rfl, rfl⟩

/-- Bytes, of a part that is there: the very bytes. -/
theorem rbytes_any {M : Nat} {v : Value} {L : List RegL} {w : World} (h : MemR w M v L) {i : Nat} {r : RegL} (hi : L[i]? = some r) :
    Calls Tryd.prog 42 #[.pointer (some ⟨M, 0, none⟩), .int .i64 ((i : Int) + 1)] w fun e w' => e = .returned (.tuple #[r.bv, .bool true]) ∧ w = w' := by
  obtain ⟨h1, h2, h3⟩ := h.reg r (List.mem_of_getElem? hi)
  exact rbytes_low M r.blk r.bv _ w h1.cell.2.2.2 h1.cell.2.2.1 (part_hit h hi)

set_option maxRecDepth 100000 in
set_option maxHeartbeats 1000000 in
theorem rset_fits_low (M R g off n cap : Nat) (sp : Option Addr) (m c : Nat) (xs ys : List Value) (id : Int) (w : World) (hR : w.cell? ⟨R, 4, none⟩ = some (.slice (some ⟨g, off, none⟩) n cap)) (hR1 : w.cell? ⟨R, 1, none⟩ = some (.bool false))
    (hn : 0 < n) (_hb : n ≤ 140737488355328) (hle : m ≤ n) (hr : RowAt w 5 1 (.slice (some ⟨g, off, none⟩) n cap) n xs) (hy : ys.length = m) (h1 : ∀ v ∈ ys, v.oneCell' = true)
    (hsrc : ∀ ad, sp = some ad → ∀ j v, ys[j]? = some v → w.cell? (ad.add j) = some v) (hnone : sp = none → m = 0)
    (hat : Calls Tryd.prog 38 #[.pointer (some ⟨M, 0, none⟩), .int .i64 id] w fun e w' => e = .returned (.pointer (some ⟨R, 0, none⟩)) ∧ w = w') :
    Calls Tryd.prog 23 #[.pointer (some ⟨M, 0, none⟩), .int .i64 id, .int .i64 0, .slice sp m c] w (SetLow w g off n cap (ys ++ xs.drop m)) := by
  have HA := hide hat
  have HR := hide hr
  have HS := hide hsrc
  have HN := hide hnone
  have HY := hide hy
  have HO := hide h1
  clear hat hr hsrc hnone hy h1
  go_enter Tryd.func23, Tryd.ntmps23
  go_wp2_with (first | (go_at_call 38; refine HA.out.mono ?_; rintro e w' ⟨rfl, rfl⟩) | (with_reducible refine wpList_copy_rowat _ rfl (.tmp 51) (.tmp 52) 36 36 rfl 5 Tryd.underlying36 Tryd.info5s g off sp n cap m c rfl rfl 5 xs ys HR.out HY.out HS.out HN.out HO.out hle ?_; intro w1 hr1 hch1))
  go_ret
  exact ⟨rfl, hr1, hch1⟩

set_option maxRecDepth 100000 in
set_option maxHeartbeats 1000000 in
theorem rset_long_low (M R n cap : Nat) (bp sp : Option Addr) (m c : Nat) (id : Int) (w : World) (hR : w.cell? ⟨R, 4, none⟩ = some (.slice bp n cap)) (hR1 : w.cell? ⟨R, 1, none⟩ = some (.bool false))
    (hn : 0 < n) (hb : n ≤ 140737488355328) (hle : n < m)
    (hat : Calls Tryd.prog 38 #[.pointer (some ⟨M, 0, none⟩), .int .i64 id] w fun e w' => e = .returned (.pointer (some ⟨R, 0, none⟩)) ∧ w = w') :
    Calls Tryd.prog 23 #[.pointer (some ⟨M, 0, none⟩), .int .i64 id, .int .i64 0, .slice sp m c] w fun e w' => e = .returned (.bool false) ∧ w = w' := by
  have HA := hide hat
  clear hat
  go_enter Tryd.func23, Tryd.ntmps23
  go_wp2_with (first | (go_at_call 38; refine HA.out.mono ?_; rintro e w' ⟨rfl, rfl⟩))
  go_ret
  exact ⟨rfl, rfl⟩

set_option maxRecDepth 100000 in
set_option maxHeartbeats 1000000 in
theorem rset_none_low (M : Nat) (sp : Option Addr) (m c : Nat) (id : Int) (w : World)
    (hat : Calls Tryd.prog 38 #[.pointer (some ⟨M, 0, none⟩), .int .i64 id] w fun e w' => e = .returned (.pointer none) ∧ w = w') :
    Calls Tryd.prog 23 #[.pointer (some ⟨M, 0, none⟩), .int .i64 id, .int .i64 0, .slice sp m c] w fun e w' => e = .returned (.bool false) ∧ w = w' := by
  have HA := hide hat
  clear hat
  go_enter Tryd.func23, Tryd.ntmps23
  go_wp2_with (first | (go_at_call 38; refine HA.out.mono ?_; rintro e w' ⟨rfl, rfl⟩))
  go_ret
  exact ⟨rfl, rfl⟩

def RSetPost (w : World) (M : Nat) (v : Value) (L : List RegL) (id : Int) (zs : List Int) (e : Ending) (w' : World) : Prop :=
  ∃ L', e = .returned (.bool (amSet (absM L) id zs).1) ∧ MemR w' M v L' ∧ absM L' = (amSet (absM L) id zs).2 ∧ L'.map (·.blk) = L.map (·.blk) ∧ L'.map (·.bb) = L.map (·.bb) ∧ Chg (fpM M v L) w w'

/-- Set, from the region's first byte on. -/
theorem rset_any {M : Nat} {v : Value} {L : List RegL} {w : World} (h : MemR w M v L) (id : Int) (sp : Option Addr) (m c : Nat) (zs : List Int) (hs : Src w sp m zs)
    (hb : ∀ r ∈ L, r.bytes.length ≤ 140737488355328) :
    Calls Tryd.prog 23 #[.pointer (some ⟨M, 0, none⟩), .int .i64 id, .int .i64 0, .slice sp m c] w (RSetPost w M v L id zs) := by
  by_cases hid : 1 ≤ id ∧ id ≤ L.length
  · obtain ⟨i, rfl⟩ : ∃ i : Nat, id = (i : Int) + 1 := ⟨(id - 1).toNat, by omega⟩
    have hlt : i < L.length := by omega
    have hi : L[i]? = some L[i] := by simp [hlt]
    have hmem := List.mem_of_getElem? hi
    obtain ⟨h1, h2, h3⟩ := h.reg L[i] hmem
    have hcell := h1.cell.2.2.2
    have hcell1 := h1.cell.2.2.1
    have eA : amSet (absM L) ((i : Int) + 1) zs = if zs.length ≤ L[i].bytes.length then (true, (absM L).set i (!L[i].dead, zs ++ L[i].bytes.drop zs.length)) else (false, absM L) := by
      unfold amSet
      rw [if_pos (by omega), show ((i : Int) + 1 - 1).toNat = i by omega]
      simp [absM, hi]
    by_cases hle : m ≤ L[i].bytes.length
    · refine (rset_fits_low M L[i].blk L[i].bb L[i].bo L[i].bytes.length L[i].cap sp m c _ (bytesV zs) _ w hcell hcell1 h3 (hb _ hmem) hle h2 (by rw [bytesV_len, hs.len]) (oneCell_bytes zs) hs.cell hs.none (part_hit h hi)).mono ?_
      rintro e w' ⟨rfl, hr, hc⟩
      have hlen : (zs ++ L[i].bytes.drop m).length = L[i].bytes.length := by simp [hs.len]; omega
      have hrow : RowAt w' 5 1 (RegL.bv { L[i] with bytes := zs ++ L[i].bytes.drop m }) (zs ++ L[i].bytes.drop m).length (bytesV (zs ++ L[i].bytes.drop m)) := by
        simp only [RegL.bv, hlen]
        simpa [bytesV, List.map_drop] using hr
      have hblk : L[i].blk ∉ [L[i].bb] := by
        simp only [List.mem_singleton]
        intro e
        exact h1.own h2 (by decide) (by simp [RegL.bv, Value.ownBlock, e])
      rw [RSetPost, eA, if_pos (by rw [hs.len]; exact hle)]
      refine ⟨L.set i { L[i] with bytes := zs ++ L[i].bytes.drop m }, rfl, h.upd hi rfl rfl hc (by simp) ?_ hrow (by show 0 < (zs ++ L[i].bytes.drop m).length; omega), ?_, map_set_same _ hi rfl, map_set_same _ hi rfl, hc.mono ?_⟩
      · obtain ⟨cs, g1, g2, g3, g4, g5⟩ := (h1.chg hc hblk).ex
        exact ⟨cs, g1, g2, g3, g4, by simpa [RegL.bv, hlen] using g5⟩
      · simp [absM, List.map_set, hs.len]
      · intro x hx
        obtain rfl : x = L[i].bb := by simpa using hx
        exact .inl (by simp only [fpM, List.mem_cons, List.mem_append, List.mem_map]; exact .inr (.inr (.inr ⟨L[i], hmem, rfl⟩)))
    · refine (rset_long_low M L[i].blk L[i].bytes.length L[i].cap _ sp m c _ w hcell hcell1 h3 (hb _ hmem) (by omega) (part_hit h hi)).mono ?_
      rintro e w' ⟨rfl, rfl⟩
      rw [RSetPost, eA, if_neg (by rw [hs.len]; exact hle)]
      exact ⟨L, rfl, h, rfl, rfl, rfl, Chg.refl _ _⟩
  · refine (rset_none_low M sp m c id w (part_out h (by omega))).mono ?_
    rintro e w' ⟨rfl, rfl⟩
    have eA : amSet (absM L) id zs = (false, absM L) := by
      unfold amSet
      by_cases h1 : 1 ≤ id
      · rw [if_pos h1, List.getElem?_eq_none (by simp [absM]; omega)]
      · rw [if_neg h1]
    rw [RSetPost, eA]
    exact ⟨L, rfl, h, rfl, rfl, rfl, Chg.refl _ _⟩

end Go.Proofs.YtliikmmcbbmppaaDoor
