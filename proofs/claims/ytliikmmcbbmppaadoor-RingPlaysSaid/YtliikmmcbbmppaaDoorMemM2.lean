/- The other calls of the program's memory: which region a number names, killing it, whether it lives, its bytes, writing its bytes over. -/
import Derived.Test.YtliikmmcbbmppaaDoorMemM
namespace Go.Proofs.YtliikmmcbbmppaaDoor
open Go.RowKit

set_option maxHeartbeats 400000 in
theorem at_low (M A o n c i : Nat) (v : Value) (w : World) (hi : i < n) (_hn : n ≤ 9223372036854775807)
    (h1 : w.cell? ⟨M, 0, none⟩ = some (.slice (some ⟨A, o, none⟩) n c)) (h2 : w.cell? ⟨A, o + i, none⟩ = some v) :
    Calls Tryd.prog 37 #[.pointer (some ⟨M, 0, none⟩), .int .i64 ((i : Int) + 1)] w fun e w' => e = .returned v ∧ w = w' := by
  go_enter Tryd.func37, Tryd.ntmps37
  go_wp2
  go_ret
  exact ⟨rfl, rfl⟩

set_option maxHeartbeats 400000 in
theorem at_out_low (M n c : Nat) (b : Option Addr) (id : Int) (w : World) (hi : id < 1 ∨ (n : Int) < id)
    (h1 : w.cell? ⟨M, 0, none⟩ = some (.slice b n c)) :
    Calls Tryd.prog 37 #[.pointer (some ⟨M, 0, none⟩), .int .i64 id] w fun e w' => e = .returned .nilIface ∧ w = w' := by
  by_cases h : id < 1
  · go_enter Tryd.func37, Tryd.ntmps37
    go_wp2
    go_ret
    exact ⟨rfl, rfl⟩
  · have h' : (n : Int) < id := by omega
    go_enter Tryd.func37, Tryd.ntmps37
    go_wp2
    go_ret
    exact ⟨rfl, rfl⟩

/-- The number of a region that is there. -/
theorem at_hit {M : Nat} {v : Value} {L : List RegL} {w : World} (h : MemM w M v L) {i : Nat} {r : RegL} (hi : L[i]? = some r) :
    Calls Tryd.prog 37 #[.pointer (some ⟨M, 0, none⟩), .int .i64 ((i : Int) + 1)] w fun e w' => e = .returned (.iface 79 (.pointer (some ⟨r.blk, 0, none⟩))) ∧ w = w' := by
  have hlt : i < L.length := (List.getElem?_eq_some_iff.1 hi).1
  have hroot := h.root
  have hrow := h.row
  rcases hrow.2 with ⟨_, h0⟩ | ⟨g, off, cap, cur, rfl, _, hnc, hcm, _⟩
  · omega
  · have hc := (RowAt.cell hrow (j := i) (u := .iface 79 (.pointer (some ⟨r.blk, 0, none⟩))) (by simp [hi])).1
    exact at_low M g off L.length cap i _ w hlt (by unfold maxLen at hcm; omega) (by rw [cell_of_row w M 0 _ _ _ hroot]; rfl) hc
theorem at_out {M : Nat} {v : Value} {L : List RegL} {w : World} (h : MemM w M v L) {id : Int} (hi : id < 1 ∨ (L.length : Int) < id) :
    Calls Tryd.prog 37 #[.pointer (some ⟨M, 0, none⟩), .int .i64 id] w fun e w' => e = .returned .nilIface ∧ w = w' := by
  obtain ⟨ao, cap, rfl, _, _, _⟩ := h.row.shape
  exact at_out_low M L.length cap ao id w hi (by rw [cell_of_row w M 0 _ _ _ h.root]; rfl)

theorem method_kill (R : Nat) (w : World) : (method 225 79 (.pointer (some ⟨R, 0, none⟩)) "barbican/region.kill").run Tryd.prog w = .ok (63, .pointer (some ⟨R, 0, none⟩)) w := by kernel_rfl
theorem method_alive (R : Nat) (w : World) : (method 225 79 (.pointer (some ⟨R, 0, none⟩)) "barbican/region.alive").run Tryd.prog w = .ok (62, .pointer (some ⟨R, 0, none⟩)) w := by kernel_rfl

theorem life_kill (R : Nat) (b : Bool) (w : World) (hR : w.cell? ⟨R, 0, none⟩ = some (.bool b)) (hf : w.frozen? ⟨R, 0, none⟩ = false) :
    Calls Tryd.prog 63 #[.pointer (some ⟨R, 0, none⟩)] w fun e w' => e = .returned (.bool (!b)) ∧ w' = w.setCell ⟨R, 0, none⟩ (.bool true) := by
  go_enter Tryd.func63, Tryd.ntmps63
  go_wp2
  go_ret
  exact ⟨rfl, rfl⟩

theorem life_alive (R : Nat) (b : Bool) (w : World) (hR : w.cell? ⟨R, 0, none⟩ = some (.bool b)) :
    Calls Tryd.prog 62 #[.pointer (some ⟨R, 0, none⟩)] w fun e w' => e = .returned (.bool (!b)) ∧ w = w' := by
  go_enter Tryd.func62, Tryd.ntmps62
  go_wp2
  go_ret
  exact ⟨rfl, rfl⟩

set_option maxRecDepth 100000 in
set_option maxHeartbeats 1000000 in
theorem kill_low (M R : Nat) (b : Bool) (id : Int) (w : World) (hR : w.cell? ⟨R, 0, none⟩ = some (.bool b)) (hf : w.frozen? ⟨R, 0, none⟩ = false)
    (hat : Calls Tryd.prog 37 #[.pointer (some ⟨M, 0, none⟩), .int .i64 id] w fun e w' => e = .returned (.iface 79 (.pointer (some ⟨R, 0, none⟩))) ∧ w = w') :
    Calls Tryd.prog 41 #[.pointer (some ⟨M, 0, none⟩), .int .i64 id] w fun e w' => e = .returned (.bool (!b)) ∧ w' = w.setCell ⟨R, 0, none⟩ (.bool true) := by
  have HA := hide hat
  clear hat
  have hm := method_kill R
  go_enter Tryd.func41, Tryd.ntmps41
  go_wp2_with (first | (go_at_call 37; refine HA.out.mono ?_; rintro e w' ⟨rfl, rfl⟩) | (go_at_call 63; refine (life_kill R b w hR hf).mono ?_; rintro e w' ⟨rfl, rfl⟩))
  go_ret
  exact ⟨rfl, rfl⟩

set_option maxRecDepth 100000 in
set_option maxHeartbeats 1000000 in
theorem live_low (M R : Nat) (b : Bool) (id : Int) (w : World) (hR : w.cell? ⟨R, 0, none⟩ = some (.bool b))
    (hat : Calls Tryd.prog 37 #[.pointer (some ⟨M, 0, none⟩), .int .i64 id] w fun e w' => e = .returned (.iface 79 (.pointer (some ⟨R, 0, none⟩))) ∧ w = w') :
    Calls Tryd.prog 29 #[.pointer (some ⟨M, 0, none⟩), .int .i64 id] w fun e w' => e = .returned (.bool (!b)) ∧ w = w' := by
  have HA := hide hat
  clear hat
  have hm := method_alive R
  go_enter Tryd.func29, Tryd.ntmps29
  go_wp2_with (first | (go_at_call 37; refine HA.out.mono ?_; rintro e w' ⟨rfl, rfl⟩) | (go_at_call 62; refine (life_alive R b w hR).mono ?_; rintro e w' ⟨rfl, rfl⟩))
  go_ret
  exact ⟨rfl, rfl⟩

set_option maxRecDepth 100000 in
set_option maxHeartbeats 1000000 in
theorem live_none (M : Nat) (id : Int) (w : World)
    (hat : Calls Tryd.prog 37 #[.pointer (some ⟨M, 0, none⟩), .int .i64 id] w fun e w' => e = .returned .nilIface ∧ w = w') :
    Calls Tryd.prog 29 #[.pointer (some ⟨M, 0, none⟩), .int .i64 id] w fun e w' => e = .returned (.bool false) ∧ w = w' := by
  have HA := hide hat
  clear hat
  go_enter Tryd.func29, Tryd.ntmps29
  go_wp2_with (first | (go_at_call 37; refine HA.out.mono ?_; rintro e w' ⟨rfl, rfl⟩))
  go_ret
  exact ⟨rfl, rfl⟩

/-- Kill, of a region that is there. -/
theorem kill_any {M : Nat} {v : Value} {L : List RegL} {w : World} (h : MemM w M v L) {i : Nat} {r : RegL} (hi : L[i]? = some r) :
    Calls Tryd.prog 41 #[.pointer (some ⟨M, 0, none⟩), .int .i64 ((i : Int) + 1)] w fun e w' => e = .returned (.bool (!r.dead)) ∧ MemM w' M v (L.set i { r with dead := true }) ∧ Chg [r.blk] w w' := by
  obtain ⟨h1, h2, h3⟩ := h.reg r (List.mem_of_getElem? hi)
  refine (kill_low M r.blk r.dead _ w (by rw [cell_of_row w r.blk 0 _ _ _ h1]; rfl) (by simp [World.frozen?, h1, RegL.obj]) (at_hit h hi)).mono ?_
  rintro e w' ⟨rfl, rfl⟩
  have hc := Chg.setCell (Chg.refl [r.blk] w) ⟨r.blk, 0, none⟩ (.inl (by simp)) (.bool true)
  refine ⟨rfl, h.upd hi rfl rfl hc (by simp) ?_ (h2.chg hc fun g hg hm => ?_) h3, hc⟩
  · simpa [RegL.obj, RegL.bv] using heap_setCell_same w r.blk 0 _ 87 (.bool true) h1
  · exact own_ne h2 h1 (by decide) (by rw [hg]; simpa using hm)

/-- Live. -/
theorem live_any {M : Nat} {v : Value} {L : List RegL} {w : World} (h : MemM w M v L) (id : Int) :
    Calls Tryd.prog 29 #[.pointer (some ⟨M, 0, none⟩), .int .i64 id] w fun e w' => e = .returned (.bool (if 1 ≤ id then (L[(id - 1).toNat]?.map fun r => !r.dead).getD false else false)) ∧ w = w' := by
  by_cases hid : 1 ≤ id ∧ id ≤ L.length
  · obtain ⟨i, rfl⟩ : ∃ i : Nat, id = (i : Int) + 1 := ⟨(id - 1).toNat, by omega⟩
    have hlt : i < L.length := by omega
    have hi : L[i]? = some L[i] := by simp [hlt]
    have h1 := (h.reg L[i] (List.mem_of_getElem? hi)).1
    refine (live_low M L[i].blk L[i].dead _ w (by rw [cell_of_row w L[i].blk 0 _ _ _ h1]; rfl) (at_hit h hi)).mono ?_
    rintro e w' ⟨rfl, rfl⟩
    refine ⟨?_, rfl⟩
    rw [if_pos (by omega), show ((i : Int) + 1 - 1).toNat = i by omega, hi]
    rfl
  · refine (live_none M id w (at_out h (by omega))).mono ?_
    rintro e w' ⟨rfl, rfl⟩
    refine ⟨?_, rfl⟩
    by_cases h1 : 1 ≤ id
    · rw [if_pos h1, List.getElem?_eq_none (by omega)]; rfl
    · rw [if_neg h1]

@[local go_sem] theorem as_region (v : Value) (w : World) : (Instr.typeAssert (.iface 79 v) 82 79 true).run Tryd.prog w = .ok (.tuple #[v, .bool true]) w := by kernel_rfl
@[local go_sem] theorem as_none (w : World) : (Instr.typeAssert .nilIface 82 79 true).run Tryd.prog w = .ok (.tuple #[.pointer none, .bool false]) w := by kernel_rfl

def BytesPost (w : World) (zs : List Int) (e : Ending) (w' : World) : Prop :=
  ∃ g off cap, e = .returned (.tuple #[.slice (some ⟨g, off, none⟩) zs.length cap, .bool true]) ∧ RowAt w' 5 1 (.slice (some ⟨g, off, none⟩) zs.length cap) zs.length (bytesV zs) ∧ Chg [] w w' ∧ w.heap.size ≤ g ∧ g < w'.heap.size

set_option maxRecDepth 100000 in
set_option maxHeartbeats 1000000 in
theorem bytes_low (M R g off cap : Nat) (zs : List Int) (id : Int) (w : World) (hR : w.cell? ⟨R, 1, none⟩ = some (.slice (some ⟨g, off, none⟩) zs.length cap)) (hn : 0 < zs.length) (hb : zs.length ≤ 140737488355328)
    (hc : ∀ j u, (bytesV zs)[j]? = some u → w.cell? ((⟨g, off, none⟩ : Addr).add j) = some u)
    (hat : Calls Tryd.prog 37 #[.pointer (some ⟨M, 0, none⟩), .int .i64 id] w fun e w' => e = .returned (.iface 79 (.pointer (some ⟨R, 0, none⟩))) ∧ w = w') :
    Calls Tryd.prog 40 #[.pointer (some ⟨M, 0, none⟩), .int .i64 id] w (BytesPost w zs) := by
  have HA := hide hat
  have HC := hide hc
  clear hat hc
  go_enter Tryd.func40, Tryd.ntmps40
  go_wp2_with (first | (go_at_call 37; refine HA.out.mono ?_; rintro e w' ⟨rfl, rfl⟩) | (go_at_call 39; refine (clone_any _ _ _ zs _ rfl hn (by exact HC.out) hb).mono ?_; rintro e w' ⟨g1, off1, cap1, rfl, hr, hch, hg, hlt⟩))
  go_ret2
  exact ⟨g1, off1, cap1, rfl, hr, hch, hg, hlt⟩

theorem add_row (g off j : Nat) : (⟨g, off, none⟩ : Addr).add j = ⟨g, off + j, none⟩ := by unfold Addr.add; split <;> simp_all

/-- Bytes, of a region that is there. -/
theorem bytes_any {M : Nat} {v : Value} {L : List RegL} {w : World} (h : MemM w M v L) {i : Nat} {r : RegL} (hi : L[i]? = some r) (hb : r.bytes.length ≤ 140737488355328) :
    Calls Tryd.prog 40 #[.pointer (some ⟨M, 0, none⟩), .int .i64 ((i : Int) + 1)] w (BytesPost w r.bytes) := by
  obtain ⟨h1, h2, h3⟩ := h.reg r (List.mem_of_getElem? hi)
  exact bytes_low M r.blk r.bb r.bo r.cap r.bytes _ w (by rw [cell_of_row w r.blk 1 _ _ _ h1]; rfl) h3 hb (fun j u hj => by rw [add_row]; exact (RowAt.cell h2 hj).1) (at_hit h hi)

theorem Tryd.info5s : (Tryd.prog.info? 5).map (·.size) = some 1 := by kernel_rfl

def SetLow (w : World) (g off n cap : Nat) (zs : List Value) (e : Ending) (w' : World) : Prop :=
  e = .returned (.bool true) ∧ RowAt w' 5 1 (.slice (some ⟨g, off, none⟩) n cap) n zs ∧ Chg [g] w w'

set_option maxRecDepth 100000 in
set_option maxHeartbeats 1000000 in
theorem set_fits_low (M R g off n cap : Nat) (sp : Option Addr) (m c : Nat) (xs ys : List Value) (id : Int) (w : World) (hR : w.cell? ⟨R, 1, none⟩ = some (.slice (some ⟨g, off, none⟩) n cap))
    (hn : 0 < n) (_hb : n ≤ 140737488355328) (hle : m ≤ n) (hr : RowAt w 5 1 (.slice (some ⟨g, off, none⟩) n cap) n xs) (hy : ys.length = m) (h1 : ∀ v ∈ ys, v.oneCell' = true)
    (hsrc : ∀ ad, sp = some ad → ∀ j v, ys[j]? = some v → w.cell? (ad.add j) = some v) (hnone : sp = none → m = 0)
    (hat : Calls Tryd.prog 37 #[.pointer (some ⟨M, 0, none⟩), .int .i64 id] w fun e w' => e = .returned (.iface 79 (.pointer (some ⟨R, 0, none⟩))) ∧ w = w') :
    Calls Tryd.prog 22 #[.pointer (some ⟨M, 0, none⟩), .int .i64 id, .int .i64 0, .slice sp m c] w (SetLow w g off n cap (ys ++ xs.drop m)) := by
  have HA := hide hat
  have HR := hide hr
  have HS := hide hsrc
  have HN := hide hnone
  have HY := hide hy
  have HO := hide h1
  clear hat hr hsrc hnone hy h1
  go_enter Tryd.func22, Tryd.ntmps22
  go_wp2_with (first | (go_at_call 37; refine HA.out.mono ?_; rintro e w' ⟨rfl, rfl⟩) | (with_reducible refine wpList_copy_rowat _ rfl (.tmp 50) (.tmp 51) 36 36 rfl 5 Tryd.underlying36 Tryd.info5s g off sp n cap m c rfl rfl 5 xs ys HR.out HY.out HS.out HN.out HO.out hle ?_; intro w1 hr1 hch1))
  go_ret
  exact ⟨rfl, hr1, hch1⟩

set_option maxRecDepth 100000 in
set_option maxHeartbeats 1000000 in
theorem set_long_low (M R n cap : Nat) (bp sp : Option Addr) (m c : Nat) (id : Int) (w : World) (hR : w.cell? ⟨R, 1, none⟩ = some (.slice bp n cap))
    (hn : 0 < n) (hb : n ≤ 140737488355328) (hle : n < m)
    (hat : Calls Tryd.prog 37 #[.pointer (some ⟨M, 0, none⟩), .int .i64 id] w fun e w' => e = .returned (.iface 79 (.pointer (some ⟨R, 0, none⟩))) ∧ w = w') :
    Calls Tryd.prog 22 #[.pointer (some ⟨M, 0, none⟩), .int .i64 id, .int .i64 0, .slice sp m c] w fun e w' => e = .returned (.bool false) ∧ w = w' := by
  have HA := hide hat
  clear hat
  go_enter Tryd.func22, Tryd.ntmps22
  go_wp2_with (first | (go_at_call 37; refine HA.out.mono ?_; rintro e w' ⟨rfl, rfl⟩))
  go_ret
  exact ⟨rfl, rfl⟩

set_option maxRecDepth 100000 in
set_option maxHeartbeats 1000000 in
theorem set_none_low (M : Nat) (sp : Option Addr) (m c : Nat) (id : Int) (w : World)
    (hat : Calls Tryd.prog 37 #[.pointer (some ⟨M, 0, none⟩), .int .i64 id] w fun e w' => e = .returned .nilIface ∧ w = w') :
    Calls Tryd.prog 22 #[.pointer (some ⟨M, 0, none⟩), .int .i64 id, .int .i64 0, .slice sp m c] w fun e w' => e = .returned (.bool false) ∧ w = w' := by
  have HA := hide hat
  clear hat
  go_enter Tryd.func22, Tryd.ntmps22
  go_wp2_with (first | (go_at_call 37; refine HA.out.mono ?_; rintro e w' ⟨rfl, rfl⟩))
  go_ret
  exact ⟨rfl, rfl⟩

theorem oneCell_bytes (zs : List Int) : ∀ u ∈ bytesV zs, u.oneCell' = true := oneCell_ints zs

def SetPost (w : World) (M : Nat) (v : Value) (L : List RegL) (id : Int) (zs : List Int) (e : Ending) (w' : World) : Prop :=
  ∃ L', e = .returned (.bool (amSet (absM L) id zs).1) ∧ MemM w' M v L' ∧ absM L' = (amSet (absM L) id zs).2 ∧ L'.map (·.blk) = L.map (·.blk) ∧ L'.map (·.bb) = L.map (·.bb) ∧ Chg (fpM M v L) w w'

/-- Set, from the region's first byte on. -/
theorem set_any {M : Nat} {v : Value} {L : List RegL} {w : World} (h : MemM w M v L) (id : Int) (sp : Option Addr) (m c : Nat) (zs : List Int) (hs : Src w sp m zs)
    (hb : ∀ r ∈ L, r.bytes.length ≤ 140737488355328) :
    Calls Tryd.prog 22 #[.pointer (some ⟨M, 0, none⟩), .int .i64 id, .int .i64 0, .slice sp m c] w (SetPost w M v L id zs) := by
  by_cases hid : 1 ≤ id ∧ id ≤ L.length
  · obtain ⟨i, rfl⟩ : ∃ i : Nat, id = (i : Int) + 1 := ⟨(id - 1).toNat, by omega⟩
    have hlt : i < L.length := by omega
    have hi : L[i]? = some L[i] := by simp [hlt]
    have hmem := List.mem_of_getElem? hi
    obtain ⟨h1, h2, h3⟩ := h.reg L[i] hmem
    have hcell : w.cell? ⟨L[i].blk, 1, none⟩ = some L[i].bv := by rw [cell_of_row w L[i].blk 1 _ _ _ h1]; rfl
    have eA : amSet (absM L) ((i : Int) + 1) zs = if zs.length ≤ L[i].bytes.length then (true, (absM L).set i (!L[i].dead, zs ++ L[i].bytes.drop zs.length)) else (false, absM L) := by
      unfold amSet
      rw [if_pos (by omega), show ((i : Int) + 1 - 1).toNat = i by omega]
      simp [absM, hi]
    by_cases hle : m ≤ L[i].bytes.length
    · refine (set_fits_low M L[i].blk L[i].bb L[i].bo L[i].bytes.length L[i].cap sp m c _ (bytesV zs) _ w hcell h3 (hb _ hmem) hle h2 (by rw [bytesV_len, hs.len]) (oneCell_bytes zs) hs.cell hs.none (at_hit h hi)).mono ?_
      rintro e w' ⟨rfl, hr, hc⟩
      have hlen : (zs ++ L[i].bytes.drop m).length = L[i].bytes.length := by simp [hs.len]; omega
      have hrow : RowAt w' 5 1 (RegL.bv { L[i] with bytes := zs ++ L[i].bytes.drop m }) (zs ++ L[i].bytes.drop m).length (bytesV (zs ++ L[i].bytes.drop m)) := by
        simp only [RegL.bv, hlen]
        simpa [bytesV, List.map_drop] using hr
      have hblk : L[i].blk ∉ [L[i].bb] := by
        simp only [List.mem_singleton]
        intro e
        exact own_ne h2 h1 (by decide) (by simp [RegL.bv, Value.ownBlock, e])
      rw [SetPost, eA, if_pos (by rw [hs.len]; exact hle)]
      refine ⟨L.set i { L[i] with bytes := zs ++ L[i].bytes.drop m }, rfl, h.upd hi rfl rfl hc (by simp) ?_ hrow (by show 0 < (zs ++ L[i].bytes.drop m).length; omega), ?_, map_set_same _ hi rfl, map_set_same _ hi rfl, hc.mono ?_⟩
      · have := hc.keep h1 hblk
        simpa [RegL.obj, RegL.bv, hlen] using this
      · simp [absM, List.map_set, hs.len]
      · intro x hx
        obtain rfl : x = L[i].bb := by simpa using hx
        exact .inl (by simp only [fpM, List.mem_cons, List.mem_append, List.mem_map]; exact .inr (.inr (.inr ⟨L[i], hmem, rfl⟩)))
    · refine (set_long_low M L[i].blk L[i].bytes.length L[i].cap _ sp m c _ w hcell h3 (hb _ hmem) (by omega) (at_hit h hi)).mono ?_
      rintro e w' ⟨rfl, rfl⟩
      rw [SetPost, eA, if_neg (by rw [hs.len]; exact hle)]
      exact ⟨L, rfl, h, rfl, rfl, rfl, Chg.refl _ _⟩
  · refine (set_none_low M sp m c id w (at_out h (by omega))).mono ?_
    rintro e w' ⟨rfl, rfl⟩
    have eA : amSet (absM L) id zs = (false, absM L) := by
      unfold amSet
      by_cases h1 : 1 ≤ id
      · rw [if_pos h1, List.getElem?_eq_none (by simp [absM]; omega)]
      · rw [if_neg h1]
    rw [SetPost, eA]
    exact ⟨L, rfl, h, rfl, rfl, rfl, Chg.refl _ _⟩

theorem live_abs (L : List RegL) (id : Int) : (if 1 ≤ id then (L[(id - 1).toNat]?.map fun r => !r.dead).getD false else false) = amLive (absM L) id := by
  unfold amLive absM
  simp only [List.getElem?_map, Option.map_map]
  rfl
end Go.Proofs.YtliikmmcbbmppaaDoor
