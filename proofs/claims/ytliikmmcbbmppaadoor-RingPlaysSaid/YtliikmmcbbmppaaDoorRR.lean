/- How the reference's ring lies (RingR), what it takes, and making it. -/
import Derived.Test.YtliikmmcbbmppaaDoorNew
namespace Go.Proofs.YtliikmmcbbmppaaDoor
open Go.RowKit Go.ChangeMaps

/-- The cells of the reference's records, one behind the other. -/
def cellsR (Q : List RecL) : List Value := Q.flatMap fun q => [.int .i64 q.id, .int .i64 q.n, .int .i64 q.st, q.bval]
theorem cellsR_len (Q : List RecL) : (cellsR Q).length = Q.length * 4 := by
  induction Q with
  | nil => rfl
  | cons q Q ih => simp [cellsR] at ih ⊢; omega
theorem cellsR_append (Q Q' : List RecL) : cellsR (Q ++ Q') = cellsR Q ++ cellsR Q' := by simp [cellsR]
theorem cellsR_at : ∀ {Q : List RecL} {i : Nat} {q : RecL}, Q[i]? = some q → (cellsR Q)[i * 4]? = some (.int .i64 q.id) ∧ (cellsR Q)[i * 4 + 1]? = some (.int .i64 q.n) ∧ (cellsR Q)[i * 4 + 2]? = some (.int .i64 q.st) ∧ (cellsR Q)[i * 4 + 3]? = some q.bval
  | [], _, _, h => by simp at h
  | a :: Q, 0, q, h => by
    simp at h
    subst h
    simp [cellsR]
  | a :: Q, i + 1, q, h => by
    have := cellsR_at (Q := Q) (i := i) (q := q) (by simpa using h)
    have e : cellsR (a :: Q) = [.int .i64 a.id, .int .i64 a.n, .int .i64 a.st, a.bval] ++ cellsR Q := by simp [cellsR]
    rw [e]
    have k : ∀ j, ([.int .i64 a.id, .int .i64 a.n, .int .i64 a.st, a.bval] ++ cellsR Q)[j + 4]? = (cellsR Q)[j]? := fun j => by simp
    rw [show (i + 1) * 4 = i * 4 + 4 by omega, show i * 4 + 4 + 1 = (i * 4 + 1) + 4 by omega, show i * 4 + 4 + 2 = (i * 4 + 2) + 4 by omega, show i * 4 + 4 + 3 = (i * 4 + 3) + 4 by omega, k, k, k, k]
    exact this

structure RingR (w : World) (R M : Nat) (size : Int) (lv : Value) (Q : List RecL) : Prop where
  root : w.heap[R]? = some (.cells #[.int .i64 size, .pointer (some ⟨M, 0, none⟩), lv] 70 (0, 0))
  row : RowAt w 76 4 lv Q.length (cellsR Q)
  recs : ∀ q ∈ Q, q.st ≠ 0 → RowAt w 5 1 q.bval q.n (bytesV q.bytes)
  pos : ∀ q ∈ Q, 1 ≤ q.n ∧ q.n ≤ 4096
  le : (used Q : Int) ≤ size
  size : 8 ≤ size ∧ size ≤ 4096

def fpRR (R : Nat) (lv : Value) (Q : List RecL) : List Nat := R :: (lv.ownBlock.toList ++ (doneR Q).map (·.bb))

structure AllR (w : World) (M R : Nat) (v : Value) (L : List RegL) (size : Int) (lv : Value) (Q : List RecL) : Prop where
  mem : MemR w M v L
  ring : RingR w R M size lv Q
  tie : ∀ q ∈ Q, q.st = 0 → 1 ≤ q.id ∧ ∃ r, L[q.id - 1]? = some r ∧ r.bytes.length = q.n
  sep : ∀ q ∈ Q, q.st ≠ 0 → q.bb ∉ L.map (·.bb)
  lens : ∀ r ∈ L, r.bytes.length ≤ 4096
  idle : ∀ q ∈ Q, q.id ≤ L.length

def fpAllR (M R : Nat) (v : Value) (L : List RegL) (lv : Value) (Q : List RecL) : List Nat := fpM M v L ++ fpRR R lv Q

theorem RingR.chg {w w' : World} {R M : Nat} {size : Int} {lv : Value} {Q : List RecL} {S : List Nat} (h : RingR w R M size lv Q) (hc : Chg S w w') (hd : ∀ x ∈ fpRR R lv Q, x ∉ S) : RingR w' R M size lv Q :=
  { h with
    root := hc.keep h.root (hd R (by simp [fpRR]))
    row := h.row.chg hc fun g hg => hd g (by simp [fpRR, hg])
    recs := fun q hq hs => (h.recs q hq hs).chg hc fun g hg => by
      have : q.bb = g := by simpa [RecL.bval, hs, Value.ownBlock] using hg
      subst this
      exact hd _ (by simp only [fpRR, List.mem_cons, List.mem_append, List.mem_map]; exact .inr (.inr ⟨q, List.mem_filter.2 ⟨hq, by simpa using hs⟩, rfl⟩)) }
theorem RingR.cells {w : World} {R M n cap g off : Nat} {size : Int} {Q : List RecL} {i : Nat} {q : RecL} (h : RingR w R M size (.slice (some ⟨g, off, none⟩) n cap) Q) (hq : Q[i]? = some q) :
    w.cell? ⟨g, off + i * 4, none⟩ = some (.int .i64 q.id) ∧ w.cell? ⟨g, off + i * 4 + 1, none⟩ = some (.int .i64 q.n) ∧ w.cell? ⟨g, off + i * 4 + 2, none⟩ = some (.int .i64 q.st) ∧ w.cell? ⟨g, off + i * 4 + 3, none⟩ = some q.bval := by
  obtain ⟨ao, c, e, _⟩ := h.row.shape
  cases e
  obtain ⟨h0, h1, h2, h3⟩ := cellsR_at hq
  exact ⟨(RowAt.cell h.row h0).1, (RowAt.cell h.row h1).1, (RowAt.cell h.row h2).1, (RowAt.cell h.row h3).1⟩
theorem RingR.lt {w : World} {R M : Nat} {size : Int} {lv : Value} {Q : List RecL} (h : RingR w R M size lv Q) : ∀ x ∈ fpRR R lv Q, x < w.heap.size := by
  intro x hx
  simp only [fpRR, List.mem_cons, List.mem_append, List.mem_map, Option.mem_toList] at hx
  rcases hx with rfl | hx | ⟨q, hq, rfl⟩
  · exact lt_of_blk h.root
  · exact h.row.lt _ hx
  · obtain ⟨hq, hs⟩ := List.mem_filter.1 hq
    have hs' : q.st ≠ 0 := by simpa using hs
    exact (h.recs q hq hs').lt _ (by simp [RecL.bval, hs', Value.ownBlock])
theorem AllR.lt {w : World} {M R : Nat} {v : Value} {L : List RegL} {size : Int} {lv : Value} {Q : List RecL} (h : AllR w M R v L size lv Q) : ∀ x ∈ fpAllR M R v L lv Q, x < w.heap.size := by
  intro x hx
  rcases List.mem_append.1 hx with hx | hx
  · exact h.mem.lt x hx
  · exact h.ring.lt x hx
theorem AllR.chg {w w' : World} {M R : Nat} {v : Value} {L : List RegL} {size : Int} {lv : Value} {Q : List RecL} {S : List Nat} (h : AllR w M R v L size lv Q) (hc : Chg S w w') (hd : ∀ x ∈ fpAllR M R v L lv Q, x ∉ S) : AllR w' M R v L size lv Q :=
  { h with mem := h.mem.chg hc fun x hx => hd x (List.mem_append_left _ hx), ring := h.ring.chg hc fun x hx => hd x (List.mem_append_right _ hx) }

theorem rnewmem_any (w : World) : Calls Tryd.prog 7 #[] w fun e w' => e = .returned (.pointer (some ⟨w.heap.size, 0, none⟩)) ∧ w' = w.alloc (.cells #[.slice none 0 0] 63) := by
  go_enter Tryd.func7, Tryd.ntmps7
  go_wp2_with fail
  go_ret
  exact ⟨rfl, rfl⟩

set_option maxHeartbeats 400000 in
theorem rnewring_bad (size : Int) (m : Value) (w : World) (h : ¬ okSize size) : Calls Tryd.prog 9 #[.int .i64 size, m] w fun e w' => e = .returned (.tuple #[.pointer none, .int .i64 100]) ∧ w = w' := by
  by_cases h1 : size < 8
  · go_enter Tryd.func9, Tryd.ntmps9
    go_wp2_with fail
    go_ret2
    exact ⟨rfl, rfl⟩
  · by_cases h2 : 4096 < size
    · go_enter Tryd.func9, Tryd.ntmps9
      go_wp2_with fail
      go_ret2
      exact ⟨rfl, rfl⟩
    · have h3 : (size % 8 != 0) = true := by
        have : ¬ (size % 8 = 0) := by unfold okSize at h; omega
        simpa using this
      clear h
      go_enter Tryd.func9, Tryd.ntmps9
      go_wp2_with fail
      go_ret2
      exact ⟨rfl, rfl⟩

set_option maxHeartbeats 400000 in
theorem rnewring_ok (size : Int) (M : Nat) (w : World) (h : okSize size) : Calls Tryd.prog 9 #[.int .i64 size, .pointer (some ⟨M, 0, none⟩)] w fun e w' =>
    e = .returned (.tuple #[.pointer (some ⟨w.heap.size, 0, none⟩), .int .i64 0]) ∧ w' = w.alloc (.cells #[.int .i64 size, .pointer (some ⟨M, 0, none⟩), .slice none 0 0] 70) := by
  obtain ⟨h1, h2, h0⟩ := h
  have h3 : (size % 8 != 0) = false := by simp [h0]
  clear h0
  go_enter Tryd.func9, Tryd.ntmps9
  go_wp2_with fail
  go_ret2
  exact ⟨rfl, rfl⟩

set_option maxHeartbeats 400000 in
theorem rtakes_any (n : Nat) (w : World) (h : n ≤ 4096) : Calls Tryd.prog 33 #[.int .i64 (n : Int)] w fun e w' => e = .returned (.int .i64 (takes n : Nat)) ∧ w = w' := by
  have he : (8 : Int) + ((n : Int) + 7) / 8 * 8 = (takes n : Nat) := by unfold takes; omega
  go_enter Tryd.func33, Tryd.ntmps33
  go_wp2
  go_ret
  exact ⟨by simp, rfl⟩

theorem used_take_le (Q : List RecL) (i : Nat) : used (Q.take i) ≤ used Q := by
  have e : (Q.map fun q => takes q.n).sum = ((Q.map fun q => takes q.n).take i).sum + ((Q.map fun q => takes q.n).drop i).sum := by rw [← List.sum_append_nat, List.take_append_drop]
  simp only [used, List.map_take] at e ⊢
  omega

set_option maxRecDepth 100000 in
set_option maxHeartbeats 1000000 in
theorem rused_any {w : World} {R M : Nat} {size : Int} {lv : Value} {Q : List RecL} (h : RingR w R M size lv Q) (hQ : Q.length ≤ 1000) :
    Calls Tryd.prog 25 #[.pointer (some ⟨R, 0, none⟩)] w fun e w' => e = .returned (.int .i64 (used Q : Nat)) ∧ w = w' := by
  have hc2 : w.cell? ⟨R, 2, none⟩ = some lv := by rw [cell_of_row w R 2 _ _ _ h.root]; rfl
  obtain ⟨ao, cap, rfl, hnc, hcm, hao⟩ := h.row.shape
  have hu : (used Q : Int) ≤ 4096 := by have := h.le; have := h.size; omega
  have H := hide h
  clear h hao
  go_enter Tryd.func25, Tryd.ntmps25
  go_wp2_with fail
  go_loopg [3, 4] Q.length (fun gk s3 s4 wr => w = wr ∧ ∃ i : Nat, i ≤ Q.length ∧ s4 = .int .i64 i ∧ s3 = .int .i64 (used (Q.take i)) ∧ gk = Q.length - i)
  case atStart => exact ⟨rfl, 0, Nat.zero_le _, rfl, by simp [used], rfl⟩
  case round =>
    obtain ⟨rfl, i, hil, rfl, rfl, rfl⟩ := hrel
    by_cases hin : i < Q.length
    · obtain ⟨q, hq⟩ : ∃ q, Q[i]? = some q := ⟨Q[i], by simp [hin]⟩
      obtain ⟨g, off, hao'⟩ : ∃ g off, ao = some ⟨g, off, none⟩ := by
        rcases H.out.row.2 with ⟨_, h0⟩ | ⟨g, off, cap', cur, h0, _⟩
        · omega
        · exact ⟨g, off, by cases h0; rfl⟩
      subst hao'
      have hgc := (H.out.cells hq).2.1
      obtain ⟨hn1, hn2⟩ := H.out.pos q (List.mem_of_getElem? hq)
      have hts : used (Q.take (i + 1)) = used (Q.take i) + takes q.n := by rw [take_snoc hq]; exact used_append _ _
      have hle := used_take_le Q (i + 1)
      have hiz : (i : Int) < (Q.length : Int) := by omega
      have hub : used (Q.take i) + takes q.n ≤ 4096 := by omega
      have HTS := hide hts
      clear hts hle hq
      go_wp2_with (first | (go_at_call 33; refine (rtakes_any q.n _ hn2).mono ?_; rintro e w' ⟨rfl, rfl⟩))
      go_roundg (Q.length - (i + 1))
      case measure => omega
      case rel => exact ⟨rfl, i + 1, by omega, by simp, by rw [HTS.out]; simp, rfl⟩
    · obtain rfl : i = Q.length := by omega
      have hiz : ¬ ((Q.length : Int) < (Q.length : Int)) := by omega
      go_wp2_with fail
      go_ret
      exact ⟨rfl, rfl⟩
end Go.Proofs.YtliikmmcbbmppaaDoor
