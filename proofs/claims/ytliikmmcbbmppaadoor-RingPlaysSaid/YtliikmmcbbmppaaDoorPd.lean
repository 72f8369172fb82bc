/- Pending of the program's ring. -/
import Derived.Test.YtliikmmcbbmppaaDoorRd2
namespace Go.Proofs.YtliikmmcbbmppaaDoor
open Go.RowKit Go.ChangeMaps

def intsV (l : List Int) : List Value := l.map (Value.int .i64)
def pids (Q : List RecL) : List Int := (pend Q).map fun q => (q.id : Int)
theorem pids_abs (Q : List RecL) : apend (Q.map RecL.abs) = pids Q := by
  simp [apend, pids, pend, List.filter_map, Function.comp_def, RecL.abs]
theorem pids_snoc (Q : List RecL) (q : RecL) : pids (Q ++ [q]) = pids Q ++ (if q.st = 0 then [(q.id : Int)] else []) := by
  by_cases h : q.st = 0 <;> simp [pids, pend, List.filter_append, h]
theorem take_snoc {α : Type} {l : List α} {i : Nat} {x : α} (h : l[i]? = some x) : l.take (i + 1) = l.take i ++ [x] := by
  rw [List.take_add_one, h]; rfl
theorem pids_le (Q : List RecL) : (pids Q).length ≤ Q.length := by
  simp only [pids, List.length_map]
  exact List.length_filter_le _ _

/-- What Pending leaves. -/
def PendPost (w : World) (xs : List Int) (e : Ending) (w' : World) : Prop :=
  ∃ ov, e = .returned ov ∧ RowAt w' 3 1 ov xs.length (intsV xs) ∧ Chg [] w w' ∧ ∀ g, ov.ownBlock = some g → w.heap.size ≤ g

structure PdInv (w wr : World) (xs : List Int) (ov : Value) : Prop where
  row : RowAt wr 3 1 ov xs.length (intsV xs)
  chg : Chg [] w wr
  new : ∀ g, ov.ownBlock = some g → w.heap.size ≤ g

theorem PdInv.snoc {w wr w1 : World} {xs : List Int} {ov : Value} {x : Int} {g off cap : Nat} (h : PdInv w wr xs ov) (hr : RowAt w1 3 1 (.slice (some ⟨g, off, none⟩) (xs.length + 1) cap) (xs.length + 1) (intsV xs ++ [.int .i64 x]))
    (hc : Chg ov.ownBlock.toList wr w1) (hg : ov.ownBlock = some g ∨ wr.heap.size ≤ g) : PdInv w w1 (xs ++ [x]) (.slice (some ⟨g, off, none⟩) (xs.length + 1) cap) := by
  refine ⟨by simpa [intsV] using hr, h.chg.trans hc fun y hy => .inr (h.new y (by rwa [Option.mem_toList] at hy)), fun k hk => ?_⟩
  have : g = k := by simpa [Value.ownBlock] using hk
  subst this
  rcases hg with e | e
  · exact h.new _ e
  · have := h.chg.size; omega

set_option maxRecDepth 100000 in
set_option maxHeartbeats 2000000 in
theorem pending_any {w : World} {M R T : Nat} {size : Int} {rv : Value} {Q : List RecL} {E : List Ent} {clock : Nat} (h : RingM w R T M size rv Q E clock) (hQ : Q.length ≤ 1000) :
    Calls Tryd.prog 27 #[.pointer (some ⟨R, 0, none⟩)] w (PendPost w (apend (Q.map RecL.abs))) := by
  rw [pids_abs]
  obtain ⟨i0, hi, hz0, hz1, hz2⟩ := info_parts Tryd.info3
  have hc3 : w.cell? ⟨R, 3, none⟩ = some rv := by rw [cell_of_row w R 3 _ _ _ h.root]; rfl
  obtain ⟨ao, cap, rfl, hnc, hcm, hao⟩ := h.row.shape
  have H := hide h
  clear h hao
  go_enter Tryd.func27, Tryd.ntmps27
  go_wp2_with fail
  go_loopg [3, 11] Q.length (fun gk s3 s11 wr => ∃ i : Nat, i ≤ Q.length ∧ s11 = .int .i64 i ∧ gk = Q.length - i ∧ PdInv w wr (pids (Q.take i)) s3)
  case atStart => exact ⟨0, Nat.zero_le _, rfl, rfl, ⟨RowAt.nil _ _ _, Chg.refl _ _, by simp [Value.ownBlock]⟩⟩
  case round =>
    obtain ⟨i, hil, rfl, rfl, hinv⟩ := hrel
    have HI := hide hinv
    clear hinv
    by_cases hin : i < Q.length
    · obtain ⟨q, hq⟩ : ∃ q, Q[i]? = some q := ⟨Q[i], by simp [hin]⟩
      have hqm := List.mem_of_getElem? hq
      obtain ⟨hqb, _⟩ := H.out.recs q hqm
      have hqw := HI.out.chg.keep hqb (by simp)
      obtain ⟨g, off, hao'⟩ : ∃ g off, ao = some ⟨g, off, none⟩ := by
        rcases H.out.row.2 with ⟨_, h0⟩ | ⟨g, off, cap', cur, h0, _⟩
        · omega
        · exact ⟨g, off, by cases h0; rfl⟩
      subst hao'
      have hgc : wr.cell? ⟨g, off + i, none⟩ = some (.pointer (some ⟨q.blk, 0, none⟩)) := by
        have h1 := (RowAt.cell H.out.row (j := i) (u := .pointer (some ⟨q.blk, 0, none⟩)) (by simp [hq])).1
        rw [HI.out.chg.cell (World.block_lt_of_cell? _ _ h1) (by simp)]
        exact h1
      have hq0 : wr.cell? ⟨q.blk, 0, none⟩ = some (.int .i64 q.id) := by rw [cell_of_row wr _ 0 _ _ _ hqw]; rfl
      have hq2 : wr.cell? ⟨q.blk, 2, none⟩ = some (.int .i64 q.st) := by rw [cell_of_row wr _ 2 _ _ _ hqw]; rfl
      have hts := hide (take_snoc hq)
      have HQ := hide hq
      have hiz : (i : Int) < (Q.length : Int) := by omega
      have hpl : (pids (Q.take i)).length ≤ 1000 := by have := pids_le (Q.take i); simp at this; omega
      clear hqm hqb hqw hq
      by_cases hst : q.st = 0
      · have hst' : (q.st : Int) = 0 := by omega
        go_wp2_with (first | (at_builtin; refine wpList_append_rowat _ rfl (.tmp 20) (.tmp 25) 54 rfl 3 i0 (.int .i64 0) 1 8 Tryd.underlying54 hi hz0 hz1 hz2 rfl _ (pids (Q.take i)).length _ rfl (by exact HI.out.row.alloc _) ⟨wr.heap.size, 0, none⟩ 1 1 [.int .i64 q.id] rfl rfl (by exact news_one _ _ _ _ (by simp)) (by simp [Value.oneCell']) (by omega) (by unfold maxLen; omega) (by omega) (wr.heap.size + 1) (by simp) ?_; intro g2 off2 cap2 w1 hr1 hch1 hg1 hlt1; have HR1 := hide hr1; have HG1 := hide hg1; have HC1 := hide ((((Chg.refl _ wr).alloc _)).trans hch1 (fun x hx => .inl hx)); clear hr1 hg1 hch1))
        go_roundg (Q.length - (i + 1))
        case measure => omega
        case rel =>
          refine ⟨i + 1, by omega, by simp, rfl, ?_⟩
          rw [hts.out, pids_snoc, if_pos hst]
          exact HI.out.snoc HR1.out HC1.out (by rcases HG1.out with e | e; exact .inl e; exact .inr (by omega))
      · have hst' : ¬ ((q.st : Int) = 0) := by omega
        go_wp2_with fail
        go_roundg (Q.length - (i + 1))
        case measure => omega
        case rel =>
          refine ⟨i + 1, by omega, by simp, rfl, ?_⟩
          rw [hts.out, pids_snoc, if_neg hst, List.append_nil]
          exact HI.out
    · obtain rfl : i = Q.length := by omega
      have hiz : ¬ ((Q.length : Int) < (Q.length : Int)) := by omega
      go_wp2_with fail
      go_ret
      rw [List.take_length] at HI
      exact ⟨_, rfl, HI.out.row, HI.out.chg, HI.out.new⟩
end Go.Proofs.YtliikmmcbbmppaaDoor
