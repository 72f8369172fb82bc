/- Read of the reference's ring: the walk. -/
import Derived.Test.YtliikmmcbbmppaaDoorRRd
namespace Go.Proofs.YtliikmmcbbmppaaDoor
open Go.RowKit Go.ChangeMaps

/-- What Read leaves. -/
def RReadPost (w : World) (M R : Nat) (v : Value) (L : List RegL) (size : Int) (lv : Value) (Q : List RecL) (e : Ending) (w' : World) : Prop :=
  ∃ (lv' : Value) (Q' : List RecL) (ov : Value) (O : List RecL), e = .returned ov ∧ AllR w' M R v L size lv' Q' ∧ RowAt w' 36 1 ov O.length (O.map RecL.bval) ∧ O.map (·.bytes) = (aRead (Q.map RecL.abs)).1 ∧ Q'.map RecL.abs = (aRead (Q.map RecL.abs)).2 ∧ Q'.length ≤ Q.length ∧
    (∀ q ∈ O, q.st ≠ 0 ∧ RowAt w' 5 1 q.bval q.n (bytesV q.bytes)) ∧ Upd w w' (fpAllR M R v L lv Q) (fpAllR M R v L lv' Q')

structure RdR (w wr : World) (Q : List RecL) (i : Nat) (ov : Value) : Prop where
  done : ∀ p ∈ Q.take i, p.st ≠ 0
  chg : Chg [] w wr
  out : RowAt wr 36 1 ov (outs (Q.take i)).length ((outs (Q.take i)).map RecL.bval)
  new : ∀ g, ov.ownBlock = some g → w.heap.size ≤ g

theorem cellsR_drop : ∀ (Q : List RecL) (i : Nat), (cellsR Q).drop (i * 4) = cellsR (Q.drop i)
  | Q, 0 => by simp
  | [], i + 1 => by simp [cellsR]
  | q :: Q, i + 1 => by
    have e : cellsR (q :: Q) = [.int .i64 q.id, .int .i64 q.n, .int .i64 q.st, q.bval] ++ cellsR Q := by simp [cellsR]
    rw [e, show (i + 1) * 4 = 4 + i * 4 by omega, ← List.drop_drop]
    simpa using cellsR_drop Q i

theorem rrd_end {w wr : World} {M R : Nat} {v lv lv' : Value} {L : List RegL} {size : Int} {Q : List RecL} {ov : Value} {i : Nat} (h : AllR w M R v L size lv Q) (hi : RdR w wr Q i ov) (hil : i ≤ Q.length)
    (hstop : ∀ q, (Q.drop i).head? = some q → q.st = 0) (hrow : RowAt w 76 4 lv' (Q.length - i) (cellsR (Q.drop i))) (hown : lv'.ownBlock = lv.ownBlock) :
    RReadPost w M R v L size lv Q (.returned ov) (wr.setCell ⟨R, 2, none⟩ lv') := by
  have hc : Chg [R] w (wr.setCell ⟨R, 2, none⟩ lv') := (hi.chg.mono (by simp)).setCell _ (by simp) _
  have hR0 := hi.chg.keep h.ring.root (by simp)
  have hR : (wr.setCell ⟨R, 2, none⟩ lv').heap[R]? = some (.cells #[.int .i64 size, .pointer (some ⟨M, 0, none⟩), lv'] 70 (0, 0)) := by
    rw [heap_setCell_same wr R 2 _ 70 _ hR0]; simp
  have hRl := lt_of_blk h.ring.root
  have hsub : ∀ q ∈ Q.drop i, q ∈ Q := fun q hq => List.mem_of_mem_drop hq
  have hsplit : Q.take i ++ Q.drop i = Q := List.take_append_drop i Q
  have hRe : ∀ x, x ∈ [R] → x = R := fun x hx => by simpa using hx
  have ha : aRead (Q.map RecL.abs) = ((outs (Q.take i)).map (·.bytes), (Q.drop i).map RecL.abs) := by
    have := aRead_split (Q.drop i) (Q.take i) hi.done
    rw [hsplit, aRead_stop _ hstop] at this
    simpa using this
  have hrecs : ∀ q ∈ Q, q.st ≠ 0 → RowAt (wr.setCell ⟨R, 2, none⟩ lv') 5 1 q.bval q.n (bytesV q.bytes) := fun q hq hs =>
    (h.ring.recs q hq hs).chg hc fun g hg hm => own_ne (h.ring.recs q hq hs) h.ring.root (by decide) (by rw [← hRe _ hm]; exact hg)
  refine ⟨lv', Q.drop i, ov, outs (Q.take i), rfl, ⟨h.mem.chg hc fun x hx hm => rmem_beside h.mem h.ring x hx (by rw [hRe x hm]; simp), ⟨hR, ?_, fun q hq hs => hrecs q (hsub q hq) hs, fun q hq => h.ring.pos q (hsub q hq), ?_, h.ring.size⟩, fun q hq => h.tie q (hsub q hq), fun q hq => h.sep q (hsub q hq), h.lens, fun q hq => h.idle q (hsub q hq)⟩, ?_, ?_, ?_, by simp, fun q hq => ?_, ?_, ?_⟩
  · have := hrow.chg hc fun g hg hm => own_ne hrow h.ring.root (by decide) (by rw [← hRe _ hm]; exact hg)
    simpa using this
  · have e : used (Q.take i ++ Q.drop i) = used (Q.take i) + used (Q.drop i) := by unfold used; rw [List.map_append, List.sum_append_nat]
    rw [hsplit] at e
    have := h.ring.le
    omega
  · exact hi.out.chg ((Chg.refl [R] wr).setCell _ (by simp) _) fun g hg hm => by
      have := hi.new g hg
      have := hRe _ hm
      omega
  · rw [ha]
  · rw [ha]
  · obtain ⟨h1, h2⟩ := List.mem_filter.1 hq
    have h3 := hi.done q h1
    exact ⟨h3, hrecs q (List.mem_of_mem_take h1) h3⟩
  · exact hc.mono fun x hx => .inl (by rw [hRe x hx]; simp [fpAllR, fpRR])
  · intro x hx
    left
    simp only [fpAllR, fpRR, hown, List.mem_append, List.mem_cons] at hx ⊢
    rcases hx with hx | hx | hx | hx
    · exact .inl hx
    · exact .inr (.inl hx)
    · exact .inr (.inr (.inl hx))
    · refine .inr (.inr (.inr ?_))
      obtain ⟨q, hq, rfl⟩ := List.mem_map.1 hx
      obtain ⟨h1, h2⟩ := List.mem_filter.1 hq
      exact List.mem_map.2 ⟨q, List.mem_filter.2 ⟨hsub q h1, h2⟩, rfl⟩
end Go.Proofs.YtliikmmcbbmppaaDoor
