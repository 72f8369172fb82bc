/- Reserve of the reference's ring. -/
import Derived.Test.YtliikmmcbbmppaaDoorRR
namespace Go.Proofs.YtliikmmcbbmppaaDoor
open Go.RowKit Go.ChangeMaps

theorem RingR.drew {w : World} {R M : Nat} {size : Int} {lv : Value} {Q : List RecL} (h : RingR w R M size lv Q) : RingR w.drew R M size lv Q := h.chg (Chg.refl [] w).drew (by simp)

/-- Which type the block of the reference's memory has. -/
theorem MemR.kind {w : World} {M : Nat} {v : Value} {L : List RegL} (h : MemR w M v L) {x : Nat} (hx : x ∈ fpM M v L) : ∃ cs e fr, w.heap[x]? = some (.cells cs e fr) ∧ (e = 63 ∨ e = 88 ∨ e = 98 ∨ (e = 5 ∧ x ∈ L.map (·.bb))) := by
  simp only [fpM, List.mem_cons, List.mem_append, List.mem_map, Option.mem_toList] at hx
  rcases hx with rfl | hx | ⟨r, hr, rfl⟩ | ⟨r, hr, rfl⟩
  · exact ⟨_, _, _, h.root, .inl rfl⟩
  · obtain ⟨cs, fr, hh⟩ := row_cells h.row hx
    exact ⟨_, _, _, hh, .inr (.inl rfl)⟩
  · obtain ⟨cs, hh, _⟩ := (h.reg r hr).1.ex
    exact ⟨_, _, _, hh, .inr (.inr (.inl rfl))⟩
  · obtain ⟨cs, fr, hh⟩ := row_cells (h.reg r hr).2.1 (g := r.bb) rfl
    exact ⟨_, _, _, hh, .inr (.inr (.inr ⟨rfl, List.mem_map.2 ⟨r, hr, rfl⟩⟩))⟩
theorem RingR.kind {w : World} {R M : Nat} {size : Int} {lv : Value} {Q : List RecL} (h : RingR w R M size lv Q) {x : Nat} (hx : x ∈ fpRR R lv Q) :
    ∃ cs e fr, w.heap[x]? = some (.cells cs e fr) ∧ (e = 70 ∨ e = 76 ∨ (e = 5 ∧ ∃ q ∈ Q, q.st ≠ 0 ∧ q.bb = x)) := by
  simp only [fpRR, List.mem_cons, List.mem_append, List.mem_map, Option.mem_toList] at hx
  rcases hx with rfl | hx | ⟨q, hq, rfl⟩
  · exact ⟨_, _, _, h.root, .inl rfl⟩
  · obtain ⟨cs, fr, hh⟩ := row_cells h.row hx
    exact ⟨_, _, _, hh, .inr (.inl rfl)⟩
  · obtain ⟨hq, hs⟩ := List.mem_filter.1 hq
    have hs' : q.st ≠ 0 := by simpa using hs
    obtain ⟨cs, fr, hh⟩ := row_cells (h.recs q hq hs') (g := q.bb) (by simp [RecL.bval, hs', Value.ownBlock])
    exact ⟨_, _, _, hh, .inr (.inr ⟨rfl, q, hq, hs', rfl⟩)⟩
/-- The reference's ring lies beside its memory. -/
theorem rring_apart {w : World} {M R : Nat} {v : Value} {L : List RegL} {size : Int} {lv : Value} {Q : List RecL} (h : AllR w M R v L size lv Q) : ∀ x ∈ fpRR R lv Q, x ∉ fpM M v L := by
  intro x hx hm
  obtain ⟨cs, e, fr, hh, he⟩ := h.mem.kind hm
  obtain ⟨cs', e', fr', hh', he'⟩ := h.ring.kind hx
  have := hh.symm.trans hh'
  simp at this
  obtain ⟨_, rfl, _⟩ := this
  rcases he with e1 | e1 | e1 | ⟨e1, hb⟩ <;> rcases he' with e2 | e2 | ⟨e2, q, hq, hs, hqx⟩
  all_goals first | exact h.sep q hq hs (by rw [hqx]; exact hb) | (rw [e1] at e2; cases e2)
/-- .. and its root and row are none of the memory's. -/
theorem rmem_beside {w : World} {M R : Nat} {v : Value} {L : List RegL} {size : Int} {lv : Value} {Q : List RecL} (hm : MemR w M v L) (h : RingR w R M size lv Q) : ∀ x ∈ fpM M v L, x ∉ R :: lv.ownBlock.toList := by
  intro x hx hn
  obtain ⟨cs, e, fr, hh, he⟩ := hm.kind hx
  have : ∃ cs e fr, w.heap[x]? = some (.cells cs e fr) ∧ (e = 70 ∨ e = 76) := by
    rcases List.mem_cons.1 hn with rfl | hn
    · exact ⟨_, _, _, h.root, .inl rfl⟩
    · rw [Option.mem_toList] at hn
      obtain ⟨cs, fr, hh⟩ := row_cells h.row hn
      exact ⟨_, _, _, hh, .inr rfl⟩
  obtain ⟨cs', e', fr', hh', he'⟩ := this
  have := hh.symm.trans hh'
  simp at this
  obtain ⟨_, rfl, _⟩ := this
  rcases he with e1 | e1 | e1 | ⟨e1, _⟩ <;> rcases he' with e2 | e2 <;> (rw [e1] at e2; cases e2)
theorem rring_beside {w : World} {M R : Nat} {v : Value} {L : List RegL} {size : Int} {lv : Value} {Q : List RecL} (h : AllR w M R v L size lv Q) : ∀ x ∈ fpRR R lv Q, x ∉ M :: v.ownBlock.toList := by
  intro x hx hm
  refine rring_apart h x hx ?_
  simp only [fpM, List.mem_cons, List.mem_append] at hm ⊢
  rcases hm with e | e
  · exact .inl e
  · exact .inr (.inl e)

theorem rres_end {w w3 wf : World} {M R : Nat} {v v' lv lv' : Value} {L : List RegL} {r : RegL} {size : Int} {Q : List RecL} {k : Nat} (h : AllR w M R v L size lv Q)
    (hk : 1 ≤ k ∧ k ≤ 4096) (hfit : ((used Q : Nat) : Int) + (takes k : Nat) ≤ size)
    (hm : MemR w3 M v' (L ++ [r])) (hr2 : r.bytes = List.replicate k 0) (hc3 : Chg (M :: v.ownBlock.toList) w w3) (hrb : w.heap.size ≤ r.blk) (hrbb : w.heap.size ≤ r.bb)
    (hv' : ∀ g, v'.ownBlock = some g → v.ownBlock = some g ∨ w.heap.size ≤ g)
    (hc5 : Chg (R :: lv.ownBlock.toList) w3 wf)
    (hRo : wf.heap[R]? = some (.cells #[.int .i64 size, .pointer (some ⟨M, 0, none⟩), lv'] 70 (0, 0)))
    (hrow : RowAt wf 76 4 lv' (Q.length + 1) (cellsR Q ++ [.int .i64 ((L.length : Int) + 1), .int .i64 k, .int .i64 0, .slice none 0 0]))
    (hlv' : ∀ g, lv'.ownBlock = some g → lv.ownBlock = some g ∨ w3.heap.size ≤ g) :
    AllR wf M R v' (L ++ [r]) size lv' (Q ++ [⟨0, L.length + 1, k, 0, 0, 0, 0, []⟩]) ∧
      Upd w wf (fpAllR M R v L lv Q) (fpAllR M R v' (L ++ [r]) lv' (Q ++ [⟨0, L.length + 1, k, 0, 0, 0, 0, []⟩])) := by
  have hring3 := h.ring.chg hc3 (rring_beside h)
  have hdone : doneR (Q ++ [(⟨0, L.length + 1, k, 0, 0, 0, 0, []⟩ : RecL)]) = doneR Q := by simp [doneR]
  have hs3 := hc3.size
  refine ⟨⟨hm.chg hc5 (rmem_beside hm hring3), ⟨hRo, ?_, ?_, ?_, ?_, h.ring.size⟩, ?_, ?_, ?_, ?_⟩, ?_, ?_⟩
  · have e : cellsR (Q ++ [(⟨0, L.length + 1, k, 0, 0, 0, 0, []⟩ : RecL)]) = cellsR Q ++ [.int .i64 ((L.length : Int) + 1), .int .i64 k, .int .i64 0, .slice none 0 0] := by
      rw [cellsR_append]; simp [cellsR, RecL.bval]
    rw [e]
    simpa using hrow
  · intro q hq hs
    rcases List.mem_append.1 hq with hq | hq
    · have h2 := hring3.recs q hq hs
      refine h2.chg hc5 fun g hg hm => ?_
      rcases List.mem_cons.1 hm with e | e
      · exact own_ne h2 hring3.root (by decide) (e ▸ hg)
      · rw [Option.mem_toList] at e
        obtain ⟨cs, fr, hh⟩ := row_cells hring3.row e
        exact own_ne h2 hh (by decide) hg
    · obtain rfl := List.mem_singleton.1 hq
      exact absurd rfl hs
  · intro q hq
    rcases List.mem_append.1 hq with hq | hq
    · exact h.ring.pos q hq
    · obtain rfl := List.mem_singleton.1 hq; exact hk
  · rw [used_append]; simpa using hfit
  · intro q hq hs
    rcases List.mem_append.1 hq with hq | hq
    · obtain ⟨h1, r', h2, h3⟩ := h.tie q hq hs
      exact ⟨h1, r', by rw [List.getElem?_append_left (List.getElem?_eq_some_iff.1 h2).1]; exact h2, h3⟩
    · obtain rfl := List.mem_singleton.1 hq
      exact ⟨by simp, r, by simp, by simp [hr2]⟩
  · intro q hq hs hb
    rcases List.mem_append.1 hq with hq | hq
    · rw [List.map_append, List.mem_append] at hb
      rcases hb with hb | hb
      · exact h.sep q hq hs hb
      · have h1 := (h.ring.recs q hq hs).lt q.bb (by simp [RecL.bval, hs, Value.ownBlock])
        have : q.bb = r.bb := by simpa using hb
        omega
    · obtain rfl := List.mem_singleton.1 hq
      exact hs rfl
  · intro q hq
    rcases List.mem_append.1 hq with hq | hq
    · exact h.lens q hq
    · obtain rfl := List.mem_singleton.1 hq
      simp [hr2]; exact hk.2
  · intro q hq
    rcases List.mem_append.1 hq with hq | hq
    · have := h.idle q hq; simp; omega
    · obtain rfl := List.mem_singleton.1 hq
      simp
  · refine (hc3.mono fun x hx => .inl ?_).trans hc5 fun x hx => .inl ?_
    · simp only [fpAllR, fpM, List.mem_append, List.mem_cons] at hx ⊢
      rcases hx with e | e
      · exact .inl (.inl e)
      · exact .inl (.inr (.inl e))
    · simp only [fpAllR, fpRR, List.mem_append, List.mem_cons] at hx ⊢
      rcases hx with e | e
      · exact .inr (.inl e)
      · exact .inr (.inr (.inl e))
  · intro x hx
    simp only [fpAllR, fpRR, fpM, hdone, List.map_append, List.map_cons, List.map_nil, List.mem_append, List.mem_cons, List.not_mem_nil, or_false, Option.mem_toList] at hx ⊢
    rcases hx with (e | e | (e | e) | (e | e)) | e | e | e
    · exact .inl (.inl (.inl e))
    · rcases hv' x e with e | e
      · exact .inl (.inl (.inr (.inl e)))
      · exact .inr e
    · exact .inl (.inl (.inr (.inr (.inl e))))
    · exact .inr (e ▸ hrb)
    · exact .inl (.inl (.inr (.inr (.inr e))))
    · exact .inr (e ▸ hrbb)
    · exact .inl (.inr (.inl e))
    · rcases hlv' x e with e | e
      · exact .inl (.inr (.inr (.inl e)))
      · exact .inr (by omega)
    · exact .inl (.inr (.inr (.inr e)))
end Go.Proofs.YtliikmmcbbmppaaDoor
