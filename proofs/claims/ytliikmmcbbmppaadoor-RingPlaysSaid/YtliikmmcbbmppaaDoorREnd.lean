/- The end of a record of the reference's ring: the plain laws. -/
import Derived.Test.YtliikmmcbbmppaaDoorRRes2
namespace Go.Proofs.YtliikmmcbbmppaaDoor
open Go.RowKit Go.ChangeMaps

theorem RowAt.setCell {w : World} {e size g off n cap j : Nat} {xs : List Value} (h : RowAt w e size (.slice (some ⟨g, off, none⟩) n cap) n xs) (u : Value) :
    RowAt (w.setCell ⟨g, off + j, none⟩ u) e size (.slice (some ⟨g, off, none⟩) n cap) n (xs.set j u) := by
  obtain ⟨h1, h2⟩ := h
  refine ⟨by simpa using h1, ?_⟩
  rcases h2 with ⟨h2, _⟩ | ⟨g', off', cap', cur, h2, hg, a1, a2, a3, a4⟩
  · cases h2
  cases h2
  refine .inr ⟨g, off, cap, cur.setIfInBounds (off + j) u, rfl, heap_setCell_same w g (off + j) cur e u hg, a1, a2, by simpa using a3, ?_⟩
  rw [Array.toList_setIfInBounds, List.drop_set, if_neg (by omega), show off + j - off = j by omega, List.take_set, a4]

theorem cellsR_turn (Q1 Q2 : List RecL) (q q' : RecL) (h1 : q'.id = q.id) (h2 : q'.n = q.n) :
    ((cellsR (Q1 ++ q :: Q2)).set (Q1.length * 4 + 3) q'.bval).set (Q1.length * 4 + 2) (.int .i64 q'.st) = cellsR (Q1 ++ q' :: Q2) := by
  have e : ∀ a : RecL, cellsR (Q1 ++ a :: Q2) = cellsR Q1 ++ ([.int .i64 a.id, .int .i64 a.n, .int .i64 a.st, a.bval] ++ cellsR Q2) := fun a => by simp [cellsR]
  have hl := cellsR_len Q1
  rw [e, e, List.set_append_right _ _ (by omega), List.set_append_right _ _ (by omega), hl, show Q1.length * 4 + 3 - Q1.length * 4 = 3 by omega, show Q1.length * 4 + 2 - Q1.length * 4 = 2 by omega]
  simp [h1, h2]

def REndPost (w : World) (M R : Nat) (v : Value) (L : List RegL) (size : Int) (lv : Value) (Q : List RecL) (id : Int) (st : Nat) (e : Ending) (w' : World) : Prop :=
  ∃ L' Q', e = .returned (.int .i64 (aEnd (absM L) (Q.map RecL.abs) id st).1) ∧ AllR w' M R v L' size lv Q' ∧ absM L' = (aEnd (absM L) (Q.map RecL.abs) id st).2.1 ∧
    Q'.map RecL.abs = (aEnd (absM L) (Q.map RecL.abs) id st).2.2 ∧ L'.length = L.length ∧ Q'.length = Q.length ∧ Upd w w' (fpAllR M R v L lv Q) (fpAllR M R v L' lv Q')

theorem rends_mid {w w1 : World} {M R g off n cap : Nat} {v : Value} {L : List RegL} {size : Int} {Q : List RecL} {u u2 : Value} (h : AllR w M R v L size (.slice (some ⟨g, off, none⟩) n cap) Q) (hc1 : Chg [] w w1) (j k : Nat) :
    Chg [g] w ((w1.setCell ⟨g, off + j, none⟩ u).setCell ⟨g, off + k, none⟩ u2) ∧ MemR ((w1.setCell ⟨g, off + j, none⟩ u).setCell ⟨g, off + k, none⟩ u2) M v L := by
  have c : Chg [g] w ((w1.setCell ⟨g, off + j, none⟩ u).setCell ⟨g, off + k, none⟩ u2) := ((hc1.mono (T := [g]) (by simp)).setCell _ (by simp) _).setCell _ (by simp) _
  refine ⟨c, h.mem.chg c fun x hx hm => rmem_beside h.mem h.ring x hx ?_⟩
  obtain rfl := List.mem_singleton.1 hm
  simp [Value.ownBlock]

theorem rends_end {w w1 w3 w5 : World} {M R g off n cap gb ob cb m : Nat} {v : Value} {L : List RegL} {r : RegL} {size : Int} {Q1 Q2 : List RecL} {q : RecL} {st : Nat}
    (h : AllR w M R v L size (.slice (some ⟨g, off, none⟩) n cap) (Q1 ++ q :: Q2)) (hq : q.st = 0) (hst : st ≠ 0) (hi : L[m]? = some r) (hid : q.id = m + 1)
    (hc1 : Chg [] w w1) (hrow : RowAt w1 5 1 (.slice (some ⟨gb, ob, none⟩) r.bytes.length cb) r.bytes.length (bytesV r.bytes)) (hg : w.heap.size ≤ gb)
    (hw3 : w3.heap = ((w1.setCell ⟨g, off + Q1.length * 4 + 3, none⟩ (.slice (some ⟨gb, ob, none⟩) r.bytes.length cb)).setCell ⟨g, off + Q1.length * 4 + 2, none⟩ (.int .i64 st)).heap) (hw3' : Chg [g] w w3)
    (hm5 : MemR w5 M v (L.set m { r with dead := true })) (hc5 : Chg [r.blk] w3 w5) :
    AllR w5 M R v (L.set m { r with dead := true }) size (.slice (some ⟨g, off, none⟩) n cap) (Q1 ++ { q with st := st, bb := gb, bo := ob, cap := cb, bytes := r.bytes } :: Q2) ∧
      Upd w w5 (fpAllR M R v L (.slice (some ⟨g, off, none⟩) n cap) (Q1 ++ q :: Q2)) (fpAllR M R v (L.set m { r with dead := true }) (.slice (some ⟨g, off, none⟩) n cap) (Q1 ++ { q with st := st, bb := gb, bo := ob, cap := cb, bytes := r.bytes } :: Q2)) := by
  obtain ⟨_, _, en, _⟩ := h.ring.row.shape
  cases en
  obtain ⟨_, r', hi', hlen⟩ := h.tie q (by simp) hq
  rw [show q.id - 1 = m by omega, hi] at hi'
  obtain rfl : r = r' := by simpa using hi'
  have hqm : q ∈ Q1 ++ q :: Q2 := by simp
  have hrm := List.mem_of_getElem? hi
  obtain ⟨hrp, _⟩ := h.mem.reg r hrm
  have hgl : g < w.heap.size := h.ring.row.lt g rfl
  have hrl := hrp.lt
  have hgr : g ≠ r.blk := fun e => hrp.own h.ring.row (by decide) (by simp [Value.ownBlock, e])
  have hgR : g ≠ R := fun e => own_ne h.ring.row h.ring.root (by decide) (by simp [Value.ownBlock, e])
  have hRr : R ≠ r.blk := fun e => hrp.ne h.ring.root (by decide) e.symm
  have c5 : Chg [g, r.blk] w w5 := (hw3'.mono (T := [g, r.blk]) (by simp)).trans hc5 (by simp)
  -- the row behind it
  have hrow1 := h.ring.row.chg hc1 (by simp)
  have hrow3 := (hrow1.setCell (j := Q1.length * 4 + 3) (.slice (some ⟨gb, ob, none⟩) r.bytes.length cb)).setCell (j := Q1.length * 4 + 2) (.int .i64 st)
  have hbv : (RecL.bval { q with st := st, bb := gb, bo := ob, cap := cb, bytes := r.bytes }) = .slice (some ⟨gb, ob, none⟩) r.bytes.length cb := by simp [RecL.bval, hst, hlen]
  have ht := cellsR_turn Q1 Q2 q { q with st := st, bb := gb, bo := ob, cap := cb, bytes := r.bytes } rfl rfl
  rw [hbv] at ht
  dsimp only at ht
  rw [ht] at hrow3
  have hrow3' : RowAt w3 76 4 (.slice (some ⟨g, off, none⟩) (Q1 ++ q :: Q2).length cap) (Q1 ++ q :: Q2).length (cellsR (Q1 ++ { q with st := st, bb := gb, bo := ob, cap := cb, bytes := r.bytes } :: Q2)) := by
    have := hrow3
    obtain ⟨a0, a1⟩ := this
    refine ⟨a0, ?_⟩
    rcases a1 with a1 | ⟨g', o', c', cur, b1, b2, b3⟩
    · exact .inl a1
    · refine .inr ⟨g', o', c', cur, b1, ?_, b3⟩
      rw [hw3]
      simpa [Nat.add_assoc] using b2
  have hrow5 := hrow3'.chg hc5 (fun k hk hm => by
    have e1 : g = k := by simpa [Value.ownBlock] using hk
    have e2 : k = r.blk := by simpa using hm
    exact hgr (e1.trans e2))
  have hb5 : RowAt w5 5 1 (.slice (some ⟨gb, ob, none⟩) r.bytes.length cb) r.bytes.length (bytesV r.bytes) := by
    have hgl1 := hrow.lt gb rfl
    have k1 : RowAt w3 5 1 (.slice (some ⟨gb, ob, none⟩) r.bytes.length cb) r.bytes.length (bytesV r.bytes) := hrow.keep fun k hk => by
      have e1 : gb = k := by simpa [Value.ownBlock] using hk
      subst e1
      rw [hw3, Below.heap_setCell _ _ _ _ (by simp; omega), Below.heap_setCell _ _ _ _ (by simp; omega)]
    exact k1.chg hc5 fun k hk hm => by
      have e1 : gb = k := by simpa [Value.ownBlock] using hk
      have e2 : k = r.blk := by simpa using hm
      omega
  have hbb : (L.set m { r with dead := true }).map (·.bb) = L.map (·.bb) := map_set_same _ hi rfl
  have hblk : (L.set m { r with dead := true }).map (·.blk) = L.map (·.blk) := map_set_same _ hi rfl
  have hbl : (L.set m { r with dead := true }).map (·.bytes) = L.map (·.bytes) := map_set_same _ hi rfl
  have hdone : doneR (Q1 ++ { q with st := st, bb := gb, bo := ob, cap := cb, bytes := r.bytes } :: Q2) = doneR Q1 ++ { q with st := st, bb := gb, bo := ob, cap := cb, bytes := r.bytes } :: doneR Q2 := by simp [doneR, hst]
  have hdone0 : doneR (Q1 ++ q :: Q2) = doneR Q1 ++ doneR Q2 := by simp [doneR, hq]
  have hmemq : ∀ p, p ∈ Q1 ++ { q with st := st, bb := gb, bo := ob, cap := cb, bytes := r.bytes } :: Q2 → p = { q with st := st, bb := gb, bo := ob, cap := cb, bytes := r.bytes } ∨ p ∈ Q1 ++ Q2 := by
    intro p hp
    simp only [List.mem_append, List.mem_cons] at hp ⊢
    grind
  have hin : ∀ p ∈ Q1 ++ Q2, p ∈ Q1 ++ q :: Q2 := by
    intro p hp
    rcases List.mem_append.1 hp with hp | hp <;> simp [hp]
  have hu : used (Q1 ++ { q with st := st, bb := gb, bo := ob, cap := cb, bytes := r.bytes } :: Q2) = used (Q1 ++ q :: Q2) := by simp [used]
  refine ⟨⟨hm5, ⟨?_, ?_, ?_, ?_, ?_, h.ring.size⟩, ?_, ?_, ?_, ?_⟩, ?_, ?_⟩
  · exact c5.keep h.ring.root (by simp [hRr]; exact hgR.symm)
  · simpa using hrow5
  · intro p hp hs
    rcases hmemq p hp with rfl | hp
    · rw [hbv]
      simpa [hlen] using hb5
    · have p2 := h.ring.recs p (hin p hp) hs
      refine p2.chg c5 fun k hk hm => ?_
      simp only [List.mem_cons, List.not_mem_nil, or_false] at hm
      rcases hm with e | e
      · obtain ⟨cs, fr, hh⟩ := row_cells h.ring.row (g := g) rfl
        exact own_ne p2 hh (by decide) (e ▸ hk)
      · exact hrp.own p2 (by decide) (e ▸ hk)
  · intro p hp
    rcases hmemq p hp with rfl | hp
    · exact h.ring.pos q hqm
    · exact h.ring.pos p (hin p hp)
  · rw [hu]; exact h.ring.le
  · intro p hp hs
    rcases hmemq p hp with rfl | hp
    · exact absurd hs hst
    · obtain ⟨p1, r1, p2, p3⟩ := h.tie p (hin p hp) hs
      refine ⟨p1, ?_⟩
      have : (L.map (·.bytes))[p.id - 1]? = some r1.bytes := by simp [p2]
      rw [← hbl, List.getElem?_map] at this
      obtain ⟨r2, p4, p5⟩ := Option.map_eq_some_iff.1 this
      exact ⟨r2, p4, by rw [p5]; exact p3⟩
  · intro p hp hs
    rw [hbb]
    rcases hmemq p hp with rfl | hp
    · intro hm
      obtain ⟨r1, hr1, e⟩ := List.mem_map.1 hm
      have := (h.mem.reg r1 hr1).2.1.lt r1.bb rfl
      simp at e
      omega
    · exact h.sep p (hin p hp) hs
  · intro r1 hr1
    have : r1.bytes ∈ (L.set m { r with dead := true }).map (·.bytes) := List.mem_map.2 ⟨r1, hr1, rfl⟩
    rw [hbl] at this
    obtain ⟨r2, hr2, e⟩ := List.mem_map.1 this
    rw [← e]; exact h.lens r2 hr2
  · intro p hp
    rw [List.length_set]
    rcases hmemq p hp with rfl | hp
    · exact h.idle q hqm
    · exact h.idle p (hin p hp)
  · refine c5.mono fun y hy => .inl ?_
    simp only [List.mem_cons, List.not_mem_nil, or_false] at hy
    simp only [fpAllR, fpM, fpRR, List.mem_append, List.mem_cons, List.mem_map]
    rcases hy with rfl | rfl
    · exact .inr (.inr (.inl (by simp [Value.ownBlock])))
    · exact .inl (.inr (.inr (.inl ⟨r, hrm, rfl⟩)))
  · intro y hy
    simp only [fpAllR, fpM, fpRR, hbb, hblk, hdone, hdone0, List.map_append, List.map_cons, List.mem_append, List.mem_cons] at hy ⊢
    rcases hy with hy | hy | hy | hy | hy | hy
    · exact .inl (.inl hy)
    · exact .inl (.inr (.inl hy))
    · exact .inl (.inr (.inr (.inl hy)))
    · exact .inl (.inr (.inr (.inr (.inl hy))))
    · exact .inr (by omega)
    · exact .inl (.inr (.inr (.inr (.inr hy))))
end Go.Proofs.YtliikmmcbbmppaaDoor
