/- Reserve of the program's ring, where the record fits. -/
import Derived.Test.YtliikmmcbbmppaaDoorRes
namespace Go.Proofs.YtliikmmcbbmppaaDoor
open Go.RowKit Go.ChangeMaps

theorem row_cells {w : World} {e size : Nat} {v : Value} {n : Nat} {xs : List Value} {g : Nat} (h : RowAt w e size v n xs) (hg : v.ownBlock = some g) : ∃ cs fr, w.heap[g]? = some (.cells cs e fr) := by
  rcases h.2 with ⟨rfl, _⟩ | ⟨g', off, cap, cur, rfl, hh, _⟩
  · cases hg
  · simp [Value.ownBlock] at hg
    subst hg
    exact ⟨_, _, hh⟩

/-- Which type the block of a memory has. -/
theorem MemM.kind {w : World} {M : Nat} {v : Value} {L : List RegL} (h : MemM w M v L) {x : Nat} (hx : x ∈ fpM M v L) : ∃ cs e fr, w.heap[x]? = some (.cells cs e fr) ∧ (e = 60 ∨ e = 82 ∨ e = 87 ∨ e = 5) := by
  simp only [fpM, List.mem_cons, List.mem_append, List.mem_map, Option.mem_toList] at hx
  rcases hx with rfl | hx | ⟨r, hr, rfl⟩ | ⟨r, hr, rfl⟩
  · exact ⟨_, _, _, h.root, .inl rfl⟩
  · obtain ⟨cs, fr, hh⟩ := row_cells h.row hx
    exact ⟨_, _, _, hh, .inr (.inl rfl)⟩
  · exact ⟨_, _, _, (h.reg r hr).1, .inr (.inr (.inl rfl))⟩
  · obtain ⟨cs, fr, hh⟩ := row_cells (h.reg r hr).2.1 (g := r.bb) rfl
    exact ⟨_, _, _, hh, .inr (.inr (.inr rfl))⟩
/-- Which type the block of a ring has. -/
theorem RingM.kind {w : World} {R T M : Nat} {size : Int} {rv : Value} {Q : List RecL} {E : List Ent} {clock : Nat} (h : RingM w R T M size rv Q E clock) {x : Nat} (hx : x ∈ fpRing R T rv Q) :
    x = T ∨ ∃ cs e fr, w.heap[x]? = some (.cells cs e fr) ∧ (e = 67 ∨ e = 71 ∨ e = 74 ∨ (e = 5 ∧ ∃ q ∈ Q, q.st ≠ 0 ∧ q.bb = x)) := by
  simp only [fpRing, fpQ, List.mem_cons, List.mem_append, List.mem_map, Option.mem_toList] at hx
  rcases hx with rfl | rfl | hx | ⟨q, hq, rfl⟩ | ⟨q, hq, rfl⟩
  · exact .inr ⟨_, _, _, h.root, .inl rfl⟩
  · exact .inl rfl
  · obtain ⟨cs, fr, hh⟩ := row_cells h.row hx
    exact .inr ⟨_, _, _, hh, .inr (.inl rfl)⟩
  · exact .inr ⟨_, _, _, (h.recs q hq).1, .inr (.inr (.inl rfl))⟩
  · obtain ⟨hq, hs⟩ := List.mem_filter.1 hq
    have hs' : q.st ≠ 0 := by simpa using hs
    obtain ⟨cs, fr, hh⟩ := row_cells ((h.recs q hq).2 hs') (g := q.bb) (by simp [RecL.bval, hs', Value.ownBlock])
    exact .inr ⟨_, _, _, hh, .inr (.inr (.inr ⟨rfl, q, hq, hs', rfl⟩))⟩
/-- A ring lies beside its memory's root and row. -/
theorem ring_beside {w : World} {R T M : Nat} {size : Int} {v rv : Value} {L : List RegL} {Q : List RecL} {E : List Ent} {clock : Nat} (hm : MemM w M v L) (h : RingM w R T M size rv Q E clock) : ∀ x ∈ fpRing R T rv Q, x ∉ M :: v.ownBlock.toList := by
  intro x hx hn
  have : ∃ cs e fr, w.heap[x]? = some (.cells cs e fr) ∧ (e = 60 ∨ e = 82) := by
    rcases List.mem_cons.1 hn with rfl | hn
    · exact ⟨_, _, _, hm.root, .inl rfl⟩
    · rw [Option.mem_toList] at hn
      obtain ⟨cs, fr, hh⟩ := row_cells hm.row hn
      exact ⟨_, _, _, hh, .inr rfl⟩
  obtain ⟨cs, e, fr, hh, he⟩ := this
  rcases h.kind hx with rfl | ⟨cs', e', fr', hh', he'⟩
  · exact map_no_cells h.tab hh rfl
  · have := (hh.symm.trans hh')
    simp at this
    obtain ⟨_, rfl, _⟩ := this
    rcases he with rfl | rfl <;> rcases he' with e | e | e | ⟨e, _⟩ <;> cases e
/-- A memory lies beside its ring's own blocks. -/
theorem mem_beside {w : World} {R T M : Nat} {size : Int} {v rv : Value} {L : List RegL} {Q : List RecL} {E : List Ent} {clock : Nat} (hm : MemM w M v L) (h : RingM w R T M size rv Q E clock) : ∀ x ∈ fpM M v L, x ∉ R :: T :: (rv.ownBlock.toList ++ Q.map (·.blk)) := by
  intro x hx hn
  obtain ⟨cs, e, fr, hh, he⟩ := hm.kind hx
  have : x = T ∨ ∃ cs e fr, w.heap[x]? = some (.cells cs e fr) ∧ (e = 67 ∨ e = 71 ∨ e = 74) := by
    simp only [List.mem_cons, List.mem_append, List.mem_map, Option.mem_toList] at hn
    rcases hn with rfl | rfl | hn | ⟨q, hq, rfl⟩
    · exact .inr ⟨_, _, _, h.root, .inl rfl⟩
    · exact .inl rfl
    · obtain ⟨cs, fr, hh⟩ := row_cells h.row hn
      exact .inr ⟨_, _, _, hh, .inr (.inl rfl)⟩
    · exact .inr ⟨_, _, _, (h.recs q hq).1, .inr (.inr rfl)⟩
  rcases this with rfl | ⟨cs', e', fr', hh', he'⟩
  · exact map_no_cells h.tab hh rfl
  · have := (hh.symm.trans hh')
    simp at this
    obtain ⟨_, rfl, _⟩ := this
    rcases he with rfl | rfl | rfl | rfl <;> rcases he' with e | e | e <;> cases e

theorem res_end {w w3 wf : World} {M R T X : Nat} {v v' rv rv' : Value} {L : List RegL} {r : RegL} {size : Int} {Q : List RecL} {E : List Ent} {clock k : Nat} (h : AllM w M R T v L size rv Q E clock)
    (hk : 1 ≤ k ∧ k ≤ 4096) (hfit : ((used Q : Nat) : Int) + (takes k : Nat) ≤ size)
    (hm : MemM w3 M v' (L ++ [r])) (hr1 : r.dead = false) (hr2 : r.bytes = List.replicate k 0) (hc3 : Chg (M :: v.ownBlock.toList) w w3) (hrb : w.heap.size ≤ r.blk) (hrbb : w.heap.size ≤ r.bb)
    (hv' : ∀ g, v'.ownBlock = some g → v.ownBlock = some g ∨ w.heap.size ≤ g)
    (hc5 : Chg (R :: T :: rv.ownBlock.toList) w3 wf) (hX : w3.heap.size ≤ X)
    (hXo : wf.heap[X]? = some (.cells #[.int .i64 ((L.length : Int) + 1), .int .i64 k, .int .i64 0, .slice none 0 0] 74))
    (hRo : wf.heap[R]? = some (.cells #[.int .i64 size, .int .i64 ((used Q : Nat) + (takes k : Nat)), .pointer (some ⟨M, 0, none⟩), rv', .map (some T)] 67 (0, 0)))
    (hTo : wf.heap[T]? = some (mapObj (E ++ [⟨(L.length : Int) + 1, X, clock⟩]) (clock + 1)))
    (hrow : RowAt wf 71 1 rv' (Q.length + 1) ((Q.map fun q => Value.pointer (some ⟨q.blk, 0, none⟩)) ++ [.pointer (some ⟨X, 0, none⟩)]))
    (hrv' : ∀ g, rv'.ownBlock = some g → rv.ownBlock = some g ∨ w3.heap.size ≤ g) :
    AllM wf M R T v' (L ++ [r]) size rv' (Q ++ [⟨X, L.length + 1, k, 0, 0, 0, 0, []⟩]) (E ++ [⟨(L.length : Int) + 1, X, clock⟩]) (clock + 1) ∧
      Upd w wf (fpAll M R T v L rv Q) (fpAll M R T v' (L ++ [r]) rv' (Q ++ [⟨X, L.length + 1, k, 0, 0, 0, 0, []⟩])) := by
  have hring3 := h.ring.chg hc3 (ring_beside h.mem h.ring)
  have hbes := mem_beside hm hring3
  have hdone : doneR (Q ++ [(⟨X, L.length + 1, k, 0, 0, 0, 0, []⟩ : RecL)]) = doneR Q := by simp [doneR]
  have hs3 := hc3.size
  have hmem : MemM wf M v' (L ++ [r]) := hm.chg hc5 fun x hx hn => hbes x hx (by
    simp only [List.mem_cons, List.mem_append] at hn ⊢
    rcases hn with e | e | e
    · exact .inl e
    · exact .inr (.inl e)
    · exact .inr (.inr (.inl e)))
  refine ⟨⟨hmem, ⟨?_, ?_, ?_, hTo, ?_, ?_, ?_, ?_, ?_, ?_, h.ring.size⟩, ?_, ?_, ?_, ?_, ?_⟩, ?_, ?_⟩
  · rw [used_append]; simpa using hRo
  · simpa using hrow
  · intro q hq
    rcases List.mem_append.1 hq with hq | hq
    · obtain ⟨h1, h2⟩ := hring3.recs q hq
      have hn1 : q.blk ∉ R :: T :: rv.ownBlock.toList := by
        intro hm
        simp only [List.mem_cons, Option.mem_toList] at hm
        rcases hm with e | e | e
        · exact blk_ne h1 hring3.root (by decide) e
        · exact map_no_cells hring3.tab h1 e.symm
        · exact own_ne hring3.row h1 (by decide) e
      refine ⟨hc5.keep h1 hn1, fun hs => (h2 hs).chg hc5 fun g hg hm => ?_⟩
      simp only [List.mem_cons, Option.mem_toList] at hm
      rcases hm with e | e | e
      · exact own_ne (h2 hs) hring3.root (by decide) (e ▸ hg)
      · exact map_no_row hring3.tab (h2 hs) (e ▸ hg)
      · obtain ⟨cs, fr, hh⟩ := row_cells hring3.row e
        exact own_ne (h2 hs) hh (by decide) hg
    · obtain rfl : q = _ := List.mem_singleton.1 hq
      exact ⟨by simpa [RecL.obj, RecL.bval] using hXo, fun hs => absurd rfl hs⟩
  · have : pend (Q ++ [(⟨X, L.length + 1, k, 0, 0, 0, 0, []⟩ : RecL)]) = pend Q ++ [⟨X, L.length + 1, k, 0, 0, 0, 0, []⟩] := by simp [pend]
    rw [this, List.map_append, List.map_append, h.ring.ent]
    simp
  · intro x hx
    rcases List.mem_append.1 hx with hx | hx
    · have := h.ring.born x hx; omega
    · obtain rfl := List.mem_singleton.1 hx; simp
  · rw [List.map_append, List.nodup_append]
    refine ⟨h.ring.nd, by simp, fun a ha b hb e => ?_⟩
    obtain ⟨q, hq, rfl⟩ := List.mem_map.1 ha
    obtain rfl : b = X := by simpa using hb
    have := lt_of_blk (hring3.recs q hq).1
    omega
  · have : pend (Q ++ [(⟨X, L.length + 1, k, 0, 0, 0, 0, []⟩ : RecL)]) = pend Q ++ [⟨X, L.length + 1, k, 0, 0, 0, 0, []⟩] := by simp [pend]
    rw [this, List.map_append, List.nodup_append]
    refine ⟨h.ring.ids, by simp, fun a ha b hb e => ?_⟩
    obtain ⟨q, hq, rfl⟩ := List.mem_map.1 ha
    obtain rfl : b = L.length + 1 := by simpa using hb
    have := h.idle q (List.mem_filter.1 hq).1
    omega
  · intro q hq
    rcases List.mem_append.1 hq with hq | hq
    · exact h.ring.pos q hq
    · obtain rfl := List.mem_singleton.1 hq; exact hk
  · rw [used_append]; simpa using hfit
  · intro q hq hs
    rcases List.mem_append.1 hq with hq | hq
    · obtain ⟨h1, r', h2, h3⟩ := h.tie q hq hs
      exact ⟨h1, r', by rw [List.getElem?_append_left (List.getElem?_eq_some_iff.1 h2).1]; exact h2, h3⟩
    · obtain rfl := List.mem_singleton.1 hq
      exact ⟨by simp, r, by simp, by simp [hr2]⟩
  · intro q hq hs hb
    rcases List.mem_append.1 hq with hq | hq
    · rw [List.map_append, List.mem_append] at hb
      rcases hb with hb | hb
      · exact h.sep q hq hs hb
      · have h1 := ((h.ring.recs q hq).2 hs).lt q.bb (by simp [RecL.bval, hs, Value.ownBlock])
        have : q.bb = r.bb := by simpa using hb
        omega
    · obtain rfl := List.mem_singleton.1 hq
      exact hs rfl
  · rw [hdone]; exact h.ndd
  · intro q hq
    rcases List.mem_append.1 hq with hq | hq
    · exact h.lens q hq
    · obtain rfl := List.mem_singleton.1 hq
      simp [hr2]; exact hk.2
  · intro q hq
    rcases List.mem_append.1 hq with hq | hq
    · have := h.idle q hq; simp; omega
    · obtain rfl := List.mem_singleton.1 hq
      simp
  · refine (hc3.mono fun x hx => .inl ?_).trans hc5 fun x hx => .inl ?_
    · simp only [fpAll, fpM, List.mem_append, List.mem_cons] at hx ⊢
      rcases hx with e | e
      · exact .inl (.inl e)
      · exact .inl (.inr (.inl e))
    · simp only [fpAll, fpRing, List.mem_append, List.mem_cons] at hx ⊢
      rcases hx with e | e | e
      · exact .inr (.inl e)
      · exact .inr (.inr (.inl e))
      · exact .inr (.inr (.inr (.inl e)))
  · intro x hx
    simp only [fpAll, fpRing, fpQ, fpM, hdone, List.map_append, List.map_cons, List.map_nil, List.mem_append, List.mem_cons, List.not_mem_nil, or_false, Option.mem_toList] at hx ⊢
    rcases hx with (e | e | (e | e) | (e | e)) | e | e | e | (e | e) | e
    · exact .inl (.inl (.inl e))
    · rcases hv' x e with e | e
      · exact .inl (.inl (.inr (.inl e)))
      · exact .inr e
    · exact .inl (.inl (.inr (.inr (.inl e))))
    · exact .inr (e ▸ hrb)
    · exact .inl (.inl (.inr (.inr (.inr e))))
    · exact .inr (e ▸ hrbb)
    · exact .inl (.inr (.inl e))
    · exact .inl (.inr (.inr (.inl e)))
    · rcases hrv' x e with e | e
      · exact .inl (.inr (.inr (.inr (.inl e))))
      · exact .inr (by omega)
    · exact .inl (.inr (.inr (.inr (.inr (.inl e)))))
    · exact .inr (by omega)
    · exact .inl (.inr (.inr (.inr (.inr (.inr e)))))
end Go.Proofs.YtliikmmcbbmppaaDoor
