/- The end of a record of the program's ring. -/
import Derived.Test.YtliikmmcbbmppaaDoorRes4
namespace Go.Proofs.YtliikmmcbbmppaaDoor
open Go.RowKit Go.ChangeMaps

theorem aEnd_none (A : AM) (q : List ARec) (id : Int) (st : Nat) (h : ∀ r ∈ q, ¬((r.id : Int) = id ∧ r.st = 0)) : aEnd A q id st = (101, A, q) := by
  have : q.findIdx? (fun r => decide ((r.id : Int) = id) && r.st == 0) = none := by
    rw [List.findIdx?_eq_none_iff]
    intro r hr
    have := h r hr
    simpa using this
  simp [aEnd, this]
theorem modify_mid {α : Type} (f : α → α) (r : α) (q2 : List α) : ∀ q1 : List α, (q1 ++ r :: q2).modify q1.length f = q1 ++ f r :: q2
  | [] => by simp
  | a :: q1 => by simp [modify_mid f r q2 q1]
theorem aEnd_some (A : AM) (q1 q2 : List ARec) (r : ARec) (st : Nat) (h : ∀ x ∈ q1, ¬((x.id : Int) = (r.id : Int) ∧ x.st = 0)) (hr : r.st = 0) :
    aEnd A (q1 ++ r :: q2) r.id st = (0, amKill A ((r.id : Int) - 1).toNat, q1 ++ { r with st := st, bytes := (A[((r.id : Int) - 1).toNat]?.map (·.2)).getD [] } :: q2) := by
  have : (q1 ++ r :: q2).findIdx? (fun x => decide ((x.id : Int) = (r.id : Int)) && x.st == 0) = some q1.length := by
    rw [List.findIdx?_append]
    have h0 : q1.findIdx? (fun x => decide ((x.id : Int) = (r.id : Int)) && x.st == 0) = none := by
      rw [List.findIdx?_eq_none_iff]
      intro x hx
      have := h x hx
      simpa using this
    rw [h0]
    simp [List.findIdx?_cons, hr]
  simp only [aEnd, this]
  congr 2
  rw [modify_mid]

theorem ring_split {w : World} {R T M : Nat} {size : Int} {rv : Value} {Q1 Q2 : List RecL} {q : RecL} {E : List Ent} {clock : Nat} (h : RingM w R T M size rv (Q1 ++ q :: Q2) E clock) (hq : q.st = 0) :
    ∃ E1 x E2, E = E1 ++ x :: E2 ∧ x.id = (q.id : Int) ∧ x.blk = q.blk ∧ E1.map (fun x => (x.id, x.blk)) = (pend Q1).map (fun q => ((q.id : Int), q.blk)) ∧ E2.map (fun x => (x.id, x.blk)) = (pend Q2).map (fun q => ((q.id : Int), q.blk)) ∧ (∀ y ∈ E1, y.id ≠ (q.id : Int)) := by
  have hp : pend (Q1 ++ q :: Q2) = pend Q1 ++ q :: pend Q2 := by simp [pend, hq]
  have he := h.ent
  rw [hp, List.map_append, List.map_cons, List.map_eq_append_iff] at he
  obtain ⟨E1, E', rfl, h1, h2⟩ := he
  rw [List.map_eq_cons_iff] at h2
  obtain ⟨x, E2, rfl, h3, h4⟩ := h2
  simp only [Prod.mk.injEq] at h3
  refine ⟨E1, x, E2, rfl, h3.1, h3.2, h1, h4, fun y hy e => ?_⟩
  have hi := h.ids
  rw [hp, List.map_append, List.nodup_append] at hi
  have : (y.id, y.blk) ∈ (pend Q1).map (fun q => ((q.id : Int), q.blk)) := by rw [← h1]; exact List.mem_map.2 ⟨y, hy, rfl⟩
  obtain ⟨q', hq', e'⟩ := List.mem_map.1 this
  simp only [Prod.mk.injEq] at e'
  exact hi.2.2 q'.id (List.mem_map.2 ⟨q', hq', rfl⟩) q.id (by simp) (by omega)

section
variable {w : World} {K : Nat} {E1 E2 : List Ent} {x : Ent} {clock : Nat}
theorem run_lookup_at (hK : w.heap[K]? = some (mapObj (E1 ++ x :: E2) clock)) (hn : ∀ y ∈ E1, y.id ≠ x.id) :
    (Instr.lookup 64 (.map (some K)) (.int .i64 x.id) true).run Tryd.prog w = .ok (.tuple #[.pointer (some ⟨x.blk, 0, none⟩), .bool true]) w :=
  run_lookup_hit hK x.id (j := E1.length) (x := x) (by simp) rfl fun k y hk hy => by
    rw [List.getElem?_append_left hk] at hy
    exact hn y (List.mem_of_getElem? hy)
theorem run_delete_at (ty : TypeId) (hK : w.heap[K]? = some (mapObj (E1 ++ x :: E2) clock)) (hn : ∀ y ∈ E1, y.id ≠ x.id) :
    (Builtin.delete_ #[64, 3] ty #[.map (some K), .int .i64 x.id]).run Tryd.prog w = .ok (.tuple #[]) (setBlock w K (mapObj (E1 ++ E2) clock)) := by
  have h := run_delete_hit ty hK x.id (j := E1.length) (x := x) (by simp) rfl fun k y hk hy => by
    rw [List.getElem?_append_left hk] at hy
    exact hn y (List.mem_of_getElem? hy)
  have e : (E1 ++ x :: E2).eraseIdx E1.length = E1 ++ E2 := by
    rw [List.eraseIdx_append_of_length_le (Nat.le_refl _)]
    simp
  rw [e] at h
  exact h
theorem wpList_delete_at {ops : Array Oper} {rest : List Oper} {o : Oper} {a : Act} {Q : Exit → Act → World → Prop} (hgd : o.guard = none) (m k : Operand)
    (ho : o.op = .call { callee := .builtin .delete, args := #[m, k], argTypes := #[64, 3] }) (hm : a.eval m = .map (some K)) {id : Int} (hk : a.eval k = .int .i64 id) (hid : id = x.id) (hK : w.heap[K]? = some (mapObj (E1 ++ x :: E2) clock)) (hn : ∀ y ∈ E1, y.id ≠ x.id)
    (h : ∀ w', w' = setBlock w K (mapObj (E1 ++ E2) clock) → wpList Tryd.prog ops Q rest (a.put o.dst (.tuple #[])) w') : wpList Tryd.prog ops Q (o :: rest) a w := by
  subst hid
  refine wpList_plain hgd fun _ hKK => ?_
  have hr := run_delete_at o.type hK hn
  unfold Oper.wp execOp
  simp only [ho, resolve, invoke, builtin, Sem.run_bind, Sem.run_pure, Result.andThen_ok, List.map_toArray, List.map_cons, List.map_nil, hm, hk, hr]
  exact hKK _ _ (h _ rfl)
end

def EndPost (w : World) (M R T : Nat) (v : Value) (L : List RegL) (size : Int) (rv : Value) (Q : List RecL) (clock : Nat) (id : Int) (st : Nat) (e : Ending) (w' : World) : Prop :=
  ∃ L' Q' E', e = .returned (.int .i64 (aEnd (absM L) (Q.map RecL.abs) id st).1) ∧ AllM w' M R T v L' size rv Q' E' clock ∧ absM L' = (aEnd (absM L) (Q.map RecL.abs) id st).2.1 ∧
    Q'.map RecL.abs = (aEnd (absM L) (Q.map RecL.abs) id st).2.2 ∧ L'.length = L.length ∧ Q'.length = Q.length ∧ Upd w w' (fpAll M R T v L rv Q) (fpAll M R T v L' rv Q')

theorem ends_end {w w2 w3 w4 w5 : World} {M R T g off cap i : Nat} {v rv : Value} {L : List RegL} {r : RegL} {size : Int} {Q1 Q2 : List RecL} {q : RecL} {E1 E2 : List Ent} {x : Ent} {clock st : Nat}
    (h : AllM w M R T v L size rv (Q1 ++ q :: Q2) (E1 ++ x :: E2) clock) (hq : q.st = 0) (hst : st ≠ 0) (hi : L[i]? = some r) (hid : q.id = i + 1)
    (he1 : E1.map (fun x => (x.id, x.blk)) = (pend Q1).map (fun q => ((q.id : Int), q.blk))) (he2 : E2.map (fun x => (x.id, x.blk)) = (pend Q2).map (fun q => ((q.id : Int), q.blk)))
    (hc2 : Chg [] (w.setCell ⟨q.blk, 2, none⟩ (.int .i64 st)) w2) (hrow : RowAt w2 5 1 (.slice (some ⟨g, off, none⟩) r.bytes.length cap) r.bytes.length (bytesV r.bytes)) (hg : w.heap.size ≤ g)
    (hw3 : w3 = w2.setCell ⟨q.blk, 3, none⟩ (.slice (some ⟨g, off, none⟩) r.bytes.length cap))
    (hw4 : w4 = setBlock w3 T (mapObj (E1 ++ E2) clock)) (hm5 : MemM w5 M v (L.set i { r with dead := true })) (hc5 : Chg [r.blk] w4 w5) :
    AllM w5 M R T v (L.set i { r with dead := true }) size rv (Q1 ++ { q with st := st, bb := g, bo := off, cap := cap, bytes := r.bytes } :: Q2) (E1 ++ E2) clock ∧
      Upd w w5 (fpAll M R T v L rv (Q1 ++ q :: Q2)) (fpAll M R T v (L.set i { r with dead := true }) rv (Q1 ++ { q with st := st, bb := g, bo := off, cap := cap, bytes := r.bytes } :: Q2)) := by
  obtain ⟨_, r', hi', hlen⟩ := h.tie q (by simp) hq
  rw [show q.id - 1 = i by omega, hi] at hi'
  obtain rfl : r = r' := by simpa using hi'
  have hqm : q ∈ Q1 ++ q :: Q2 := by simp
  obtain ⟨hqb, _⟩ := h.ring.recs q hqm
  have hrl := (h.mem.reg r (List.mem_of_getElem? hi)).1
  -- what has turned: the record, the table, the region
  have c1 : Chg [q.blk] w (w.setCell ⟨q.blk, 2, none⟩ (.int .i64 st)) := (Chg.refl [q.blk] w).setCell _ (by simp) _
  have c2 : Chg [q.blk] w w2 := c1.trans hc2 (by simp)
  have c3 : Chg [q.blk] w w3 := by rw [hw3]; exact c2.setCell _ (by simp) _
  have hTq : T ≠ q.blk := map_no_cells h.ring.tab hqb
  have hT3 := c3.keep h.ring.tab (by simpa using hTq)
  have c4 : Chg [q.blk, T] w w4 := by
    rw [hw4]
    exact (c3.mono (T := [q.blk, T]) (by simp)).trans (setBlock_chg hT3) (by simp)
  have c5 : Chg [q.blk, T, r.blk] w w5 := (c4.mono (T := [q.blk, T, r.blk]) (by grind)).trans hc5 (by simp)
  have hrq : r.blk ≠ q.blk := blk_ne hrl hqb (by decide)
  have hrT : T ≠ r.blk := map_no_cells h.ring.tab hrl
  have hgl2 := hrow.lt g rfl
  -- the record behind it
  have hq1 := heap_setCell_same w q.blk 2 _ 74 (.int .i64 st) hqb
  have hq2 := hc2.keep hq1 (by simp)
  have hq3 := heap_setCell_same w2 q.blk 3 _ 74 (.slice (some ⟨g, off, none⟩) r.bytes.length cap) hq2
  rw [← hw3] at hq3
  have hq4 : w4.heap[q.blk]? = w3.heap[q.blk]? := by rw [hw4]; exact heap_setBlock_other hT3 _ hTq.symm
  have hq5 := hc5.keep (hq4.trans hq3) (by simpa using hrq.symm)
  have hT4 : w4.heap[T]? = some (mapObj (E1 ++ E2) clock) := by rw [hw4]; exact heap_setBlock_same hT3 _
  have hT5 := hc5.keep hT4 (by simpa using hrT)
  have hgq : g ≠ q.blk := by have := lt_of_blk hqb; omega
  have hgT : g ≠ T := by have := lt_of_blk h.ring.tab; omega
  have hgr : g ≠ r.blk := by have := lt_of_blk hrl; omega
  have cr : Chg [q.blk, T, r.blk] w2 w5 := by
    have a3 : Chg [q.blk] w2 w3 := by rw [hw3]; exact (Chg.refl _ w2).setCell _ (by simp) _
    have a4 : Chg [q.blk, T] w2 w4 := by rw [hw4]; exact (a3.mono (T := [q.blk, T]) (by simp)).trans (setBlock_chg hT3) (by simp)
    exact (a4.mono (T := [q.blk, T, r.blk]) (by grind)).trans hc5 (by simp)
  have hrow5 := hrow.chg cr (fun k hk hm => by
    have : k = g := by simpa [Value.ownBlock] using hk.symm
    subst this
    simp at hm
    grind)
  have hnd := h.ring.nd
  rw [List.map_append, List.map_cons] at hnd
  have hoth : ∀ p ∈ Q1 ++ Q2, p.blk ≠ q.blk := by
    intro p hp e
    rw [List.nodup_append] at hnd
    rcases List.mem_append.1 hp with hp | hp
    · exact hnd.2.2 p.blk (List.mem_map.2 ⟨p, hp, rfl⟩) q.blk (by simp) e
    · have := (List.nodup_cons.1 hnd.2.1).1
      exact this (e ▸ List.mem_map.2 ⟨p, hp, rfl⟩)
  have hin : ∀ p ∈ Q1 ++ Q2, p ∈ Q1 ++ q :: Q2 := by
    intro p hp
    rcases List.mem_append.1 hp with hp | hp <;> simp [hp]
  have hbb : (L.set i { r with dead := true }).map (·.bb) = L.map (·.bb) := map_set_same _ hi rfl
  have hblk : (L.set i { r with dead := true }).map (·.blk) = L.map (·.blk) := map_set_same _ hi rfl
  have hbl : (L.set i { r with dead := true }).map (·.bytes) = L.map (·.bytes) := map_set_same _ hi rfl
  have hpend : pend (Q1 ++ { q with st := st, bb := g, bo := off, cap := cap, bytes := r.bytes } :: Q2) = pend Q1 ++ pend Q2 := by simp [pend, hst]
  have hpend0 : pend (Q1 ++ q :: Q2) = pend Q1 ++ q :: pend Q2 := by simp [pend, hq]
  have hdone : doneR (Q1 ++ { q with st := st, bb := g, bo := off, cap := cap, bytes := r.bytes } :: Q2) = doneR Q1 ++ { q with st := st, bb := g, bo := off, cap := cap, bytes := r.bytes } :: doneR Q2 := by simp [doneR, hst]
  have hdone0 : doneR (Q1 ++ q :: Q2) = doneR Q1 ++ doneR Q2 := by simp [doneR, hq]
  have hmemq : ∀ p, p ∈ Q1 ++ { q with st := st, bb := g, bo := off, cap := cap, bytes := r.bytes } :: Q2 → p = { q with st := st, bb := g, bo := off, cap := cap, bytes := r.bytes } ∨ p ∈ Q1 ++ Q2 := by
    intro p hp
    simp only [List.mem_append, List.mem_cons] at hp ⊢
    grind
  have hbblt : ∀ p ∈ Q1 ++ q :: Q2, p.st ≠ 0 → p.bb < w.heap.size := fun p hp hs => ((h.ring.recs p hp).2 hs).lt p.bb (by simp [RecL.bval, hs, Value.ownBlock])
  have hkeep : ∀ p ∈ Q1 ++ Q2, w5.heap[p.blk]? = some p.obj ∧ (p.st ≠ 0 → RowAt w5 5 1 p.bval p.n (bytesV p.bytes)) := by
    intro p hp
    obtain ⟨p1, p2⟩ := h.ring.recs p (hin p hp)
    refine ⟨c5.keep p1 ?_, fun hs => (p2 hs).chg c5 fun k hk hm => ?_⟩
    · simp only [List.mem_cons, List.not_mem_nil, or_false, not_or]
      exact ⟨hoth p hp, (map_no_cells h.ring.tab p1).symm, (blk_ne hrl p1 (by decide)).symm⟩
    · simp only [List.mem_cons, List.not_mem_nil, or_false] at hm
      rcases hm with e | e | e
      · exact own_ne (p2 hs) hqb (by decide) (e ▸ hk)
      · exact map_no_row h.ring.tab (p2 hs) (e ▸ hk)
      · exact own_ne (p2 hs) hrl (by decide) (e ▸ hk)
  refine ⟨⟨hm5, ⟨?_, ?_, ?_, hT5, ?_, ?_, ?_, ?_, ?_, ?_, h.ring.size⟩, ?_, ?_, ?_, ?_, ?_⟩, ?_, ?_⟩
  · have hu : used (Q1 ++ { q with st := st, bb := g, bo := off, cap := cap, bytes := r.bytes } :: Q2) = used (Q1 ++ q :: Q2) := by simp [used]
    rw [hu]
    refine c5.keep h.ring.root ?_
    simp only [List.mem_cons, List.not_mem_nil, or_false, not_or]
    exact ⟨blk_ne h.ring.root hqb (by decide), (map_no_cells h.ring.tab h.ring.root).symm, blk_ne h.ring.root hrl (by decide)⟩
  · have := h.ring.row.chg c5 (fun k hk hm => by
      simp only [List.mem_cons, List.not_mem_nil, or_false] at hm
      rcases hm with e | e | e
      · exact own_ne h.ring.row hqb (by decide) (e ▸ hk)
      · exact map_no_row h.ring.tab h.ring.row (e ▸ hk)
      · exact own_ne h.ring.row hrl (by decide) (e ▸ hk))
    simpa using this
  · intro p hp
    rcases hmemq p hp with rfl | hp
    · refine ⟨?_, fun _ => ?_⟩
      · simpa [RecL.obj, RecL.bval, hst, hlen] using hq5
      · simpa [RecL.bval, hst, hlen] using hrow5
    · exact hkeep p hp
  · rw [hpend, List.map_append, List.map_append, he1, he2]
  · intro y hy
    exact h.ring.born y (by simp only [List.mem_append, List.mem_cons] at hy ⊢; grind)
  · rw [List.map_append, List.map_cons]; exact hnd
  · have := h.ring.ids
    rw [hpend0, List.map_append, List.map_cons] at this
    rw [hpend, List.map_append]
    exact this.sublist (List.Sublist.append_left (List.sublist_cons_self _ _) _)
  · intro p hp
    rcases hmemq p hp with rfl | hp
    · exact h.ring.pos q hqm
    · exact h.ring.pos p (hin p hp)
  · have hu : used (Q1 ++ { q with st := st, bb := g, bo := off, cap := cap, bytes := r.bytes } :: Q2) = used (Q1 ++ q :: Q2) := by simp [used]
    rw [hu]; exact h.ring.le
  · intro p hp hs
    rcases hmemq p hp with rfl | hp
    · exact absurd hs hst
    · obtain ⟨p1, r1, p2, p3⟩ := h.tie p (hin p hp) hs
      refine ⟨p1, ?_⟩
      have : (L.map (·.bytes))[p.id - 1]? = some r1.bytes := by simp [p2]
      rw [← hbl] at this
      rw [List.getElem?_map] at this
      obtain ⟨r2, p4, p5⟩ := Option.map_eq_some_iff.1 this
      exact ⟨r2, p4, by rw [p5]; exact p3⟩
  · intro p hp hs
    rw [hbb]
    rcases hmemq p hp with rfl | hp
    · intro hm
      obtain ⟨r1, hr1, e⟩ := List.mem_map.1 hm
      have := (h.mem.reg r1 hr1).2.1.lt r1.bb rfl
      simp at e
      omega
    · exact h.sep p (hin p hp) hs
  · have := h.ndd
    rw [hdone0, List.map_append, List.nodup_append] at this
    rw [hdone, List.map_append, List.map_cons, List.nodup_append, List.nodup_cons]
    have hlt1 : ∀ p ∈ doneR Q1, p.bb < w.heap.size := fun p hp => hbblt p (by have := (List.mem_filter.1 hp).1; simp [this]) (by simpa using (List.mem_filter.1 hp).2)
    have hlt2 : ∀ p ∈ doneR Q2, p.bb < w.heap.size := fun p hp => hbblt p (by have := (List.mem_filter.1 hp).1; simp [this]) (by simpa using (List.mem_filter.1 hp).2)
    refine ⟨this.1, ⟨?_, this.2.1⟩, ?_⟩
    · intro hm
      obtain ⟨p, hp, e⟩ := List.mem_map.1 hm
      have := hlt2 p hp
      simp at e
      omega
    · intro a ha b hb
      rcases List.mem_cons.1 hb with rfl | hb
      · obtain ⟨p, hp, rfl⟩ := List.mem_map.1 ha
        have := hlt1 p hp
        simp
        omega
      · exact this.2.2 a ha b hb
  · intro r1 hr1
    have : r1.bytes ∈ (L.set i { r with dead := true }).map (·.bytes) := List.mem_map.2 ⟨r1, hr1, rfl⟩
    rw [hbl] at this
    obtain ⟨r2, hr2, e⟩ := List.mem_map.1 this
    rw [← e]; exact h.lens r2 hr2
  · intro p hp
    rw [List.length_set]
    rcases hmemq p hp with rfl | hp
    · exact h.idle q hqm
    · exact h.idle p (hin p hp)
  · refine c5.mono fun y hy => .inl ?_
    simp only [List.mem_cons, List.not_mem_nil, or_false] at hy
    simp only [fpAll, fpM, fpRing, fpQ, List.mem_append, List.mem_cons, List.mem_map]
    rcases hy with rfl | rfl | rfl
    · exact .inr (.inr (.inr (.inr (.inl ⟨q, .inr (.inl rfl), rfl⟩))))
    · exact .inr (.inr (.inl rfl))
    · exact .inl (.inr (.inr (.inl ⟨r, List.mem_of_getElem? hi, rfl⟩)))
  · intro y hy
    simp only [fpAll, fpM, fpRing, fpQ, hbb, hblk, hdone, hdone0, List.map_append, List.map_cons, List.mem_append, List.mem_cons] at hy ⊢
    rcases hy with hy | hy | hy | hy | hy | hy | hy | hy
    · exact .inl (.inl hy)
    · exact .inl (.inr (.inl hy))
    · exact .inl (.inr (.inr (.inl hy)))
    · exact .inl (.inr (.inr (.inr (.inl hy))))
    · exact .inl (.inr (.inr (.inr (.inr (.inl hy)))))
    · exact .inl (.inr (.inr (.inr (.inr (.inr (.inl hy))))))
    · exact .inr (by omega)
    · exact .inl (.inr (.inr (.inr (.inr (.inr (.inr hy))))))
end Go.Proofs.YtliikmmcbbmppaaDoor
