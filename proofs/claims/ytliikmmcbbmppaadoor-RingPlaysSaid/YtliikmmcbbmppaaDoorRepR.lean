/- How the reference's memory (MemR) lies on the model's heap, block by block, and what keeps it. -/
import Derived.Test.YtliikmmcbbmppaaDoorMemM2
namespace Go.Proofs.YtliikmmcbbmppaaDoor
open Go.RowKit

/-- A part of the reference's memory: its block of 390 cells, of which five are looked at. -/
structure PartIs (w : World) (r : RegL) : Prop where
  ex : ∃ cs : Array Value, w.heap[r.blk]? = some (.cells cs 98 (0, 0)) ∧ cs.size = 390 ∧ cs[0]? = some (.bool (!r.dead)) ∧ cs[1]? = some (.bool false) ∧ cs[4]? = some r.bv

theorem PartIs.chg {w w' : World} {r : RegL} {S : List Nat} (h : PartIs w r) (hc : Chg S w w') (hn : r.blk ∉ S) : PartIs w' r := by
  obtain ⟨cs, h1, h2⟩ := h.ex
  exact ⟨cs, hc.keep h1 hn, h2⟩
theorem PartIs.lt {w : World} {r : RegL} (h : PartIs w r) : r.blk < w.heap.size := by
  obtain ⟨cs, h1, _⟩ := h.ex
  exact lt_of_blk h1

theorem PartIs.ne {w : World} {r : RegL} {b : Nat} {c : Array Value} {e : Nat} {fr : Nat × Nat} (h : PartIs w r) (hb : w.heap[b]? = some (.cells c e fr)) (hne : e ≠ 98) : r.blk ≠ b := by
  obtain ⟨cs, h1, _⟩ := h.ex
  exact blk_ne h1 hb (Ne.symm hne)
theorem PartIs.own {w : World} {r : RegL} {e size : Nat} {v : Value} {n : Nat} {xs : List Value} (h : PartIs w r) (hv : RowAt w e size v n xs) (hne : e ≠ 98) : v.ownBlock ≠ some r.blk := by
  obtain ⟨cs, h1, _⟩ := h.ex
  exact own_ne hv h1 hne

structure MemR (w : World) (M : Nat) (v : Value) (L : List RegL) : Prop where
  root : w.heap[M]? = some (.cells #[v] 63 (0, 0))
  row : RowAt w 88 1 v L.length (L.map fun r => Value.pointer (some ⟨r.blk, 0, none⟩))
  reg : ∀ r ∈ L, PartIs w r ∧ RowAt w 5 1 r.bv r.bytes.length (bytesV r.bytes) ∧ 0 < r.bytes.length
  nd : (L.map (·.blk)).Nodup
  ndb : (L.map (·.bb)).Nodup

theorem MemR.chg {w w' : World} {M : Nat} {v : Value} {L : List RegL} {S : List Nat} (h : MemR w M v L) (hc : Chg S w w') (hd : ∀ x ∈ fpM M v L, x ∉ S) : MemR w' M v L where
  root := hc.keep h.root (hd M (by simp [fpM]))
  row := h.row.chg hc fun g hg => hd g (by simp [fpM, hg])
  reg := fun r hr => by
    obtain ⟨h1, h2, h3⟩ := h.reg r hr
    refine ⟨h1.chg hc (hd _ (by simp only [fpM, List.mem_cons, List.mem_append, List.mem_map]; exact .inr (.inr (.inl ⟨r, hr, rfl⟩)))), h2.chg hc fun g hg => ?_, h3⟩
    have : g = r.bb := by simpa [RegL.bv, Value.ownBlock] using hg.symm
    subst this
    exact hd _ (by simp only [fpM, List.mem_cons, List.mem_append, List.mem_map]; exact .inr (.inr (.inr ⟨r, hr, rfl⟩)))
  nd := h.nd
  ndb := h.ndb

theorem MemR.lt {w : World} {M : Nat} {v : Value} {L : List RegL} (h : MemR w M v L) : ∀ x ∈ fpM M v L, x < w.heap.size := by
  intro x hx
  simp only [fpM, List.mem_cons, List.mem_append, List.mem_map, Option.mem_toList] at hx
  rcases hx with rfl | hx | ⟨r, hr, rfl⟩ | ⟨r, hr, rfl⟩
  · exact lt_of_blk h.root
  · exact h.row.lt _ hx
  · exact (h.reg r hr).1.lt
  · exact (h.reg r hr).2.1.lt _ rfl

/-- One region more. -/
theorem MemR.snoc {w w' : World} {M : Nat} {v v' : Value} {L : List RegL} {r : RegL} (h : MemR w M v L)
    (hc : Chg (M :: v.ownBlock.toList) w w')
    (hroot : w'.heap[M]? = some (.cells #[v'] 63 (0, 0)))
    (hrow : RowAt w' 88 1 v' (L.length + 1) ((L.map fun r => Value.pointer (some ⟨r.blk, 0, none⟩)) ++ [.pointer (some ⟨r.blk, 0, none⟩)]))
    (hr : PartIs w' r) (hrb : RowAt w' 5 1 r.bv r.bytes.length (bytesV r.bytes)) (hpos : 0 < r.bytes.length)
    (hnew : w.heap.size ≤ r.blk) (hnewb : w.heap.size ≤ r.bb) : MemR w' M v' (L ++ [r]) where
  root := hroot
  row := by simpa using hrow
  reg := fun q hq => by
    rcases List.mem_append.1 hq with hq | hq
    · obtain ⟨h1, h2, h3⟩ := h.reg q hq
      have hn1 : q.blk ∉ M :: v.ownBlock.toList := by
        have a1 := h1.ne h.root (by decide)
        have a2 := h1.own h.row (by decide)
        intro hm
        rcases List.mem_cons.1 hm with e | e
        · exact a1 e
        · exact a2 (by rwa [Option.mem_toList] at e)
      refine ⟨h1.chg hc hn1, h2.chg hc fun g hg hm => ?_, h3⟩
      rcases List.mem_cons.1 hm with e | e
      · exact own_ne h2 h.root (by decide) (e ▸ hg)
      · rw [Option.mem_toList] at e
        rcases h.row.2 with ⟨rfl, _⟩ | ⟨g', off, cap, cur, rfl, hg', _⟩
        · cases e
        · have : g = g' := by simpa [Value.ownBlock] using e.symm
          subst this
          exact own_ne h2 hg' (by decide) hg
    · obtain rfl : q = r := by simpa using hq
      exact ⟨hr, hrb, hpos⟩
  nd := by
    rw [List.map_append, List.nodup_append]
    refine ⟨h.nd, by simp, fun a ha b hb e => ?_⟩
    obtain ⟨q, hq, rfl⟩ := List.mem_map.1 ha
    obtain rfl : b = r.blk := by simpa using hb
    have := (h.reg q hq).1.lt
    omega
  ndb := by
    rw [List.map_append, List.nodup_append]
    refine ⟨h.ndb, by simp, fun a ha b hb e => ?_⟩
    obtain ⟨q, hq, rfl⟩ := List.mem_map.1 ha
    obtain rfl : b = r.bb := by simpa using hb
    have := (h.reg q hq).2.1.lt q.bb rfl
    omega

/-- One region turned. -/
theorem MemR.upd {w w' : World} {M : Nat} {v : Value} {L : List RegL} {S : List Nat} {i : Nat} {r r' : RegL} (h : MemR w M v L) (hi : L[i]? = some r) (hb : r'.blk = r.blk) (hbb : r'.bb = r.bb)
    (hc : Chg S w w') (hS : ∀ x ∈ S, x = r.blk ∨ x = r.bb) (hr : PartIs w' r') (hrb : RowAt w' 5 1 r'.bv r'.bytes.length (bytesV r'.bytes)) (hpos : 0 < r'.bytes.length) :
    MemR w' M v (L.set i r') := by
  have hlt : i < L.length := (List.getElem?_eq_some_iff.1 hi).1
  have hmem : r ∈ L := List.mem_of_getElem? hi
  have hrr := h.reg r hmem
  have key : ∀ (f : RegL → Nat), f r' = f r → (L.set i r').map f = L.map f := fun f hf => map_set_same f hi hf
  refine ⟨hc.keep h.root (fun hm => ?_), ?_, fun q hq => ?_, by rw [key (·.blk) hb]; exact h.nd, by rw [key (·.bb) hbb]; exact h.ndb⟩
  · rcases hS _ hm with e | e
    · exact (fun e => hrr.1.ne h.root (by decide) e.symm) e
    · exact own_ne hrr.2.1 h.root (by decide) (by simp [RegL.bv, Value.ownBlock, e])
  · have := h.row.chg hc (fun g hg hm => by
      rcases hS _ hm with e | e
      · exact hrr.1.own h.row (by decide) (e ▸ hg)
      · rcases h.row.2 with ⟨rfl, _⟩ | ⟨g', off, cap, cur, rfl, hg', _⟩
        · cases hg
        · have : g' = g := by simpa [Value.ownBlock] using hg
          subst this
          exact own_ne hrr.2.1 hg' (by decide) (by simp [RegL.bv, Value.ownBlock, e]))
    have e1 : (L.set i r').map (fun r => Value.pointer (some ⟨r.blk, 0, none⟩)) = L.map fun r => Value.pointer (some ⟨r.blk, 0, none⟩) := map_set_same _ hi (by rw [hb])
    rw [e1]
    simpa using this
  · obtain ⟨j, hj⟩ := List.getElem?_of_mem hq
    rw [List.getElem?_set] at hj
    split at hj
    · rename_i hij
      subst hij
      have : q = r' := by simpa [hlt] using hj.symm
      subst this
      exact ⟨hr, hrb, hpos⟩
    · rename_i hij
      have hqm := List.mem_of_getElem? hj
      obtain ⟨h1, h2, h3⟩ := h.reg q hqm
      have hjl : j < L.length := (List.getElem?_eq_some_iff.1 hj).1
      have d1 : q.blk ≠ r.blk := fun e => hij (by
        have := (nodup_inj (xs := L.map (·.blk)) (i := i) (j := j) (by simpa using hlt) h.nd (by simp [hi, hj, e]))
        exact this)
      have d2 : q.bb ≠ r.bb := fun e => hij (by
        have := (nodup_inj (xs := L.map (·.bb)) (i := i) (j := j) (by simpa using hlt) h.ndb (by simp [hi, hj, e]))
        exact this)
      refine ⟨h1.chg hc (fun hm => ?_), h2.chg hc (fun g hg hm => ?_), h3⟩
      · rcases hS _ hm with e | e
        · exact d1 e
        · exact h1.own hrr.2.1 (by decide) (by simp [RegL.bv, Value.ownBlock, e])
      · have : q.bb = g := by simpa [RegL.bv, Value.ownBlock] using hg
        subst this
        rcases hS _ hm with e | e
        · exact hrr.1.own h2 (by decide) (by simp [RegL.bv, Value.ownBlock, e])
        · exact d2 e

end Go.Proofs.YtliikmmcbbmppaaDoor
