/- How the program's memory of regions (MemM) and the reference's (MemR) lie on the model's heap, block by block, and what keeps them. -/
import Derived.Test.YtliikmmcbbmppaaDoorBase
import Derived.Test.YtliikmmcbbmppaaDoorTk
namespace Go.Proofs.YtliikmmcbbmppaaDoor
open Go.RowKit

theorem own_ne {w : World} {e e' size : Nat} {v : Value} {n : Nat} {xs : List Value} {M : Nat} {cs : Array Value} {fr : Nat × Nat} (h : RowAt w e size v n xs) (hM : w.heap[M]? = some (.cells cs e' fr)) (hne : e ≠ e') : v.ownBlock ≠ some M := by
  intro hv
  rcases h.2 with ⟨rfl, _⟩ | ⟨g, off, cap, cur, rfl, hg, _⟩
  · cases hv
  · simp [Value.ownBlock] at hv
    subst hv
    rw [hg] at hM
    simp at hM
    exact hne hM.2.1

theorem blk_ne {w : World} {a b : Nat} {c c' : Array Value} {e e' : Nat} {fr fr' : Nat × Nat} (ha : w.heap[a]? = some (.cells c e fr)) (hb : w.heap[b]? = some (.cells c' e' fr')) (hne : e ≠ e') : a ≠ b := by
  intro h
  subst h
  rw [ha] at hb
  simp at hb
  exact hne hb.2.1

def bytesV (zs : List Int) : List Value := zs.map (Value.int .u8)
theorem bytesV_len (zs : List Int) : (bytesV zs).length = zs.length := by simp [bytesV]

/-- A region of the program's memory. -/
structure RegL where
  blk : Nat
  dead : Bool
  bb : Nat
  bo : Nat
  cap : Nat
  bytes : List Int
def RegL.bv (r : RegL) : Value := .slice (some ⟨r.bb, r.bo, none⟩) r.bytes.length r.cap
def RegL.obj (r : RegL) : Obj := .cells #[.bool r.dead, r.bv, .bool true, .int .i64 0] 87

structure MemM (w : World) (M : Nat) (v : Value) (L : List RegL) : Prop where
  root : w.heap[M]? = some (.cells #[v] 60 (0, 0))
  row : RowAt w 82 1 v L.length (L.map fun r => Value.iface 79 (.pointer (some ⟨r.blk, 0, none⟩)))
  reg : ∀ r ∈ L, w.heap[r.blk]? = some r.obj ∧ RowAt w 5 1 r.bv r.bytes.length (bytesV r.bytes) ∧ 0 < r.bytes.length
  nd : (L.map (·.blk)).Nodup
  ndb : (L.map (·.bb)).Nodup

def fpM (M : Nat) (v : Value) (L : List RegL) : List Nat := M :: (v.ownBlock.toList ++ (L.map (·.blk) ++ L.map (·.bb)))

theorem mem_own {v : Value} {g : Nat} (h : v.ownBlock = some g) : g ∈ v.ownBlock.toList := by rw [Option.mem_toList]; exact h

theorem MemM.chg {w w' : World} {M : Nat} {v : Value} {L : List RegL} {S : List Nat} (h : MemM w M v L) (hc : Chg S w w') (hd : ∀ x ∈ fpM M v L, x ∉ S) : MemM w' M v L where
  root := hc.keep h.root (hd M (by simp [fpM]))
  row := h.row.chg hc fun g hg => hd g (by simp [fpM, hg])
  reg := fun r hr => by
    obtain ⟨h1, h2, h3⟩ := h.reg r hr
    refine ⟨hc.keep h1 (hd _ (by simp only [fpM, List.mem_cons, List.mem_append, List.mem_map]; exact .inr (.inr (.inl ⟨r, hr, rfl⟩)))), h2.chg hc fun g hg => ?_, h3⟩
    have : g = r.bb := by simpa [RegL.bv, Value.ownBlock] using hg.symm
    subst this
    exact hd _ (by simp only [fpM, List.mem_cons, List.mem_append, List.mem_map]; exact .inr (.inr (.inr ⟨r, hr, rfl⟩)))
  nd := h.nd
  ndb := h.ndb

theorem MemM.lt {w : World} {M : Nat} {v : Value} {L : List RegL} (h : MemM w M v L) : ∀ x ∈ fpM M v L, x < w.heap.size := by
  intro x hx
  simp only [fpM, List.mem_cons, List.mem_append, List.mem_map, Option.mem_toList] at hx
  rcases hx with rfl | hx | ⟨r, hr, rfl⟩ | ⟨r, hr, rfl⟩
  · exact lt_of_blk h.root
  · exact h.row.lt _ hx
  · exact lt_of_blk (h.reg r hr).1
  · exact (h.reg r hr).2.1.lt _ rfl

/-- One region more. -/
theorem MemM.snoc {w w' : World} {M : Nat} {v v' : Value} {L : List RegL} {r : RegL} (h : MemM w M v L)
    (hc : Chg (M :: v.ownBlock.toList) w w')
    (hroot : w'.heap[M]? = some (.cells #[v'] 60 (0, 0)))
    (hrow : RowAt w' 82 1 v' (L.length + 1) ((L.map fun r => Value.iface 79 (.pointer (some ⟨r.blk, 0, none⟩))) ++ [.iface 79 (.pointer (some ⟨r.blk, 0, none⟩))]))
    (hr : w'.heap[r.blk]? = some r.obj) (hrb : RowAt w' 5 1 r.bv r.bytes.length (bytesV r.bytes)) (hpos : 0 < r.bytes.length)
    (hnew : w.heap.size ≤ r.blk) (hnewb : w.heap.size ≤ r.bb) : MemM w' M v' (L ++ [r]) where
  root := hroot
  row := by simpa using hrow
  reg := fun q hq => by
    rcases List.mem_append.1 hq with hq | hq
    · obtain ⟨h1, h2, h3⟩ := h.reg q hq
      have hn1 : q.blk ∉ M :: v.ownBlock.toList := by
        have a1 := blk_ne h1 h.root (by decide)
        have a2 := own_ne h.row h1 (by decide)
        intro hm
        rcases List.mem_cons.1 hm with e | e
        · exact a1 e
        · exact a2 (by rwa [Option.mem_toList] at e)
      refine ⟨hc.keep h1 hn1, h2.chg hc fun g hg hm => ?_, h3⟩
      rcases List.mem_cons.1 hm with e | e
      · exact own_ne h2 h.root (by decide) (e ▸ hg)
      · rw [Option.mem_toList] at e
        rcases h.row.2 with ⟨rfl, _⟩ | ⟨g', off, cap, cur, rfl, hg', _⟩
        · cases e
        · have : g = g' := by simpa [Value.ownBlock] using e.symm
          subst this
          exact own_ne h2 hg' (by decide) hg
    · obtain rfl : q = r := by simpa using hq
      exact ⟨hr, hrb, hpos⟩
  nd := by
    rw [List.map_append, List.nodup_append]
    refine ⟨h.nd, by simp, fun a ha b hb e => ?_⟩
    obtain ⟨q, hq, rfl⟩ := List.mem_map.1 ha
    obtain rfl : b = r.blk := by simpa using hb
    have := lt_of_blk (h.reg q hq).1
    omega
  ndb := by
    rw [List.map_append, List.nodup_append]
    refine ⟨h.ndb, by simp, fun a ha b hb e => ?_⟩
    obtain ⟨q, hq, rfl⟩ := List.mem_map.1 ha
    obtain rfl : b = r.bb := by simpa using hb
    have := (h.reg q hq).2.1.lt q.bb rfl
    omega

theorem map_set_same {α β : Type} (f : α → β) {l : List α} {i : Nat} {r r' : α} (hi : l[i]? = some r) (hf : f r' = f r) : (l.set i r').map f = l.map f := by
  obtain ⟨hlt, hr⟩ := List.getElem?_eq_some_iff.1 hi
  rw [List.map_set, hf, ← hr]
  apply List.ext_getElem?
  intro j
  rw [List.getElem?_set]
  split
  · rename_i hij; subst hij; simp [hlt]
  · rfl
theorem nodup_inj {α : Type} {xs : List α} {i j : Nat} (hi : i < xs.length) (hn : xs.Nodup) (h : xs[i]? = xs[j]?) : i = j := (List.getElem?_inj hi hn).1 h

/-- One region turned. -/
theorem MemM.upd {w w' : World} {M : Nat} {v : Value} {L : List RegL} {S : List Nat} {i : Nat} {r r' : RegL} (h : MemM w M v L) (hi : L[i]? = some r) (hb : r'.blk = r.blk) (hbb : r'.bb = r.bb)
    (hc : Chg S w w') (hS : ∀ x ∈ S, x = r.blk ∨ x = r.bb) (hr : w'.heap[r'.blk]? = some r'.obj) (hrb : RowAt w' 5 1 r'.bv r'.bytes.length (bytesV r'.bytes)) (hpos : 0 < r'.bytes.length) :
    MemM w' M v (L.set i r') := by
  have hlt : i < L.length := (List.getElem?_eq_some_iff.1 hi).1
  have hmem : r ∈ L := List.mem_of_getElem? hi
  have hrr := h.reg r hmem
  have key : ∀ (f : RegL → Nat), f r' = f r → (L.set i r').map f = L.map f := fun f hf => map_set_same f hi hf
  refine ⟨hc.keep h.root (fun hm => ?_), ?_, fun q hq => ?_, by rw [key (·.blk) hb]; exact h.nd, by rw [key (·.bb) hbb]; exact h.ndb⟩
  · rcases hS _ hm with e | e
    · exact blk_ne h.root hrr.1 (by decide) e
    · exact own_ne hrr.2.1 h.root (by decide) (by simp [RegL.bv, Value.ownBlock, e])
  · have := h.row.chg hc (fun g hg hm => by
      rcases hS _ hm with e | e
      · exact own_ne h.row hrr.1 (by decide) (e ▸ hg)
      · rcases h.row.2 with ⟨rfl, _⟩ | ⟨g', off, cap, cur, rfl, hg', _⟩
        · cases hg
        · have : g' = g := by simpa [Value.ownBlock] using hg
          subst this
          exact own_ne hrr.2.1 hg' (by decide) (by simp [RegL.bv, Value.ownBlock, e]))
    have e1 : (L.set i r').map (fun r => Value.iface 79 (.pointer (some ⟨r.blk, 0, none⟩))) = L.map fun r => Value.iface 79 (.pointer (some ⟨r.blk, 0, none⟩)) := map_set_same _ hi (by rw [hb])
    rw [e1]
    simpa using this
  · obtain ⟨j, hj⟩ := List.getElem?_of_mem hq
    rw [List.getElem?_set] at hj
    split at hj
    · rename_i hij
      subst hij
      have : q = r' := by simpa [hlt] using hj.symm
      subst this
      exact ⟨hr, hrb, hpos⟩
    · rename_i hij
      have hqm := List.mem_of_getElem? hj
      obtain ⟨h1, h2, h3⟩ := h.reg q hqm
      have hjl : j < L.length := (List.getElem?_eq_some_iff.1 hj).1
      have d1 : q.blk ≠ r.blk := fun e => hij (by
        have := (nodup_inj (xs := L.map (·.blk)) (i := i) (j := j) (by simpa using hlt) h.nd (by simp [hi, hj, e]))
        exact this)
      have d2 : q.bb ≠ r.bb := fun e => hij (by
        have := (nodup_inj (xs := L.map (·.bb)) (i := i) (j := j) (by simpa using hlt) h.ndb (by simp [hi, hj, e]))
        exact this)
      refine ⟨hc.keep h1 (fun hm => ?_), h2.chg hc (fun g hg hm => ?_), h3⟩
      · rcases hS _ hm with e | e
        · exact d1 e
        · exact own_ne hrr.2.1 h1 (by decide) (by simp [RegL.bv, Value.ownBlock, e])
      · have : q.bb = g := by simpa [RegL.bv, Value.ownBlock] using hg
        subst this
        rcases hS _ hm with e | e
        · exact own_ne h2 hrr.1 (by decide) (by simp [RegL.bv, Value.ownBlock, e])
        · exact d2 e

/-! What a memory is, told without a heap: of each region whether it lives, and its bytes. -/
abbrev AM := List (Bool × List Int)
def amLive (A : AM) (id : Int) : Bool := if 1 ≤ id then (A[(id - 1).toNat]?.map (·.1)).getD false else false
def amSet (A : AM) (id : Int) (zs : List Int) : Bool × AM :=
  if 1 ≤ id then
    match A[(id - 1).toNat]? with
    | some r => if zs.length ≤ r.2.length then (true, A.set (id - 1).toNat (r.1, zs ++ r.2.drop zs.length)) else (false, A)
    | none => (false, A)
  else (false, A)
def amKill (A : AM) (i : Nat) : AM := A.modify i fun r => (false, r.2)
def absM (L : List RegL) : AM := L.map fun r => (!r.dead, r.bytes)

/-- What a step turns: blocks of F alone; and where the new footprint lies. -/
def Upd (w w' : World) (F F' : List Nat) : Prop := Chg F w w' ∧ ∀ x ∈ F', x ∈ F ∨ w.heap.size ≤ x
theorem Upd.refl (w : World) (F : List Nat) : Upd w w F F := ⟨Chg.refl _ _, fun _ h => .inl h⟩

/-- A source of bytes: cells behind an address, or nothing. -/
structure Src (w : World) (sp : Option Addr) (m : Nat) (zs : List Int) : Prop where
  len : zs.length = m
  cell : ∀ ad, sp = some ad → ∀ j u, (bytesV zs)[j]? = some u → w.cell? (ad.add j) = some u
  none : sp = none → m = 0
end Go.Proofs.YtliikmmcbbmppaaDoor
