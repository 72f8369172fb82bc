/- What a ring is, told without a heap (ARec, aReserve, aEnd, aRead), and how the program's ring lies on the model's heap (RingM). -/
import Derived.Test.YtliikmmcbbmppaaDoorMap
namespace Go.Proofs.YtliikmmcbbmppaaDoor
open Go.RowKit Go.ChangeMaps

/-- A record, told without a heap. -/
structure ARec where
  id : Nat
  n : Nat
  st : Nat
  bytes : List Int
def takes (n : Nat) : Nat := 8 + (n + 7) / 8 * 8
def aused (q : List ARec) : Nat := (q.map fun r => takes r.n).sum
def apend (q : List ARec) : List Int := (q.filter fun r => r.st == 0).map fun r => (r.id : Int)
def aReserve (size : Int) (A : AM) (q : List ARec) (n : Int) : (Int × Int) × AM × List ARec :=
  if n < 1 ∨ 4096 < n then ((0, 100), A, q)
  else if size < (aused q : Int) + takes n.toNat then ((0, 102), A, q)
  else (((A.length : Int) + 1, 0), A ++ [(true, List.replicate n.toNat 0)], q ++ [⟨A.length + 1, n.toNat, 0, []⟩])
def aEnd (A : AM) (q : List ARec) (id : Int) (st : Nat) : Int × AM × List ARec :=
  match q.findIdx? (fun r => decide ((r.id : Int) = id) && r.st == 0) with
  | none => (101, A, q)
  | some j => (0, amKill A (id - 1).toNat, q.modify j fun r => { r with st := st, bytes := (A[(id - 1).toNat]?.map (·.2)).getD [] })
def aOutput (size : Int) (A : AM) (q : List ARec) (zs : List Int) : Int × AM × List ARec :=
  let s := aReserve size A q zs.length
  if s.1.2 ≠ 0 then (s.1.2, s.2) else aEnd (amSet s.2.1 s.1.1 zs).2 s.2.2 s.1.1 1
def aRead : List ARec → List (List Int) × List ARec
  | [] => ([], [])
  | r :: q => if r.st = 0 then ([], r :: q) else ((if r.st = 1 then [r.bytes] else []) ++ (aRead q).1, (aRead q).2)

/-- A record of a ring, as it lies. -/
structure RecL where
  blk : Nat
  id : Nat
  n : Nat
  st : Nat
  bb : Nat
  bo : Nat
  cap : Nat
  bytes : List Int
def RecL.bval (q : RecL) : Value := if q.st = 0 then .slice none 0 0 else .slice (some ⟨q.bb, q.bo, none⟩) q.n q.cap
def RecL.obj (q : RecL) : Obj := .cells #[.int .i64 q.id, .int .i64 q.n, .int .i64 q.st, q.bval] 74
def RecL.abs (q : RecL) : ARec := ⟨q.id, q.n, q.st, if q.st = 0 then [] else q.bytes⟩
def used (Q : List RecL) : Nat := (Q.map fun q => takes q.n).sum
def pend (Q : List RecL) : List RecL := Q.filter fun q => q.st == 0
def doneR (Q : List RecL) : List RecL := Q.filter fun q => q.st != 0

theorem used_abs (Q : List RecL) : aused (Q.map RecL.abs) = used Q := by
  simp [aused, used, List.map_map, Function.comp_def, RecL.abs]
theorem used_append (Q : List RecL) (q : RecL) : used (Q ++ [q]) = used Q + takes q.n := by simp [used]
theorem takes_le (n : Nat) (h : n ≤ 4096) : takes n ≤ 4112 := by unfold takes; omega

structure RingM (w : World) (R K M : Nat) (size : Int) (rv : Value) (Q : List RecL) (E : List Ent) (clock : Nat) : Prop where
  root : w.heap[R]? = some (.cells #[.int .i64 size, .int .i64 (used Q), .pointer (some ⟨M, 0, none⟩), rv, .map (some K)] 67 (0, 0))
  row : RowAt w 71 1 rv Q.length (Q.map fun q => Value.pointer (some ⟨q.blk, 0, none⟩))
  recs : ∀ q ∈ Q, w.heap[q.blk]? = some q.obj ∧ (q.st ≠ 0 → RowAt w 5 1 q.bval q.n (bytesV q.bytes))
  tab : w.heap[K]? = some (mapObj E clock)
  ent : E.map (fun x => (x.id, x.blk)) = (pend Q).map fun q => ((q.id : Int), q.blk)
  born : ∀ x ∈ E, x.born < clock
  nd : (Q.map (·.blk)).Nodup
  ids : ((pend Q).map (·.id)).Nodup
  pos : ∀ q ∈ Q, 1 ≤ q.n ∧ q.n ≤ 4096
  le : (used Q : Int) ≤ size
  size : 8 ≤ size ∧ size ≤ 4096

/-- Which blocks a ring's records hold: where they lie, and what they held when they ended. -/
def fpQ (Q : List RecL) : List Nat := Q.map (·.blk) ++ (doneR Q).map (·.bb)
def fpRing (R K : Nat) (rv : Value) (Q : List RecL) : List Nat := R :: K :: (rv.ownBlock.toList ++ fpQ Q)

theorem map_no_cells {w : World} {K b : Nat} {E : List Ent} {clock : Nat} {c : Array Value} {e : Nat} {fr : Nat × Nat} (hK : w.heap[K]? = some (mapObj E clock)) (hb : w.heap[b]? = some (.cells c e fr)) : K ≠ b := by
  rintro rfl
  rw [hK] at hb
  simp [mapObj] at hb
theorem map_no_row {w : World} {K : Nat} {E : List Ent} {clock : Nat} {e size : Nat} {v : Value} {n : Nat} {xs : List Value} (hK : w.heap[K]? = some (mapObj E clock)) (h : RowAt w e size v n xs) : v.ownBlock ≠ some K := by
  intro hv
  rcases h.2 with ⟨rfl, _⟩ | ⟨g, off, cap, cur, rfl, hg, _⟩
  · cases hv
  · simp [Value.ownBlock] at hv
    subst hv
    exact map_no_cells hK hg rfl

theorem RingM.lt {w : World} {R K M : Nat} {size : Int} {rv : Value} {Q : List RecL} {E : List Ent} {clock : Nat} (h : RingM w R K M size rv Q E clock) : ∀ x ∈ fpRing R K rv Q, x < w.heap.size := by
  intro x hx
  simp only [fpRing, fpQ, List.mem_cons, List.mem_append, List.mem_map, Option.mem_toList] at hx
  rcases hx with rfl | rfl | hx | ⟨q, hq, rfl⟩ | ⟨q, hq, rfl⟩
  · exact lt_of_blk h.root
  · exact lt_of_blk h.tab
  · exact h.row.lt _ hx
  · exact lt_of_blk (h.recs q hq).1
  · obtain ⟨hq, hs⟩ := List.mem_filter.1 hq
    have hs' : q.st ≠ 0 := by simpa using hs
    exact ((h.recs q hq).2 hs').lt _ (by simp [RecL.bval, hs', Value.ownBlock])

theorem RingM.chg {w w' : World} {R K M : Nat} {size : Int} {rv : Value} {Q : List RecL} {E : List Ent} {clock : Nat} {S : List Nat} (h : RingM w R K M size rv Q E clock) (hc : Chg S w w') (hd : ∀ x ∈ fpRing R K rv Q, x ∉ S) :
    RingM w' R K M size rv Q E clock :=
  { h with
    root := hc.keep h.root (hd R (by simp [fpRing]))
    row := h.row.chg hc fun g hg => hd g (by simp [fpRing, hg])
    recs := fun q hq => ⟨hc.keep (h.recs q hq).1 (hd _ (by simp only [fpRing, fpQ, List.mem_cons, List.mem_append, List.mem_map]; exact .inr (.inr (.inr (.inl ⟨q, hq, rfl⟩))))), fun hs => ((h.recs q hq).2 hs).chg hc fun g hg => by
      have : q.bb = g := by simpa [RecL.bval, hs, Value.ownBlock] using hg
      subst this
      exact hd _ (by simp only [fpRing, fpQ, List.mem_cons, List.mem_append, List.mem_map]; exact .inr (.inr (.inr (.inr ⟨q, List.mem_filter.2 ⟨hq, by simpa using hs⟩, rfl⟩))))⟩
    tab := hc.keep h.tab (hd K (by simp [fpRing])) }

set_option maxHeartbeats 400000 in
theorem takes_any (n : Nat) (w : World) (h : n ≤ 4096) : Calls Tryd.prog 31 #[.int .i64 (n : Int)] w fun e w' => e = .returned (.int .i64 (takes n : Nat)) ∧ w = w' := by
  have he : (8 : Int) + ((n : Int) + 8 - 1) / 8 * 8 = (takes n : Nat) := by unfold takes; omega
  go_enter Tryd.func31, Tryd.ntmps31
  go_wp2
  go_ret
  exact ⟨by simp, rfl⟩

set_option maxHeartbeats 400000 in
theorem used_any {w : World} {R K M : Nat} {size : Int} {rv : Value} {Q : List RecL} {E : List Ent} {clock : Nat} (h : RingM w R K M size rv Q E clock) :
    Calls Tryd.prog 24 #[.pointer (some ⟨R, 0, none⟩)] w fun e w' => e = .returned (.int .i64 (used Q : Nat)) ∧ w = w' := by
  have h1 : w.cell? ⟨R, 1, none⟩ = some (.int .i64 (used Q)) := by rw [cell_of_row w R 1 _ _ _ h.root]; rfl
  clear h
  go_enter Tryd.func24, Tryd.ntmps24
  go_wp2
  go_ret
  exact ⟨rfl, rfl⟩
end Go.Proofs.YtliikmmcbbmppaaDoor
