/- Reserve of the program's ring. -/
import Derived.Test.YtliikmmcbbmppaaDoorRing
import Derived.Deep.OwnRows
namespace Go.Proofs.YtliikmmcbbmppaaDoor
open Go.RowKit Go.ChangeMaps

theorem Tryd.info71 : (Tryd.prog.info? 71).map (fun i => (i.zero, i.size, i.bytes)) = some (some (.pointer none), 1, 8) := by kernel_rfl

/-- The program's memory and its ring. -/
structure AllM (w : World) (M R K : Nat) (v : Value) (L : List RegL) (size : Int) (rv : Value) (Q : List RecL) (E : List Ent) (clock : Nat) : Prop where
  mem : MemM w M v L
  ring : RingM w R K M size rv Q E clock
  tie : ∀ q ∈ Q, q.st = 0 → 1 ≤ q.id ∧ ∃ r, L[q.id - 1]? = some r ∧ r.bytes.length = q.n
  sep : ∀ q ∈ Q, q.st ≠ 0 → q.bb ∉ L.map (·.bb)
  ndd : ((doneR Q).map (·.bb)).Nodup
  lens : ∀ r ∈ L, r.bytes.length ≤ 4096
  idle : ∀ q ∈ Q, q.id ≤ L.length

def fpAll (M R K : Nat) (v : Value) (L : List RegL) (rv : Value) (Q : List RecL) : List Nat := fpM M v L ++ fpRing R K rv Q

set_option maxRecDepth 100000 in
set_option maxHeartbeats 1000000 in
theorem reserve_bad (R : Nat) (n : Int) (w : World) (h : n < 1 ∨ 4096 < n) :
    Calls Tryd.prog 10 #[.pointer (some ⟨R, 0, none⟩), .int .i64 n] w fun e w' => e = .returned (.tuple #[.int .i64 0, .int .i64 100]) ∧ w = w' := by
  by_cases h1 : n < 1
  · go_enter Tryd.func10, Tryd.ntmps10
    go_wp2_with fail
    go_ret2
    exact ⟨rfl, rfl⟩
  · have h2 : 4096 < n := by omega
    go_enter Tryd.func10, Tryd.ntmps10
    go_wp2_with fail
    go_ret2
    exact ⟨rfl, rfl⟩

set_option maxRecDepth 100000 in
set_option maxHeartbeats 1000000 in
theorem reserve_full (R k u : Nat) (size : Int) (w : World) (h1 : 1 ≤ k) (h2 : k ≤ 4096) (hu : u ≤ 4096) (hs : 0 ≤ size ∧ size ≤ 4096) (hc1 : w.cell? ⟨R, 1, none⟩ = some (.int .i64 u)) (hc0 : w.cell? ⟨R, 0, none⟩ = some (.int .i64 size))
    (hfull : size < (u : Int) + (takes k : Nat)) :
    Calls Tryd.prog 10 #[.pointer (some ⟨R, 0, none⟩), .int .i64 (k : Int)] w fun e w' => e = .returned (.tuple #[.int .i64 0, .int .i64 102]) ∧ Chg [] w w' := by
  have ht := takes_le k h2
  have hwr : IntKind.i64.wrap ((u : Int) + (takes k : Nat)) = (u : Int) + (takes k : Nat) := IntWalk.i64_in _ (by omega)
  go_enter Tryd.func10, Tryd.ntmps10
  go_wp2_with fail
  refine wp_region_tk [(0, 0), (1, 0), (2, 0), (3, 1), (4, 0), (7, 0), (8, 0), (9, 0), (10, 1), (5, 2), (6, 0), (11, 0), (12, 0)] 13 (fun w' => w'.cell? ⟨R, 1, none⟩ = some (.int .i64 u) ∧ w'.cell? ⟨R, 0, none⟩ = some (.int .i64 size)) (by kernel_rfl) (by kernel_rfl) (by kernel_rfl) rfl (by intro d v c a w h; cases d <;> exact h) ⟨hc1, hc0⟩ ?_
  simp only [tkList, List.filterMap_cons, List.filterMap_nil, List.getElem?_toArray, List.getElem?_cons_zero, List.getElem?_cons_succ, Option.map_some, guardAt, Option.map_none, Oper.bare]
  apply wpTk_p rfl
  · intro _; first | rfl | (go_simp; rfl)
  (try simp only [Act.put]); (try go_simp)
  apply wpTk_p rfl
  · intro _; first | rfl | (go_simp; rfl)
  (try simp only [Act.put]); (try go_simp)
  apply wpTk_p rfl
  · intro _; first | rfl | (go_simp; rfl)
  (try simp only [Act.put]); (try go_simp)
  apply wpTk_h rfl
  · intro w' hS; (try dsimp only at hS); go_simp; rfl
  (try simp only [Act.put]); (try go_simp)
  apply wpTk_p rfl
  · intro _; first | rfl | (go_simp; rfl)
  (try simp only [Act.put]); (try go_simp)
  apply wpTk_p rfl
  · intro _; first | rfl | (go_simp; rfl)
  (try simp only [Act.put]); (try go_simp)
  apply wpTk_p rfl
  · intro _; first | rfl | (go_simp; rfl)
  (try simp only [Act.put]); (try go_simp)
  apply wpTk_p rfl
  · intro _; first | rfl | (go_simp; rfl)
  (try simp only [Act.put]); (try go_simp)
  apply wpTk_h rfl
  · intro w' hS; (try dsimp only at hS); go_simp; rfl
  (try simp only [Act.put]); (try go_simp)
  apply wpTk_l rfl
  intro K hK
  go_simp; go_at_call 31; refine (takes_any k _ h2).mono ?_; rintro e w' ⟨rfl, rfl⟩
  refine hK _ _ ?_ ?_
  · (exact ⟨hc1, hc0⟩)
  clear hK K
  (try simp only [Act.put]); (try go_simp)
  apply wpTk_p rfl
  · intro _; first | rfl | (go_simp; rfl)
  (try simp only [Act.put]); (try go_simp)
  apply wpTk_p rfl
  · intro _; first | rfl | (go_simp; rfl)
  (try simp only [Act.put]); (try go_simp)
  apply wpTk_p rfl
  · intro _; first | rfl | (go_simp; rfl)
  (try simp only [Act.put]); (try go_simp)
  apply wpTk_nil
  go_wp2_with fail
  go_ret2
  exact ⟨rfl, (Chg.refl [] w).drew⟩
end Go.Proofs.YtliikmmcbbmppaaDoor
