/- Submit, Discard, Output of the program's ring. -/
import Derived.Test.YtliikmmcbbmppaaDoorEnd2
namespace Go.Proofs.YtliikmmcbbmppaaDoor
open Go.RowKit Go.ChangeMaps

theorem split_first {α : Type} (p : α → Bool) : ∀ l : List α, (∀ x ∈ l, p x = false) ∨ ∃ l1 y l2, l = l1 ++ y :: l2 ∧ p y = true ∧ ∀ x ∈ l1, p x = false
  | [] => .inl (by simp)
  | a :: l => by
    by_cases h : p a = true
    · exact .inr ⟨[], a, l, rfl, h, by simp⟩
    · rcases split_first p l with h1 | ⟨l1, y, l2, rfl, h2, h3⟩
      · exact .inl fun x hx => by rcases List.mem_cons.1 hx with rfl | hx; simpa using h; exact h1 x hx
      · exact .inr ⟨a :: l1, y, l2, rfl, h2, fun x hx => by rcases List.mem_cons.1 hx with rfl | hx; simpa using h; exact h3 x hx⟩

theorem abs_kill : ∀ {L : List RegL} {i : Nat} {r : RegL}, L[i]? = some r → absM (L.set i { r with dead := true }) = amKill (absM L) i
  | [], _, _, h => by simp at h
  | a :: L, 0, r, h => by
    simp at h
    subst h
    simp [absM, amKill]
  | a :: L, i + 1, r, h => by
    have := abs_kill (L := L) (i := i) (r := r) (by simpa using h)
    simp only [absM, amKill, List.set_cons_succ, List.map_cons, List.modify_succ_cons] at this ⊢
    rw [this]

theorem ends_any {w : World} {M R T : Nat} {v rv : Value} {L : List RegL} {size : Int} {Q : List RecL} {E : List Ent} {clock : Nat} (h : AllM w M R T v L size rv Q E clock) (id : Int) (st : Nat) (hst : st ≠ 0) :
    Calls Tryd.prog 35 #[.pointer (some ⟨R, 0, none⟩), .int .i64 id, .int .i64 (st : Nat)] w (EndPost w M R T v L size rv Q clock id st) := by
  rcases split_first (fun q : RecL => decide ((q.id : Int) = id) && q.st == 0) Q with hno | ⟨Q1, q, Q2, rfl, hy, hno⟩
  · have hE : ∀ x ∈ E, x.id ≠ id := by
      intro x hx e
      have : (x.id, x.blk) ∈ E.map (fun x => (x.id, x.blk)) := List.mem_map.2 ⟨x, hx, rfl⟩
      rw [h.ring.ent] at this
      obtain ⟨q, hq, he⟩ := List.mem_map.1 this
      obtain ⟨hq1, hq2⟩ := List.mem_filter.1 hq
      have := hno q hq1
      simp at he hq2 this
      exact this (by omega) hq2
    refine (ends_miss R T id st w (by rw [cell_of_row w R 4 _ _ _ h.ring.root]; rfl) (run_lookup_miss h.ring.tab id hE)).mono ?_
    rintro e w' ⟨rfl, rfl⟩
    have ea : aEnd (absM L) (Q.map RecL.abs) id st = (101, absM L, Q.map RecL.abs) := aEnd_none _ _ _ _ (by
      intro r hr
      obtain ⟨q, hq, rfl⟩ := List.mem_map.1 hr
      have := hno q hq
      simpa [RecL.abs] using this)
    rw [EndPost, ea]
    exact ⟨L, Q, E, rfl, h, rfl, rfl, rfl, rfl, Upd.refl _ _⟩
  · simp at hy
    obtain ⟨hid, hq⟩ := hy
    obtain ⟨hq1, r, hr, hlen⟩ := h.tie q (by simp) hq
    obtain ⟨i, hi⟩ : ∃ i, q.id = i + 1 := ⟨q.id - 1, by omega⟩
    rw [show q.id - 1 = i by omega] at hr
    obtain ⟨E1, x, E2, rfl, hx1, hx2, he1, he2, hn⟩ := ring_split h.ring hq
    subst hid
    have hq0 : (q.id : Int) = (i : Int) + 1 := by omega
    have hgo := ends_hit (st := st) h hq hr hi (by omega) hx2 (fun y hy => by rw [hx1]; exact hn y hy)
    rw [← hq0] at hgo
    refine hgo.mono ?_
    rintro e w' ⟨w2, w3, w4, g, off, cap, rfl, k1, k2, k3, k4, k5, k6, k7⟩
    obtain ⟨hA, hU⟩ := ends_end h hq hst hr hi he1 he2 k1 k2 k3 k4 k5 k6 k7
    have ea := aEnd_some (absM L) (Q1.map RecL.abs) (Q2.map RecL.abs) q.abs st (by
      intro r hr
      obtain ⟨p, hp, rfl⟩ := List.mem_map.1 hr
      have := hno p hp
      simpa [RecL.abs] using this) (by simpa [RecL.abs] using hq)
    rw [show List.map RecL.abs Q1 ++ q.abs :: List.map RecL.abs Q2 = (Q1 ++ q :: Q2).map RecL.abs by simp, show (q.abs.id : Int) = (q.id : Int) from rfl] at ea
    rw [EndPost, ea]
    refine ⟨_, _, _, rfl, hA, ?_, ?_, by simp, by simp, hU⟩
    · have : ((q.id : Int) - 1).toNat = i := by omega
      rw [this]
      exact abs_kill hr
    · have : ((q.id : Int) - 1).toNat = i := by omega
      rw [this]
      simp [RecL.abs, hst, absM, hr]

set_option maxHeartbeats 400000 in
theorem submit_any {w : World} {M R T : Nat} {v rv : Value} {L : List RegL} {size : Int} {Q : List RecL} {E : List Ent} {clock : Nat} (h : AllM w M R T v L size rv Q E clock) (id : Int) :
    Calls Tryd.prog 12 #[.pointer (some ⟨R, 0, none⟩), .int .i64 id] w (EndPost w M R T v L size rv Q clock id 1) := by
  have hh := hide (ends_any h id 1 (by decide))
  clear h
  go_enter Tryd.func12, Tryd.ntmps12
  go_wp2_with (first | (go_at_call 35; refine (by exact hh.out : Calls Tryd.prog 35 _ _ _).mono ?_; rintro e w' hp; have HP := hide hp; obtain ⟨L', Q', E', rfl, _⟩ := hp))
  go_ret
  exact HP.out
set_option maxHeartbeats 400000 in
theorem discard_any {w : World} {M R T : Nat} {v rv : Value} {L : List RegL} {size : Int} {Q : List RecL} {E : List Ent} {clock : Nat} (h : AllM w M R T v L size rv Q E clock) (id : Int) :
    Calls Tryd.prog 14 #[.pointer (some ⟨R, 0, none⟩), .int .i64 id] w (EndPost w M R T v L size rv Q clock id 2) := by
  have hh := hide (ends_any h id 2 (by decide))
  clear h
  go_enter Tryd.func14, Tryd.ntmps14
  go_wp2_with (first | (go_at_call 35; refine (by exact hh.out : Calls Tryd.prog 35 _ _ _).mono ?_; rintro e w' hp; have HP := hide hp; obtain ⟨L', Q', E', rfl, _⟩ := hp))
  go_ret
  exact HP.out
end Go.Proofs.YtliikmmcbbmppaaDoor
