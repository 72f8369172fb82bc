/- Reserve of the program's ring: all of it. -/
import Derived.Test.YtliikmmcbbmppaaDoorRes3
namespace Go.Proofs.YtliikmmcbbmppaaDoor
open Go.RowKit Go.ChangeMaps

theorem AllM.lt {w : World} {M R T : Nat} {v : Value} {L : List RegL} {size : Int} {rv : Value} {Q : List RecL} {E : List Ent} {clock : Nat} (h : AllM w M R T v L size rv Q E clock) : ∀ x ∈ fpAll M R T v L rv Q, x < w.heap.size := by
  intro x hx
  rcases List.mem_append.1 hx with hx | hx
  · exact h.mem.lt x hx
  · exact h.ring.lt x hx
theorem AllM.chg {w w' : World} {M R T : Nat} {v : Value} {L : List RegL} {size : Int} {rv : Value} {Q : List RecL} {E : List Ent} {clock : Nat} {S : List Nat} (h : AllM w M R T v L size rv Q E clock) (hc : Chg S w w')
    (hd : ∀ x ∈ fpAll M R T v L rv Q, x ∉ S) : AllM w' M R T v L size rv Q E clock :=
  { h with mem := h.mem.chg hc fun x hx => hd x (List.mem_append_left _ hx), ring := h.ring.chg hc fun x hx => hd x (List.mem_append_right _ hx) }

theorem reserve_any {w : World} {M R T : Nat} {v rv : Value} {L : List RegL} {size : Int} {Q : List RecL} {E : List Ent} {clock : Nat} (h : AllM w M R T v L size rv Q E clock)
    (hL : L.length ≤ 1000) (hQ : Q.length ≤ 1000) (n : Int) : Calls Tryd.prog 10 #[.pointer (some ⟨R, 0, none⟩), .int .i64 n] w (ResPost w M R T v L size rv Q n) := by
  obtain ⟨hs8, hs4⟩ := h.ring.size
  by_cases hb : n < 1 ∨ 4096 < n
  · refine (reserve_bad R n w hb).mono ?_
    rintro e w' ⟨rfl, rfl⟩
    rw [ResPost, aReserve, if_pos hb]
    exact ⟨v, L, rv, Q, E, clock, rfl, h, rfl, rfl, by omega, by omega, Upd.refl _ _⟩
  · obtain ⟨k, rfl⟩ : ∃ k : Nat, n = (k : Int) := ⟨n.toNat, by omega⟩
    have ea : aused (Q.map RecL.abs) = used Q := used_abs Q
    have hu : used Q ≤ 4096 := by have := h.ring.le; omega
    by_cases hf : size < ((used Q : Nat) : Int) + (takes k : Nat)
    · refine (reserve_full R k (used Q) size w (by omega) (by omega) hu (by omega) (by rw [cell_of_row w R 1 _ _ _ h.ring.root]; rfl) (by rw [cell_of_row w R 0 _ _ _ h.ring.root]; rfl) hf).mono ?_
      rintro e w' ⟨rfl, hc⟩
      rw [ResPost, aReserve, if_neg hb, ea, Int.toNat_natCast, if_pos hf]
      exact ⟨v, L, rv, Q, E, clock, rfl, h.chg hc (by simp), rfl, rfl, by omega, by omega, hc.mono (by simp), fun x hx => .inl hx⟩
    · refine (reserve_ok h (by omega) (by omega) (by omega) hL hQ).mono ?_
      rintro e w' ⟨r, X, v', rv', rfl, hr1, hr2, hA, hU⟩
      rw [ResPost, aReserve, if_neg hb, ea, Int.toNat_natCast, if_neg hf]
      refine ⟨v', _, rv', _, _, _, by simp [absM], hA, ?_, ?_, by simp, by simp, hU⟩
      · simp [absM, hr1, hr2]
      · simp [RecL.abs, absM]
end Go.Proofs.YtliikmmcbbmppaaDoor
