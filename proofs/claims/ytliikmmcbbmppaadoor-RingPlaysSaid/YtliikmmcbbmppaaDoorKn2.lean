/- The test 'known': true, and what was there stays as it was. -/
import Derived.Test.YtliikmmcbbmppaaDoorKn
namespace Go.Proofs.YtliikmmcbbmppaaDoor
open Go.RowKit Go.ChangeMaps

/-- What is told of the state on the way: a base world, a bound on lengths, and the two abstract values. -/
structure KS (w0 w : World) (M R T : Nat) (v : Value) (L : List RegL) (rv : Value) (Q : List RecL) (E : List Ent) (clock : Nat) (A : AM) (q : List ARec) : Prop where
  mk' ::
  all : AllM w M R T v L 32 rv Q E clock
  chg : Chg [] w0 w
  fp : ∀ x ∈ fpAll M R T v L rv Q, w0.heap.size ≤ x
  len : L.length = A.length ∧ A.length ≤ 10 ∧ q.length ≤ 10
  abs : absM L = A
  absq : Q.map RecL.abs = q

theorem kl0 : kA0.length ≤ 10 := by decide
theorem kr0 : kq0.length ≤ 10 := by decide
theorem kl1 : kA1.length ≤ 10 := by decide
theorem kr1 : kq1.length ≤ 10 := by decide
theorem kl2 : kA2.length ≤ 10 := by decide
theorem kr2 : kq2.length ≤ 10 := by decide
theorem kl3 : kA3.length ≤ 10 := by decide
theorem kr3 : kq3.length ≤ 10 := by decide
theorem kl4 : kA4.length ≤ 10 := by decide
theorem kr4 : kq4.length ≤ 10 := by decide
theorem alloc_old {w : World} {k : Nat} {o o' : Obj} (h : w.heap[k]? = some o) : (w.alloc o').heap[k]? = some o := (Below.heap_alloc _ _ _ (lt_of_blk h)).trans h
theorem alloc_last {w : World} {k : Nat} {o : Obj} (h : k = w.heap.size) : (w.alloc o).heap[k]? = some o := h ▸ heap_alloc_new w o
theorem fp_start {M R T x : Nat} (h : x ∈ fpAll M R T (.slice none 0 0) [] (.slice none 0 0) []) : x = M ∨ x = R ∨ x = T := by simpa [fpAll, fpM, fpRing, fpQ, doneR, Value.ownBlock] using h
theorem fpr_start {M R x : Nat} (h : x ∈ fpAllR M R (.slice none 0 0) [] (.slice none 0 0) []) : x = M ∨ x = R := by simpa [fpAllR, fpM, fpRR, doneR, Value.ownBlock] using h
theorem absM_len (L : List RegL) : (absM L).length = L.length := by simp [absM]

theorem KS.reserve {w0 w : World} {M R T : Nat} {v : Value} {L : List RegL} {rv : Value} {Q : List RecL} {E : List Ent} {clock : Nat} {A A' : AM} {q q' : List ARec} {n id code : Int} (h : KS w0 w M R T v L rv Q E clock A q)
    (hA : A'.length ≤ 10) (hq : q'.length ≤ 10) (he : aReserve 32 A q n = ((id, code), A', q')) : Calls Tryd.prog 10 #[.pointer (some ⟨R, 0, none⟩), .int .i64 n] w fun e w' => e = .returned (.tuple #[.int .i64 id, .int .i64 code]) ∧ ∃ v L rv Q E clock, KS w0 w' M R T v L rv Q E clock A' q' := by
  obtain ⟨h1, h2, h3, ⟨h4, h4a, h4q⟩, h5, h6⟩ := h
  have h7 : Q.length ≤ 10 := by rw [← h6] at h4q; simpa using h4q
  refine (reserve_any h1 (by omega) (by omega) n).mono ?_
  rintro e w' ⟨v1, L1, rv1, Q1, E1, c1, rfl, k1, k2, k3, _, _, k4⟩
  rw [h5, h6, he] at k2 k3
  rw [h5, h6, he]
  exact ⟨rfl, v1, L1, rv1, Q1, E1, c1, k1, h2.trans k4.1 (fun x hx => .inr (h3 x hx)), fun x hx => (k4.2 x hx).elim (h3 x) (fun h => Nat.le_trans h2.size h), ⟨by rw [← absM_len, k2], hA, hq⟩, k2, k3⟩

theorem KS.submit {w0 w : World} {M R T : Nat} {v : Value} {L : List RegL} {rv : Value} {Q : List RecL} {E : List Ent} {clock : Nat} {A A' : AM} {q q' : List ARec} {id code : Int} (h : KS w0 w M R T v L rv Q E clock A q)
    (hA : A'.length ≤ 10) (hq : q'.length ≤ 10) (he : aEnd A q id 1 = (code, A', q')) : Calls Tryd.prog 12 #[.pointer (some ⟨R, 0, none⟩), .int .i64 id] w fun e w' => e = .returned (.int .i64 code) ∧ ∃ v L rv Q E clock, KS w0 w' M R T v L rv Q E clock A' q' := by
  obtain ⟨h1, h2, h3, ⟨h4, h4a, h4q⟩, h5, h6⟩ := h
  refine (submit_any h1 id).mono ?_
  rintro e w' ⟨L1, Q1, E1, rfl, k1, k2, k3, _, _, k4⟩
  rw [h5, h6, he] at k2 k3
  rw [h5, h6, he]
  exact ⟨rfl, v, L1, rv, Q1, E1, clock, k1, h2.trans k4.1 (fun x hx => .inr (h3 x hx)), fun x hx => (k4.2 x hx).elim (h3 x) (fun h => Nat.le_trans h2.size h), ⟨by rw [← absM_len, k2], hA, hq⟩, k2, k3⟩

theorem KS.read {w0 w : World} {M R T : Nat} {v : Value} {L : List RegL} {rv : Value} {Q : List RecL} {E : List Ent} {clock : Nat} {A : AM} {q q' : List ARec} {o : List (List Int)} (h : KS w0 w M R T v L rv Q E clock A q)
    (hq' : q'.length ≤ 10) (he : aRead q = (o, q')) : Calls Tryd.prog 19 #[.pointer (some ⟨R, 0, none⟩)] w fun e w' => (∃ ao cap, e = .returned (.slice ao o.length cap) ∧ o.length ≤ cap ∧ cap ≤ maxLen) ∧ ∃ v L rv Q E clock, KS w0 w' M R T v L rv Q E clock A q' := by
  obtain ⟨h1, h2, h3, ⟨h4, h4a, h4q⟩, h5, h6⟩ := h
  have h7 : Q.length ≤ 10 := by rw [← h6] at h4q; simpa using h4q
  refine (read_any h1 (by omega)).mono ?_
  rintro e w' ⟨rv1, Q1, ov, O, rfl, k1, kr, ko, k2, _, _, _, _, k4⟩
  rw [h6, he] at k2 ko
  have hl : O.length = o.length := by simpa using congrArg List.length ko
  obtain ⟨ao, cap, rfl, c1, c2, _⟩ := kr.shape
  rw [hl] at c1
  exact ⟨⟨ao, cap, by rw [hl], c1, c2⟩, v, L, rv1, Q1, E, clock, k1, h2.trans k4.1 (fun x hx => .inr (h3 x hx)), fun x hx => (k4.2 x hx).elim (h3 x) (fun h => Nat.le_trans h2.size h), ⟨h4, h4a, hq'⟩, h5, k2⟩

set_option maxRecDepth 100000 in
set_option maxHeartbeats 2000000 in
theorem known_any (w : World) : Calls Tryd.prog 4 #[] w fun e w' => e = .returned (.bool true) ∧ Chg [] w w' := by
  go_enter Tryd.func4, Tryd.ntmps4
  go_wp2_with (first
    | (go_at_call 6; refine (newmem_any _).mono ?_; rintro e w1 ⟨rfl, hw1⟩; have HW := hide hw1; clear hw1)
    | (go_at_call 8; refine (newring_ok 32 _ _ (by decide)).mono ?_; rintro e w2 ⟨rfl, hw2⟩
       have HK : ∃ v L rv Q E clock, KS w w2 w.heap.size (w1.heap.size + 1) w1.heap.size v L rv Q E clock kA0 kq0 := (by
         have hw1 := HW.out
         subst hw1; subst hw2
         exact ⟨_, _, _, _, _, _, allm_new (by decide) (alloc_old (alloc_old (heap_alloc_new w _))) (alloc_old (heap_alloc_new _ _)) (alloc_last (by simp)), (((Chg.refl _ _).alloc _).alloc _).alloc _, (fun x hx => by rcases fp_start hx with rfl | rfl | rfl <;> simp <;> omega), ⟨rfl, by decide, by decide⟩, rfl, rfl⟩)
       generalize w1.heap.size + 1 = R at HK ⊢
       obtain ⟨v, L, rv, Q, E, clock, hK⟩ := HK
       have HK := hide hK
       clear hw2 hK HW)
    | (go_at_call 10; with_reducible first
        | refine (KS.reserve (by exact HK.out) kl1 kr1 kn1).mono ?_
        | refine (KS.reserve (by exact HK.out) kl2 kr2 kn2).mono ?_
        | refine (KS.reserve (by exact HK.out) kl2 kr2 kn3).mono ?_
       rintro e w1 ⟨rfl, v, L, rv, Q, E, clock, hK⟩; have HK := hide hK; clear hK)
    | (go_at_call 12; with_reducible first
        | refine (KS.submit (by exact HK.out) kl3 kr3 kn4).mono ?_
        | refine (KS.submit (by exact HK.out) kl4 kr4 kn6).mono ?_
       rintro e w1 ⟨rfl, v, L, rv, Q, E, clock, hK⟩; have HK := hide hK; clear hK)
    | (go_at_call 19; with_reducible first
        | refine (KS.read (by exact HK.out) kr3 kn5).mono ?_
        | refine (KS.read (by exact HK.out) kr0 kn7).mono ?_
       rintro e w1 ⟨⟨ao, cap, rfl, hc1, hc2⟩, v, L, rv, Q, E, clock, hK⟩; have HK := hide hK; clear hK)
    | (go_at_call 24; refine (used_any (by exact HK.out.all.ring)).mono ?_; rintro e w1 ⟨rfl, rfl⟩; have hu : used Q = 0 := (by rw [← used_abs, HK.out.absq]; rfl)))
  go_ret
  exact ⟨rfl, HK.out.chg⟩
end Go.Proofs.YtliikmmcbbmppaaDoor
