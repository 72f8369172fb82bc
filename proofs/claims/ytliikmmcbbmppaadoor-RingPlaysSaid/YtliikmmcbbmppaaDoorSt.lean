/- Both rings side by side: what lies where (St), and each call's word. -/
import Derived.Test.YtliikmmcbbmppaaDoorKn2
namespace Go.Proofs.YtliikmmcbbmppaaDoor
open Go.RowKit Go.ChangeMaps

/-- Where the two sides lie: behind the start, apart, and apart from what is to stay (Z). -/
structure Sep (w0 w : World) (F F' Z : List Nat) : Prop where
  a : ∀ x ∈ F, w0.heap.size ≤ x
  b : ∀ x ∈ F', w0.heap.size ≤ x
  ab : ∀ x ∈ F, x ∉ F'
  z : ∀ x ∈ Z, x < w.heap.size ∧ x ∉ F ∧ x ∉ F'
  la : ∀ x ∈ F, x < w.heap.size
  lb : ∀ x ∈ F', x < w.heap.size
  z0 : ∀ x ∈ Z, w0.heap.size ≤ x

/-- What is to stay stays. -/
def KeptZ (Z : List Nat) (w w' : World) : Prop := ∀ z ∈ Z, w'.heap[z]? = w.heap[z]?

theorem Sep.upd1 {w0 w w' : World} {F F' G Z : List Nat} (h : Sep w0 w F F' Z) (h0 : Chg [] w0 w) (hu : Upd w w' F G) (hl : ∀ x ∈ G, x < w'.heap.size) : Sep w0 w' G F' Z ∧ KeptZ Z w w' ∧ Chg [] w0 w' := by
  refine ⟨⟨fun x hx => ?_, h.b, fun x hx hx' => ?_, fun z hz => ?_, hl, fun x hx => Nat.lt_of_lt_of_le (h.lb x hx) hu.1.size, h.z0⟩, fun z hz => hu.1.block z (h.z z hz).1 (h.z z hz).2.1, h0.trans hu.1 fun x hx => .inr (h.a x hx)⟩
  · rcases hu.2 x hx with h1 | h1
    · exact h.a x h1
    · exact Nat.le_trans h0.size h1
  · rcases hu.2 x hx with h1 | h1
    · exact h.ab x h1 hx'
    · have := h.lb x hx'; omega
  · obtain ⟨h1, h2, h3⟩ := h.z z hz
    refine ⟨Nat.lt_of_lt_of_le h1 hu.1.size, fun hm => ?_, h3⟩
    rcases hu.2 z hm with h4 | h4
    · exact h2 h4
    · omega

theorem Sep.upd2 {w0 w w' : World} {F F' G Z : List Nat} (h : Sep w0 w F F' Z) (h0 : Chg [] w0 w) (hu : Upd w w' F' G) (hl : ∀ x ∈ G, x < w'.heap.size) : Sep w0 w' F G Z ∧ KeptZ Z w w' ∧ Chg [] w0 w' := by
  refine ⟨⟨h.a, fun x hx => ?_, fun x hx hx' => ?_, fun z hz => ?_, fun x hx => Nat.lt_of_lt_of_le (h.la x hx) hu.1.size, hl, h.z0⟩, fun z hz => hu.1.block z (h.z z hz).1 (h.z z hz).2.2, h0.trans hu.1 fun x hx => .inr (h.b x hx)⟩
  · rcases hu.2 x hx with h1 | h1
    · exact h.b x h1
    · exact Nat.le_trans h0.size h1
  · rcases hu.2 x hx' with h1 | h1
    · exact h.ab x hx h1
    · have := h.la x hx; omega
  · obtain ⟨h1, h2, h3⟩ := h.z z hz
    refine ⟨Nat.lt_of_lt_of_le h1 hu.1.size, h2, fun hm => ?_⟩
    rcases hu.2 z hm with h4 | h4
    · exact h3 h4
    · omega

/-- Both sides at a world. -/
structure Both (w0 w : World) (size : Int) (M R T M' R' : Nat) (A : AM) (q : List ARec) (A' : AM) (q' : List ARec) (k : Nat) (Z : List Nat)
    (v : Value) (L : List RegL) (rv : Value) (Q : List RecL) (E : List Ent) (clock : Nat) (v' : Value) (L' : List RegL) (lv' : Value) (Q' : List RecL) : Prop where
  m : AllM w M R T v L size rv Q E clock
  r : AllR w M' R' v' L' size lv' Q'
  am : absM L = A
  aq : Q.map RecL.abs = q
  am' : absM L' = A'
  aq' : Q'.map RecL.abs = q'
  len : A.length ≤ k ∧ q.length ≤ k ∧ A'.length ≤ k ∧ q'.length ≤ k
  sep : Sep w0 w (fpAll M R T v L rv Q) (fpAllR M' R' v' L' lv' Q') Z
  chg : Chg [] w0 w

structure St (w0 w : World) (size : Int) (M R T M' R' : Nat) (A : AM) (q : List ARec) (A' : AM) (q' : List ARec) (k : Nat) (Z : List Nat) : Prop where
  ex : ∃ v L rv Q E clock v' L' lv' Q', Both w0 w size M R T M' R' A q A' q' k Z v L rv Q E clock v' L' lv' Q'

section
variable {w0 w w' : World} {size : Int} {M R T M' R' : Nat} {A : AM} {q : List ARec} {A' : AM} {q' : List ARec} {k : Nat} {Z : List Nat}
variable {v : Value} {L : List RegL} {rv : Value} {Q : List RecL} {E : List Ent} {clock : Nat} {v' : Value} {L' : List RegL} {lv' : Value} {Q' : List RecL}

theorem Both.lens (h : Both w0 w size M R T M' R' A q A' q' k Z v L rv Q E clock v' L' lv' Q') : L.length ≤ k ∧ Q.length ≤ k ∧ L'.length ≤ k ∧ Q'.length ≤ k := by
  obtain ⟨h1, h2, h3, h4⟩ := h.len
  have e1 := h.am; have e2 := h.aq; have e3 := h.am'; have e4 := h.aq'
  subst e1 e2 e3 e4
  simp only [absM_len, List.length_map] at h1 h2 h3 h4
  exact ⟨h1, h2, h3, h4⟩

/-- The program's side has gone on. -/
theorem Both.go1 {A1 : AM} {q1 : List ARec} {k1 : Nat} {v1 : Value} {L1 : List RegL} {rv1 : Value} {Q1 : List RecL} {E1 : List Ent} {clock1 : Nat}
    (h : Both w0 w size M R T M' R' A q A' q' k Z v L rv Q E clock v' L' lv' Q') (h1 : AllM w' M R T v1 L1 size rv1 Q1 E1 clock1) (ha : absM L1 = A1) (hq : Q1.map RecL.abs = q1) (hl : L1.length ≤ k1) (hl' : Q1.length ≤ k1) (hk : k ≤ k1)
    (hu : Upd w w' (fpAll M R T v L rv Q) (fpAll M R T v1 L1 rv1 Q1)) : Both w0 w' size M R T M' R' A1 q1 A' q' k1 Z v1 L1 rv1 Q1 E1 clock1 v' L' lv' Q' ∧ KeptZ Z w w' := by
  obtain ⟨s1, s2, s3⟩ := h.sep.upd1 h.chg hu h1.lt
  have h5 := h.len
  refine ⟨⟨h1, h.r.chg hu.1 fun x hx hm => h.sep.ab x hm hx, ha, hq, h.am', h.aq', ⟨?_, ?_, by omega, by omega⟩, s1, s3⟩, s2⟩
  · rw [← ha, absM_len]; exact hl
  · rw [← hq, List.length_map]; exact hl'

/-- The reference's side has gone on. -/
theorem Both.go2 {A1 : AM} {q1 : List ARec} {k1 : Nat} {v1 : Value} {L1 : List RegL} {rv1 : Value} {Q1 : List RecL}
    (h : Both w0 w size M R T M' R' A q A' q' k Z v L rv Q E clock v' L' lv' Q') (h1 : AllR w' M' R' v1 L1 size rv1 Q1) (ha : absM L1 = A1) (hq : Q1.map RecL.abs = q1) (hl : L1.length ≤ k1) (hl' : Q1.length ≤ k1) (hk : k ≤ k1)
    (hu : Upd w w' (fpAllR M' R' v' L' lv' Q') (fpAllR M' R' v1 L1 rv1 Q1)) : Both w0 w' size M R T M' R' A q A1 q1 k1 Z v L rv Q E clock v1 L1 rv1 Q1 ∧ KeptZ Z w w' := by
  obtain ⟨s1, s2, s3⟩ := h.sep.upd2 h.chg hu h1.lt
  have h5 := h.len
  refine ⟨⟨h.m.chg hu.1 fun x hx => h.sep.ab x hx, h1, h.am, h.aq, ha, hq, ⟨by omega, by omega, ?_, ?_⟩, s1, s3⟩, s2⟩
  · rw [← ha, absM_len]; exact hl
  · rw [← hq, List.length_map]; exact hl'

/-- Something else has turned. -/
theorem St.other (h : St w0 w size M R T M' R' A q A' q' k Z) {S Z1 : List Nat} (hc : Chg S w w') (hS : ∀ x ∈ S, x ∈ Z ∨ w.heap.size ≤ x) (hZ : ∀ z ∈ Z1, z ∈ Z ∨ (w.heap.size ≤ z ∧ z < w'.heap.size)) : St w0 w' size M R T M' R' A q A' q' k Z1 := by
  obtain ⟨v, L, rv, Q, E, clock, v', L', lv', Q', h⟩ := h.ex
  have n1 : ∀ x ∈ fpAll M R T v L rv Q, x ∉ S := fun x hx hm => by
    rcases hS x hm with h1 | h1
    · exact (h.sep.z x h1).2.1 hx
    · have := h.sep.la x hx; omega
  have n2 : ∀ x ∈ fpAllR M' R' v' L' lv' Q', x ∉ S := fun x hx hm => by
    rcases hS x hm with h1 | h1
    · exact (h.sep.z x h1).2.2 hx
    · have := h.sep.lb x hx; omega
  have hs0 : ∀ x ∈ S, w0.heap.size ≤ x := fun x hx => (hS x hx).elim (h.sep.z0 x) fun h1 => Nat.le_trans h.chg.size h1
  exact ⟨v, L, rv, Q, E, clock, v', L', lv', Q', h.m.chg hc n1, h.r.chg hc n2, h.am, h.aq, h.am', h.aq', h.len,
    ⟨h.sep.a, h.sep.b, h.sep.ab, fun z hz => by
      rcases hZ z hz with h1 | ⟨h1, h2⟩
      · have h3 := h.sep.z z h1
        exact ⟨Nat.lt_of_lt_of_le h3.1 hc.size, h3.2⟩
      · exact ⟨h2, fun hm => (by have := h.sep.la z hm; omega), fun hm => (by have := h.sep.lb z hm; omega)⟩, fun x hx => Nat.lt_of_lt_of_le (h.sep.la x hx) hc.size, fun x hx => Nat.lt_of_lt_of_le (h.sep.lb x hx) hc.size,
      fun z hz => (hZ z hz).elim (h.sep.z0 z) fun h1 => Nat.le_trans h.chg.size h1.1⟩,
    h.chg.trans hc fun x hx => .inr (hs0 x hx)⟩

/-! The program's calls. -/
theorem St.m_reserve (h : St w0 w size M R T M' R' A q A' q' k Z) (hk : k ≤ 900) (n : Int) : Calls Tryd.prog 10 #[.pointer (some ⟨R, 0, none⟩), .int .i64 n] w fun e w' =>
    e = .returned (.tuple #[.int .i64 (aReserve size A q n).1.1, .int .i64 (aReserve size A q n).1.2]) ∧ St w0 w' size M R T M' R' (aReserve size A q n).2.1 (aReserve size A q n).2.2 A' q' (k + 1) Z ∧ KeptZ Z w w' := by
  obtain ⟨v, L, rv, Q, E, clock, v', L', lv', Q', h⟩ := h.ex
  have hl := h.lens
  refine (reserve_any h.m (by omega) (by omega) n).mono ?_
  rintro e w' ⟨v1, L1, rv1, Q1, E1, c1, he, k1, k2, k3, k4, k5, k6⟩
  rw [h.am, h.aq] at he k2 k3
  obtain ⟨b, kz⟩ := h.go1 k1 k2 k3 (k1 := k + 1) (by omega) (by omega) (by omega) k6
  exact ⟨he, ⟨_, _, _, _, _, _, _, _, _, _, b⟩, kz⟩

theorem St.m_submit (h : St w0 w size M R T M' R' A q A' q' k Z) (id : Int) : Calls Tryd.prog 12 #[.pointer (some ⟨R, 0, none⟩), .int .i64 id] w fun e w' =>
    e = .returned (.int .i64 (aEnd A q id 1).1) ∧ St w0 w' size M R T M' R' (aEnd A q id 1).2.1 (aEnd A q id 1).2.2 A' q' k Z ∧ KeptZ Z w w' := by
  obtain ⟨v, L, rv, Q, E, clock, v', L', lv', Q', h⟩ := h.ex
  have hl := h.lens
  refine (submit_any h.m id).mono ?_
  rintro e w' ⟨L1, Q1, E1, he, k1, k2, k3, k4, k5, k6⟩
  rw [h.am, h.aq] at he k2 k3
  obtain ⟨b, kz⟩ := h.go1 k1 k2 k3 (k1 := k) (by omega) (by omega) (by omega) k6
  exact ⟨he, ⟨_, _, _, _, _, _, _, _, _, _, b⟩, kz⟩

theorem St.m_discard (h : St w0 w size M R T M' R' A q A' q' k Z) (id : Int) : Calls Tryd.prog 14 #[.pointer (some ⟨R, 0, none⟩), .int .i64 id] w fun e w' =>
    e = .returned (.int .i64 (aEnd A q id 2).1) ∧ St w0 w' size M R T M' R' (aEnd A q id 2).2.1 (aEnd A q id 2).2.2 A' q' k Z ∧ KeptZ Z w w' := by
  obtain ⟨v, L, rv, Q, E, clock, v', L', lv', Q', h⟩ := h.ex
  have hl := h.lens
  refine (discard_any h.m id).mono ?_
  rintro e w' ⟨L1, Q1, E1, he, k1, k2, k3, k4, k5, k6⟩
  rw [h.am, h.aq] at he k2 k3
  obtain ⟨b, kz⟩ := h.go1 k1 k2 k3 (k1 := k) (by omega) (by omega) (by omega) k6
  exact ⟨he, ⟨_, _, _, _, _, _, _, _, _, _, b⟩, kz⟩

theorem St.m_output (h : St w0 w size M R T M' R' A q A' q' k Z) (hk : k ≤ 900) (sp : Option Addr) (m c : Nat) (zs : List Int) (hs : Src w sp m zs) (hsp : ∀ ad, sp = some ad → ad.block ∈ Z) :
    Calls Tryd.prog 16 #[.pointer (some ⟨R, 0, none⟩), .slice sp m c] w fun e w' =>
    e = .returned (.int .i64 (aOutput size A q zs).1) ∧ St w0 w' size M R T M' R' (aOutput size A q zs).2.1 (aOutput size A q zs).2.2 A' q' (k + 1) Z ∧ KeptZ Z w w' := by
  obtain ⟨v, L, rv, Q, E, clock, v', L', lv', Q', h⟩ := h.ex
  have hl := h.lens
  refine (output_any h.m (by omega) (by omega) sp m c zs hs fun ad had => ⟨(h.sep.z _ (hsp ad had)).2.1, (h.sep.z _ (hsp ad had)).1⟩).mono ?_
  rintro e w' ⟨v1, L1, rv1, Q1, E1, c1, he, k1, k2, k3, k4, k5, k6⟩
  rw [h.am, h.aq] at he k2 k3
  obtain ⟨b, kz⟩ := h.go1 k1 k2 k3 (k1 := k + 1) (by omega) (by omega) (by omega) k6
  exact ⟨he, ⟨_, _, _, _, _, _, _, _, _, _, b⟩, kz⟩

theorem St.m_set (h : St w0 w size M R T M' R' A q A' q' k Z) (id : Int) (sp : Option Addr) (m c : Nat) (zs : List Int) (hs : Src w sp m zs) :
    Calls Tryd.prog 22 #[.pointer (some ⟨M, 0, none⟩), .int .i64 id, .int .i64 0, .slice sp m c] w fun e w' =>
    e = .returned (.bool (amSet A id zs).1) ∧ St w0 w' size M R T M' R' (amSet A id zs).2 q A' q' k Z ∧ KeptZ Z w w' := by
  obtain ⟨v, L, rv, Q, E, clock, v', L', lv', Q', h⟩ := h.ex
  have hl := h.lens
  refine (setall_any h.m id sp m c zs hs).mono ?_
  rintro e w' ⟨L1, he, k1, k2, k4, k6⟩
  rw [h.am] at he k2
  obtain ⟨b, kz⟩ := h.go1 k1 k2 h.aq (k1 := k) (by omega) (by omega) (by omega) k6
  exact ⟨he, ⟨_, _, _, _, _, _, _, _, _, _, b⟩, kz⟩

theorem St.m_used (h : St w0 w size M R T M' R' A q A' q' k Z) : Calls Tryd.prog 24 #[.pointer (some ⟨R, 0, none⟩)] w fun e w' => e = .returned (.int .i64 (aused q : Nat)) ∧ w = w' := by
  obtain ⟨v, L, rv, Q, E, clock, v', L', lv', Q', h⟩ := h.ex
  have := used_any h.m.ring
  rwa [← used_abs, h.aq] at this

theorem St.m_pend (h : St w0 w size M R T M' R' A q A' q' k Z) (hk : k ≤ 900) : Calls Tryd.prog 27 #[.pointer (some ⟨R, 0, none⟩)] w (PendPost w (apend q)) := by
  obtain ⟨v, L, rv, Q, E, clock, v', L', lv', Q', h⟩ := h.ex
  have hl := h.lens
  have := pending_any h.m.ring (by omega)
  rwa [h.aq] at this

theorem St.m_live (h : St w0 w size M R T M' R' A q A' q' k Z) (id : Int) : Calls Tryd.prog 29 #[.pointer (some ⟨M, 0, none⟩), .int .i64 id] w fun e w' => e = .returned (.bool (amLive A id)) ∧ w = w' := by
  obtain ⟨v, L, rv, Q, E, clock, v', L', lv', Q', h⟩ := h.ex
  refine (live_any h.m.mem id).mono ?_
  rintro e w' ⟨he, hw⟩
  refine ⟨?_, hw⟩
  rw [he, ← h.am]
  simp only [amLive, absM, List.getElem?_map, Option.map_map, Function.comp_def]

/-! The reference's calls. -/
theorem St.r_reserve (h : St w0 w size M R T M' R' A q A' q' k Z) (hk : k ≤ 900) (n : Int) : Calls Tryd.prog 11 #[.pointer (some ⟨R', 0, none⟩), .int .i64 n] w fun e w' =>
    e = .returned (.tuple #[.int .i64 (aReserve size A' q' n).1.1, .int .i64 (aReserve size A' q' n).1.2]) ∧ St w0 w' size M R T M' R' A q (aReserve size A' q' n).2.1 (aReserve size A' q' n).2.2 (k + 1) Z ∧ KeptZ Z w w' := by
  obtain ⟨v, L, rv, Q, E, clock, v', L', lv', Q', h⟩ := h.ex
  have hl := h.lens
  refine (rreserve_any h.r (by omega) (by omega) n).mono ?_
  rintro e w' ⟨v1, L1, rv1, Q1, he, k1, k2, k3, k4, k5, k6⟩
  rw [h.am', h.aq'] at he k2 k3
  obtain ⟨b, kz⟩ := h.go2 k1 k2 k3 (k1 := k + 1) (by omega) (by omega) (by omega) k6
  exact ⟨he, ⟨_, _, _, _, _, _, _, _, _, _, b⟩, kz⟩

theorem St.r_submit (h : St w0 w size M R T M' R' A q A' q' k Z) (hk : k ≤ 900) (id : Int) : Calls Tryd.prog 13 #[.pointer (some ⟨R', 0, none⟩), .int .i64 id] w fun e w' =>
    e = .returned (.int .i64 (aEnd A' q' id 1).1) ∧ St w0 w' size M R T M' R' A q (aEnd A' q' id 1).2.1 (aEnd A' q' id 1).2.2 k Z ∧ KeptZ Z w w' := by
  obtain ⟨v, L, rv, Q, E, clock, v', L', lv', Q', h⟩ := h.ex
  have hl := h.lens
  refine (rsubmit_any h.r (by omega) id).mono ?_
  rintro e w' ⟨L1, Q1, he, k1, k2, k3, k4, k5, k6⟩
  rw [h.am', h.aq'] at he k2 k3
  obtain ⟨b, kz⟩ := h.go2 k1 k2 k3 (k1 := k) (by omega) (by omega) (by omega) k6
  exact ⟨he, ⟨_, _, _, _, _, _, _, _, _, _, b⟩, kz⟩

theorem St.r_discard (h : St w0 w size M R T M' R' A q A' q' k Z) (hk : k ≤ 900) (id : Int) : Calls Tryd.prog 15 #[.pointer (some ⟨R', 0, none⟩), .int .i64 id] w fun e w' =>
    e = .returned (.int .i64 (aEnd A' q' id 2).1) ∧ St w0 w' size M R T M' R' A q (aEnd A' q' id 2).2.1 (aEnd A' q' id 2).2.2 k Z ∧ KeptZ Z w w' := by
  obtain ⟨v, L, rv, Q, E, clock, v', L', lv', Q', h⟩ := h.ex
  have hl := h.lens
  refine (rdiscard_any h.r (by omega) id).mono ?_
  rintro e w' ⟨L1, Q1, he, k1, k2, k3, k4, k5, k6⟩
  rw [h.am', h.aq'] at he k2 k3
  obtain ⟨b, kz⟩ := h.go2 k1 k2 k3 (k1 := k) (by omega) (by omega) (by omega) k6
  exact ⟨he, ⟨_, _, _, _, _, _, _, _, _, _, b⟩, kz⟩

theorem St.r_output (h : St w0 w size M R T M' R' A q A' q' k Z) (hk : k ≤ 900) (sp : Option Addr) (m c : Nat) (zs : List Int) (hs : Src w sp m zs) (hsp : ∀ ad, sp = some ad → 0 < m → ad.block < w0.heap.size) :
    Calls Tryd.prog 17 #[.pointer (some ⟨R', 0, none⟩), .slice sp m c] w fun e w' =>
    e = .returned (.int .i64 (aOutput size A' q' zs).1) ∧ St w0 w' size M R T M' R' A q (aOutput size A' q' zs).2.1 (aOutput size A' q' zs).2.2 (k + 1) Z ∧ KeptZ Z w w' := by
  obtain ⟨v, L, rv, Q, E, clock, v', L', lv', Q', h⟩ := h.ex
  have hl := h.lens
  refine (routput_any h.r (by omega) (by omega) sp m c zs hs fun ad had hm hx => by have := h.sep.b _ hx; have := hsp ad had hm; omega).mono ?_
  rintro e w' ⟨v1, L1, rv1, Q1, he, k1, k2, k3, k4, k5, k6⟩
  rw [h.am', h.aq'] at he k2 k3
  obtain ⟨b, kz⟩ := h.go2 k1 k2 k3 (k1 := k + 1) (by omega) (by omega) (by omega) k6
  exact ⟨he, ⟨_, _, _, _, _, _, _, _, _, _, b⟩, kz⟩

theorem St.r_set (h : St w0 w size M R T M' R' A q A' q' k Z) (id : Int) (sp : Option Addr) (m c : Nat) (zs : List Int) (hs : Src w sp m zs) :
    Calls Tryd.prog 23 #[.pointer (some ⟨M', 0, none⟩), .int .i64 id, .int .i64 0, .slice sp m c] w fun e w' =>
    e = .returned (.bool (amSet A' id zs).1) ∧ St w0 w' size M R T M' R' A q (amSet A' id zs).2 q' k Z ∧ KeptZ Z w w' := by
  obtain ⟨v, L, rv, Q, E, clock, v', L', lv', Q', h⟩ := h.ex
  have hl := h.lens
  refine (rsetall_any h.r id sp m c zs hs).mono ?_
  rintro e w' ⟨L1, he, k1, k2, k4, k6⟩
  rw [h.am'] at he k2
  obtain ⟨b, kz⟩ := h.go2 k1 k2 h.aq' (k1 := k) (by omega) (by omega) (by omega) k6
  exact ⟨he, ⟨_, _, _, _, _, _, _, _, _, _, b⟩, kz⟩

theorem St.r_used (h : St w0 w size M R T M' R' A q A' q' k Z) (hk : k ≤ 900) : Calls Tryd.prog 25 #[.pointer (some ⟨R', 0, none⟩)] w fun e w' => e = .returned (.int .i64 (aused q' : Nat)) ∧ w = w' := by
  obtain ⟨v, L, rv, Q, E, clock, v', L', lv', Q', h⟩ := h.ex
  have hl := h.lens
  have := rused_any h.r.ring (by omega)
  rwa [← used_abs, h.aq'] at this

theorem St.r_pend (h : St w0 w size M R T M' R' A q A' q' k Z) (hk : k ≤ 900) : Calls Tryd.prog 28 #[.pointer (some ⟨R', 0, none⟩)] w (PendPost w (apend q')) := by
  obtain ⟨v, L, rv, Q, E, clock, v', L', lv', Q', h⟩ := h.ex
  have hl := h.lens
  have := rpending_any h.r.ring (by omega)
  rwa [h.aq'] at this

theorem St.r_live (h : St w0 w size M R T M' R' A q A' q' k Z) (id : Int) : Calls Tryd.prog 30 #[.pointer (some ⟨M', 0, none⟩), .int .i64 id] w fun e w' => e = .returned (.bool (amLive A' id)) ∧ w = w' := by
  obtain ⟨v, L, rv, Q, E, clock, v', L', lv', Q', h⟩ := h.ex
  have := rlive_any h.r.mem id
  rwa [h.am'] at this

/-- What a reading hands out: a row of rows of bytes. -/
structure Outs (w : World) (ov : Value) (n : Nat) (xs : List Value) (bs : List (List Int)) : Prop where
  row : RowAt w 36 1 ov n xs
  len : bs.length = n
  el : ∀ (i : Nat) (x : Value) (zs : List Int), xs[i]? = some x → bs[i]? = some zs → ∃ m, RowAt w 5 1 x m (bytesV zs)

theorem no36 (h : AllM w M R T v L size rv Q E clock) {g : Nat} {cur : Array Value} {fr : Nat × Nat} (hg : w.heap[g]? = some (.cells cur 36 fr)) : g ∉ fpAll M R T v L rv Q := by
  intro hx
  simp only [fpAll, fpM, fpRing, fpQ, List.mem_cons, List.mem_append, List.mem_map, Option.mem_toList] at hx
  rcases hx with (rfl | hx | ⟨r, hr, rfl⟩ | ⟨r, hr, rfl⟩) | rfl | rfl | hx | ⟨q, hq, rfl⟩ | ⟨q, hq, rfl⟩
  · exact blk_ne hg h.mem.root (by decide) rfl
  · exact own_ne h.mem.row hg (by decide) hx
  · exact blk_ne hg (h.mem.reg r hr).1 (by decide) rfl
  · exact own_ne (h.mem.reg r hr).2.1 hg (by decide) rfl
  · exact blk_ne hg h.ring.root (by decide) rfl
  · exact map_no_cells h.ring.tab hg rfl
  · exact own_ne h.ring.row hg (by decide) hx
  · exact blk_ne hg (h.ring.recs q hq).1 (by decide) rfl
  · obtain ⟨hq1, hs⟩ := List.mem_filter.1 hq
    have hs' : q.st ≠ 0 := by simpa using hs
    exact own_ne ((h.ring.recs q hq1).2 hs') hg (by decide) (by simp [RecL.bval, hs', Value.ownBlock])

theorem aRead_len : ∀ q : List ARec, (aRead q).1.length ≤ q.length
  | [] => by simp [aRead]
  | r :: q => by
    have := aRead_len q
    unfold aRead
    split
    · simp
    · split <;> simp <;> omega

theorem row_blk {w : World} {q : RecL} {n : Nat} {xs : List Value} (h : RowAt w 5 1 (cutv q) n xs) : ∃ cur fr, w.heap[q.bb]? = some (.cells cur 5 fr) := by
  rcases h.2 with ⟨h1, _⟩ | ⟨g, off, cap, cur, h1, hg, _⟩
  · cases h1
  · simp [cutv] at h1
    obtain ⟨⟨h1, _⟩, _⟩ := h1
    exact ⟨_, _, h1 ▸ hg⟩

theorem Outs.of {w : World} {ov : Value} {O : List RecL} {f : RecL → Value} {bs : List (List Int)} (h : RowAt w 36 1 ov O.length (O.map f)) (hb : O.map (·.bytes) = bs) (he : ∀ q ∈ O, RowAt w 5 1 (f q) q.n (bytesV q.bytes)) : Outs w ov O.length (O.map f) bs := by
  subst hb
  refine ⟨h, by simp, fun i x zs hx hz => ?_⟩
  rw [List.getElem?_map] at hx hz
  cases ho : O[i]? with
  | none => rw [ho] at hx; cases hx
  | some q =>
    rw [ho] at hx hz
    simp only [Option.map_some, Option.some.injEq] at hx hz
    subst hx hz
    exact ⟨_, he q (List.mem_of_getElem? ho)⟩

theorem St.m_read (h : St w0 w size M R T M' R' A q A' q' k Z) (hk : k ≤ 900) : Calls Tryd.prog 19 #[.pointer (some ⟨R, 0, none⟩)] w fun e w' =>
    ∃ (ov : Value) (O : List RecL), e = .returned ov ∧ O.length ≤ k ∧ Outs w' ov O.length (O.map cutv) (aRead q).1 ∧ (O.map (·.bb)).Nodup ∧ (∀ x ∈ O, RowAt w' 5 1 (cutv x) x.n (bytesV x.bytes)) ∧ (∀ x ∈ O, ov.ownBlock ≠ some x.bb) ∧
      St w0 w' size M R T M' R' A (aRead q).2 A' q' k (ov.ownBlock.toList ++ O.map (·.bb)) := by
  obtain ⟨v, L, rv, Q, E, clock, v', L', lv', Q', h⟩ := h.ex
  have hl := h.lens
  refine (read_any h.m (by omega)).mono ?_
  rintro e w' ⟨rv1, Q1, ov, O, he, k1, kr, ko, k2, k3, kO, knd, kov, k6⟩
  rw [h.aq] at k2 ko
  have hOl : O.length ≤ k := by
    have h1 : O.length = (aRead q).1.length := by simpa using congrArg List.length ko
    have h2 := aRead_len q
    have h3 := h.len
    omega
  obtain ⟨b, kz⟩ := h.go1 k1 h.am k2 (k1 := k) (by omega) (by omega) (by omega) k6
  refine ⟨ov, O, he, hOl, Outs.of kr ko fun x hx => (kO x hx).1, knd, fun x hx => (kO x hx).1, fun x hx => ?_, ⟨_, _, _, _, _, _, _, _, _, _, { b with sep := { b.sep with z := fun z hz => ?_, z0 := fun z hz => ?_ } }⟩⟩
  · obtain ⟨cur, fr, hb⟩ := row_blk (kO x hx).1
    exact own_ne kr hb (by decide)
  · rcases List.mem_append.1 hz with hz | hz
    · rw [Option.mem_toList] at hz
      have h1 := kov z hz
      refine ⟨kr.lt z hz, ?_, fun hm => ?_⟩
      · rcases kr.2 with ⟨h0, _⟩ | ⟨g, off, cap, cur, h0, hg, _⟩
        · rw [h0] at hz; cases hz
        · have : g = z := by rw [h0] at hz; simpa [Value.ownBlock] using hz
          subst this
          exact no36 k1 hg
      · have := h.sep.lb z hm; omega
    · obtain ⟨x, hx, rfl⟩ := List.mem_map.1 hz
      have h1 := kO x hx
      obtain ⟨cur, fr, hb⟩ := row_blk h1.1
      exact ⟨lt_of_blk hb, h1.2.1, h.sep.ab _ h1.2.2⟩
  · rcases List.mem_append.1 hz with hz | hz
    · rw [Option.mem_toList] at hz
      exact Nat.le_trans h.chg.size (kov z hz)
    · obtain ⟨x, hx, rfl⟩ := List.mem_map.1 hz
      exact h.sep.a _ (kO x hx).2.2

theorem St.r_read (h : St w0 w size M R T M' R' A q A' q' k Z) (hk : k ≤ 900) : Calls Tryd.prog 20 #[.pointer (some ⟨R', 0, none⟩)] w fun e w' =>
    ∃ (ov : Value) (O : List RecL), e = .returned ov ∧ Outs w' ov O.length (O.map RecL.bval) (aRead q').1 ∧
      St w0 w' size M R T M' R' A q A' (aRead q').2 k Z ∧ KeptZ Z w w' := by
  obtain ⟨v, L, rv, Q, E, clock, v', L', lv', Q', h⟩ := h.ex
  have hl := h.lens
  refine (rread_any h.r (by omega)).mono ?_
  rintro e w' ⟨rv1, Q1, ov, O, he, k1, kr, ko, k2, k3, kO, k6⟩
  rw [h.aq'] at k2 ko
  obtain ⟨b, kz⟩ := h.go2 k1 h.am' k2 (k1 := k) (by omega) (by omega) (by omega) k6
  exact ⟨ov, O, he, Outs.of kr ko fun x hx => (kO x hx).2, ⟨_, _, _, _, _, _, _, _, _, _, b⟩, kz⟩
end

theorem KeptZ.cell {Z : List Nat} {w w' : World} (h : KeptZ Z w w') {p : Addr} {u : Option Value} (hp : p.block ∈ Z) (hc : w.cell? p = u) : w'.cell? p = u :=
  (World.cell?_of_block (h _ hp)).trans hc
theorem KeptZ.row {Z : List Nat} {w w' : World} (h : KeptZ Z w w') {e size n : Nat} {v : Value} {xs : List Value} (hr : RowAt w e size v n xs) (hv : ∀ g, v.ownBlock = some g → g ∈ Z) : RowAt w' e size v n xs :=
  hr.keep fun g hg => h g (hv g hg)
end Go.Proofs.YtliikmmcbbmppaaDoor
