/- Set in a memory that has a ring; Output of the program's ring. -/
import Derived.Test.YtliikmmcbbmppaaDoorEnd3
namespace Go.Proofs.YtliikmmcbbmppaaDoor
open Go.RowKit Go.ChangeMaps

theorem Upd.trans {a b c : World} {F G H : List Nat} (h : Upd a b F G) (k : Upd b c G H) : Upd a c F H :=
  ⟨h.1.trans k.1 h.2, fun x hx => by
    rcases k.2 x hx with h1 | h1
    · exact h.2 x h1
    · exact .inr (Nat.le_trans h.1.size h1)⟩
theorem Src.chg {w w' : World} {sp : Option Addr} {m : Nat} {zs : List Int} {S : List Nat} (h : Src w sp m zs) (hc : Chg S w w') (hn : ∀ ad, sp = some ad → ad.block ∉ S) : Src w' sp m zs :=
  ⟨h.len, fun ad hsp j u hu => by
    have h1 := h.cell ad hsp j u hu
    have hb : (ad.add j).block = ad.block := by unfold Addr.add; split <;> simp_all
    rw [hc.cell (World.block_lt_of_cell? _ _ h1) (by rw [hb]; exact hn ad hsp)]
    exact h1, h.none⟩

theorem amSet_len (A : AM) (id : Int) (zs : List Int) (j : Nat) : ((amSet A id zs).2[j]?).map (fun r => r.2.length) = (A[j]?).map (fun r => r.2.length) := by
  unfold amSet
  split
  · split
    · rename_i r hr
      split
      · rename_i hle
        rw [List.getElem?_set]
        split
        · rename_i hij
          subst hij
          have := (List.getElem?_eq_some_iff.1 hr).1
          rw [hr, if_pos this]
          simp only [Option.map_some, Option.some.injEq, List.length_append, List.length_drop]
          omega
        · rfl
      · rfl
    · rfl
  · rfl
theorem amSet_length (A : AM) (id : Int) (zs : List Int) : (amSet A id zs).2.length = A.length := by
  unfold amSet
  repeat' split
  all_goals simp

/-- A ring lies beside its memory. -/
theorem ring_apart {w : World} {M R T : Nat} {v : Value} {L : List RegL} {size : Int} {rv : Value} {Q : List RecL} {E : List Ent} {clock : Nat} (h : AllM w M R T v L size rv Q E clock) : ∀ x ∈ fpRing R T rv Q, x ∉ fpM M v L := by
  intro x hx hm
  have hk : x ∈ L.map (·.bb) ∨ ∃ cs e fr, w.heap[x]? = some (.cells cs e fr) ∧ (e = 60 ∨ e = 82 ∨ e = 87) := by
    simp only [fpM, List.mem_cons, List.mem_append, List.mem_map, Option.mem_toList] at hm
    rcases hm with rfl | hm | ⟨r, hr, rfl⟩ | ⟨r, hr, rfl⟩
    · exact .inr ⟨_, _, _, h.mem.root, .inl rfl⟩
    · obtain ⟨cs, fr, hh⟩ := row_cells h.mem.row hm
      exact .inr ⟨_, _, _, hh, .inr (.inl rfl)⟩
    · exact .inr ⟨_, _, _, (h.mem.reg r hr).1, .inr (.inr rfl)⟩
    · exact .inl (List.mem_map.2 ⟨r, hr, rfl⟩)
  obtain ⟨cs0, e0, fr0, hh0, he0⟩ := h.mem.kind hm
  rcases h.ring.kind hx with rfl | ⟨cs', e', fr', hh', he'⟩
  · exact map_no_cells h.ring.tab hh0 rfl
  · rcases hk with hk | ⟨cs, e, fr, hh, he⟩
    · rcases he' with rfl | rfl | rfl | ⟨rfl, q, hq, hs, rfl⟩
      all_goals try exact h.sep q hq hs hk
      all_goals
        obtain ⟨r, hr, rfl⟩ := List.mem_map.1 hk
        exact own_ne (h.mem.reg r hr).2.1 hh' (by decide) rfl
    · have := (hh.symm.trans hh')
      simp at this
      obtain ⟨_, rfl, _⟩ := this
      rcases he with rfl | rfl | rfl <;> rcases he' with e | e | e | ⟨e, _⟩ <;> cases e

def SetAllPost (w : World) (M R T : Nat) (v : Value) (L : List RegL) (size : Int) (rv : Value) (Q : List RecL) (E : List Ent) (clock : Nat) (id : Int) (zs : List Int) (e : Ending) (w' : World) : Prop :=
  ∃ L', e = .returned (.bool (amSet (absM L) id zs).1) ∧ AllM w' M R T v L' size rv Q E clock ∧ absM L' = (amSet (absM L) id zs).2 ∧ L'.length = L.length ∧ Upd w w' (fpAll M R T v L rv Q) (fpAll M R T v L' rv Q)

theorem setall_any {w : World} {M R T : Nat} {v : Value} {L : List RegL} {size : Int} {rv : Value} {Q : List RecL} {E : List Ent} {clock : Nat} (h : AllM w M R T v L size rv Q E clock) (id : Int) (sp : Option Addr) (m c : Nat) (zs : List Int) (hs : Src w sp m zs) :
    Calls Tryd.prog 22 #[.pointer (some ⟨M, 0, none⟩), .int .i64 id, .int .i64 0, .slice sp m c] w (SetAllPost w M R T v L size rv Q E clock id zs) := by
  refine (set_any h.mem id sp m c zs hs fun r hr => by have := h.lens r hr; omega).mono ?_
  rintro e w' ⟨L', rfl, hm, ha, hblk, hbb, hc⟩
  have hlen : ∀ j : Nat, (L'[j]?).map (fun r => r.bytes.length) = (L[j]?).map (fun r => r.bytes.length) := by
    intro j
    have := amSet_len (absM L) id zs j
    rw [← ha] at this
    simpa [absM, Option.map_map, Function.comp_def] using this
  have hl : L'.length = L.length := by have := congrArg List.length hblk; simpa using this
  refine ⟨L', rfl, { h with mem := hm, ring := h.ring.chg hc (ring_apart h), tie := fun q hq hs => ?_, sep := fun q hq hs => ?_, lens := fun r hr => ?_, idle := fun q hq => ?_ }, ha, hl, ?_, ?_⟩
  · obtain ⟨h1, r, h2, h3⟩ := h.tie q hq hs
    have := hlen (q.id - 1)
    rw [h2] at this
    obtain ⟨r', h4, h5⟩ := Option.map_eq_some_iff.1 this
    exact ⟨h1, r', h4, by rw [h5]; exact h3⟩
  · rw [hbb]; exact h.sep q hq hs
  · obtain ⟨j, hj⟩ := List.getElem?_of_mem hr
    have := hlen j
    rw [hj] at this
    obtain ⟨r', h4, h5⟩ := Option.map_eq_some_iff.1 this.symm
    have := h.lens r' (List.mem_of_getElem? h4)
    dsimp only at h5
    omega
  · rw [hl]; exact h.idle q hq
  · exact hc.mono fun x hx => .inl (List.mem_append_left _ hx)
  · intro x hx
    left
    simpa [fpAll, fpM, hblk, hbb] using hx

def OutPost (w : World) (M R T : Nat) (v : Value) (L : List RegL) (size : Int) (rv : Value) (Q : List RecL) (zs : List Int) (e : Ending) (w' : World) : Prop :=
  ∃ v' L' rv' Q' E' clock', e = .returned (.int .i64 (aOutput size (absM L) (Q.map RecL.abs) zs).1) ∧ AllM w' M R T v' L' size rv' Q' E' clock' ∧ absM L' = (aOutput size (absM L) (Q.map RecL.abs) zs).2.1 ∧
    Q'.map RecL.abs = (aOutput size (absM L) (Q.map RecL.abs) zs).2.2 ∧ L'.length ≤ L.length + 1 ∧ Q'.length ≤ Q.length + 1 ∧ Upd w w' (fpAll M R T v L rv Q) (fpAll M R T v' L' rv' Q')

set_option maxRecDepth 100000 in
set_option maxHeartbeats 1000000 in
theorem output_any {w : World} {M R T : Nat} {v : Value} {L : List RegL} {size : Int} {rv : Value} {Q : List RecL} {E : List Ent} {clock : Nat} (h : AllM w M R T v L size rv Q E clock) (hL : L.length ≤ 1000) (hQ : Q.length ≤ 1000)
    (sp : Option Addr) (m c : Nat) (zs : List Int) (hs : Src w sp m zs) (hsp : ∀ ad, sp = some ad → ad.block ∉ fpAll M R T v L rv Q ∧ ad.block < w.heap.size) :
    Calls Tryd.prog 16 #[.pointer (some ⟨R, 0, none⟩), .slice sp m c] w (OutPost w M R T v L size rv Q zs) := by
  have hres := reserve_any h hL hQ (m : Int)
  have hml := hs.len
  unfold OutPost aOutput
  rw [hml]
  unfold ResPost at hres
  rcases hse : aReserve size (absM L) (Q.map RecL.abs) (m : Int) with ⟨⟨rid, code⟩, A1, q1⟩
  rw [hse] at hres
  simp only at hres ⊢
  have HH := hide hres
  have HS := hide hs
  have HSP := hide hsp
  clear hres h hs hsp hse hml
  by_cases hcode : code = 0
  · subst hcode
    simp only [ne_eq, not_true_eq_false, if_false]
    go_enter Tryd.func16, Tryd.ntmps16
    go_wp2_with (first
      | (go_at_call 10; refine (by exact HH.out : Calls Tryd.prog 10 _ _ _).mono ?_; rintro e w1 ⟨v1, L1, rv1, Q1, E1, clock1, rfl, hA1, ha1, hq1, hl1, hl2, hU1⟩; have hc2 : w1.cell? ⟨R, 2, none⟩ = some (.pointer (some ⟨M, 0, none⟩)) := (by rw [cell_of_row w1 R 2 _ _ _ hA1.ring.root]; rfl); have HA1 := hide hA1; have HU1 := hide hU1; have HS1 := hide (HS.out.chg hU1.1 (fun ad had => (HSP.out ad had).1)); clear hA1 hU1)
      | (go_at_call 22; refine (setall_any (by exact HA1.out) rid sp m c zs (by exact HS1.out)).mono ?_; rintro e w2 ⟨L2, rfl, hA2, ha2, hl3, hU2⟩; have HA2 := hide hA2; have HU2 := hide hU2; clear hA2 hU2)
      | (go_at_call 12; refine (submit_any (by exact HA2.out) rid).mono ?_; rintro e w3 ⟨L3, Q3, E3, rfl, hA3, ha3, hq3, hl4, hl5, hU3⟩))
    go_ret
    rw [ha2, hq1] at ha3 hq3
    rw [ha1] at ha3 hq3
    exact ⟨v1, L3, rv1, Q3, E3, clock1, rfl, hA3, ha3, hq3, by omega, by omega, (HU1.out.trans HU2.out).trans hU3⟩
  · simp only [ne_eq, hcode, not_false_eq_true, if_true]
    go_enter Tryd.func16, Tryd.ntmps16
    go_wp2_with (first
      | (go_at_call 10; refine (by exact HH.out : Calls Tryd.prog 10 _ _ _).mono ?_; rintro e w1 ⟨v1, L1, rv1, Q1, E1, clock1, rfl, hA1, ha1, hq1, hl1, hl2, hU1⟩; have HA1 := hide hA1; have HU1 := hide hU1; clear hA1 hU1))
    go_ret
    exact ⟨v1, L1, rv1, Q1, E1, clock1, rfl, HA1.out, ha1, hq1, hl1, hl2, HU1.out⟩
end Go.Proofs.YtliikmmcbbmppaaDoor
