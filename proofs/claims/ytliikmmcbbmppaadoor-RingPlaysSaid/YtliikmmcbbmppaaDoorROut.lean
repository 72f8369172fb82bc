/- Submit, Discard, Output of the reference's ring; Set in its memory. -/
import Derived.Test.YtliikmmcbbmppaaDoorREnd2
namespace Go.Proofs.YtliikmmcbbmppaaDoor
open Go.RowKit Go.ChangeMaps

set_option maxHeartbeats 400000 in
theorem rsubmit_any {w : World} {M R : Nat} {v lv : Value} {L : List RegL} {size : Int} {Q : List RecL} (h : AllR w M R v L size lv Q) (hQ : Q.length ≤ 1000) (id : Int) :
    Calls Tryd.prog 13 #[.pointer (some ⟨R, 0, none⟩), .int .i64 id] w (REndPost w M R v L size lv Q id 1) := by
  have hh := hide (rends_any h hQ id 1 (by decide))
  clear h
  go_enter Tryd.func13, Tryd.ntmps13
  go_wp2_with (first | (go_at_call 36; refine (by exact hh.out : Calls Tryd.prog 36 _ _ _).mono ?_; rintro e w' hp; have HP := hide hp; obtain ⟨L', Q', rfl, _⟩ := hp))
  go_ret
  exact HP.out
set_option maxHeartbeats 400000 in
theorem rdiscard_any {w : World} {M R : Nat} {v lv : Value} {L : List RegL} {size : Int} {Q : List RecL} (h : AllR w M R v L size lv Q) (hQ : Q.length ≤ 1000) (id : Int) :
    Calls Tryd.prog 15 #[.pointer (some ⟨R, 0, none⟩), .int .i64 id] w (REndPost w M R v L size lv Q id 2) := by
  have hh := hide (rends_any h hQ id 2 (by decide))
  clear h
  go_enter Tryd.func15, Tryd.ntmps15
  go_wp2_with (first | (go_at_call 36; refine (by exact hh.out : Calls Tryd.prog 36 _ _ _).mono ?_; rintro e w' hp; have HP := hide hp; obtain ⟨L', Q', rfl, _⟩ := hp))
  go_ret
  exact HP.out

def RSetAllPost (w : World) (M R : Nat) (v : Value) (L : List RegL) (size : Int) (lv : Value) (Q : List RecL) (id : Int) (zs : List Int) (e : Ending) (w' : World) : Prop :=
  ∃ L', e = .returned (.bool (amSet (absM L) id zs).1) ∧ AllR w' M R v L' size lv Q ∧ absM L' = (amSet (absM L) id zs).2 ∧ L'.length = L.length ∧ Upd w w' (fpAllR M R v L lv Q) (fpAllR M R v L' lv Q)

theorem rsetall_any {w : World} {M R : Nat} {v lv : Value} {L : List RegL} {size : Int} {Q : List RecL} (h : AllR w M R v L size lv Q) (id : Int) (sp : Option Addr) (m c : Nat) (zs : List Int) (hs : Src w sp m zs) :
    Calls Tryd.prog 23 #[.pointer (some ⟨M, 0, none⟩), .int .i64 id, .int .i64 0, .slice sp m c] w (RSetAllPost w M R v L size lv Q id zs) := by
  refine (rset_any h.mem id sp m c zs hs fun r hr => by have := h.lens r hr; omega).mono ?_
  rintro e w' ⟨L', rfl, hm, ha, hblk, hbb, hc⟩
  have hlen : ∀ j : Nat, (L'[j]?).map (fun r => r.bytes.length) = (L[j]?).map (fun r => r.bytes.length) := by
    intro j
    have := amSet_len (absM L) id zs j
    rw [← ha] at this
    simpa [absM, Option.map_map, Function.comp_def] using this
  have hl : L'.length = L.length := by have := congrArg List.length hblk; simpa using this
  refine ⟨L', rfl, { h with mem := hm, ring := h.ring.chg hc (rring_apart h), tie := fun q hq hs => ?_, sep := fun q hq hs => ?_, lens := fun r hr => ?_, idle := fun q hq => ?_ }, ha, hl, ?_, ?_⟩
  · obtain ⟨h1, r, h2, h3⟩ := h.tie q hq hs
    have := hlen (q.id - 1)
    rw [h2] at this
    obtain ⟨r', h4, h5⟩ := Option.map_eq_some_iff.1 this
    exact ⟨h1, r', h4, by rw [h5]; exact h3⟩
  · rw [hbb]; exact h.sep q hq hs
  · obtain ⟨j, hj⟩ := List.getElem?_of_mem hr
    have := hlen j
    rw [hj] at this
    obtain ⟨r', h4, h5⟩ := Option.map_eq_some_iff.1 this.symm
    have := h.lens r' (List.mem_of_getElem? h4)
    dsimp only at h5
    omega
  · rw [hl]; exact h.idle q hq
  · exact hc.mono fun x hx => .inl (List.mem_append_left _ hx)
  · intro x hx
    left
    simpa [fpAllR, fpM, hblk, hbb] using hx

def ROutPost (w : World) (M R : Nat) (v : Value) (L : List RegL) (size : Int) (lv : Value) (Q : List RecL) (zs : List Int) (e : Ending) (w' : World) : Prop :=
  ∃ v' L' lv' Q', e = .returned (.int .i64 (aOutput size (absM L) (Q.map RecL.abs) zs).1) ∧ AllR w' M R v' L' size lv' Q' ∧ absM L' = (aOutput size (absM L) (Q.map RecL.abs) zs).2.1 ∧
    Q'.map RecL.abs = (aOutput size (absM L) (Q.map RecL.abs) zs).2.2 ∧ L'.length ≤ L.length + 1 ∧ Q'.length ≤ Q.length + 1 ∧ Upd w w' (fpAllR M R v L lv Q) (fpAllR M R v' L' lv' Q')

theorem Src.chg2 {w w' : World} {sp : Option Addr} {m : Nat} {zs : List Int} {S : List Nat} (h : Src w sp m zs) (hc : Chg S w w') (hn : ∀ ad, sp = some ad → 0 < m → ad.block ∉ S) : Src w' sp m zs :=
  ⟨h.len, fun ad hsp j u hu => by
    have h1 := h.cell ad hsp j u hu
    have hb : (ad.add j).block = ad.block := by unfold Addr.add; split <;> simp_all
    have hm : 0 < m := by
      have := (List.getElem?_eq_some_iff.1 hu).1
      rw [bytesV_len, h.len] at this
      omega
    rw [hc.cell (World.block_lt_of_cell? _ _ h1) (by rw [hb]; exact hn ad hsp hm)]
    exact h1, h.none⟩

set_option maxRecDepth 100000 in
set_option maxHeartbeats 1000000 in
theorem routput_any {w : World} {M R : Nat} {v lv : Value} {L : List RegL} {size : Int} {Q : List RecL} (h : AllR w M R v L size lv Q) (hL : L.length ≤ 900) (hQ : Q.length ≤ 900)
    (sp : Option Addr) (m c : Nat) (zs : List Int) (hs : Src w sp m zs) (hsp : ∀ ad, sp = some ad → 0 < m → ad.block ∉ fpAllR M R v L lv Q) :
    Calls Tryd.prog 17 #[.pointer (some ⟨R, 0, none⟩), .slice sp m c] w (ROutPost w M R v L size lv Q zs) := by
  have hres := rreserve_any h (by omega) (by omega) (m : Int)
  have hml := hs.len
  unfold ROutPost aOutput
  rw [hml]
  unfold RResPost at hres
  rcases hse : aReserve size (absM L) (Q.map RecL.abs) (m : Int) with ⟨⟨rid, code⟩, A1, q1⟩
  rw [hse] at hres
  simp only at hres ⊢
  have HH := hide hres
  have HS := hide hs
  have HSP := hide hsp
  clear hres h hs hsp hse hml
  by_cases hcode : code = 0
  · subst hcode
    simp only [ne_eq, not_true_eq_false, if_false]
    go_enter Tryd.func17, Tryd.ntmps17
    go_wp2_with (first
      | (go_at_call 11; refine (by exact HH.out : Calls Tryd.prog 11 _ _ _).mono ?_; rintro e w1 ⟨v1, L1, lv1, Q1, rfl, hA1, ha1, hq1, hl1, hl2, hU1⟩; have hc2 : w1.cell? ⟨R, 1, none⟩ = some (.pointer (some ⟨M, 0, none⟩)) := (by rw [cell_of_row w1 R 1 _ _ _ hA1.ring.root]; rfl); have HA1 := hide hA1; have HU1 := hide hU1; have HS1 := hide (HS.out.chg2 hU1.1 (fun ad had => HSP.out ad had)); clear hA1 hU1)
      | (go_at_call 23; refine (rsetall_any (by exact HA1.out) rid sp m c zs (by exact HS1.out)).mono ?_; rintro e w2 ⟨L2, rfl, hA2, ha2, hl3, hU2⟩; have HA2 := hide hA2; have HU2 := hide hU2; clear hA2 hU2)
      | (go_at_call 13; refine (rsubmit_any (by exact HA2.out) (by omega) rid).mono ?_; rintro e w3 ⟨L3, Q3, rfl, hA3, ha3, hq3, hl4, hl5, hU3⟩))
    go_ret
    rw [ha2, hq1] at ha3 hq3
    rw [ha1] at ha3 hq3
    exact ⟨v1, L3, lv1, Q3, rfl, hA3, ha3, hq3, by omega, by omega, (HU1.out.trans HU2.out).trans hU3⟩
  · simp only [ne_eq, hcode, not_false_eq_true, if_true]
    go_enter Tryd.func17, Tryd.ntmps17
    go_wp2_with (first
      | (go_at_call 11; refine (by exact HH.out : Calls Tryd.prog 11 _ _ _).mono ?_; rintro e w1 ⟨v1, L1, lv1, Q1, rfl, hA1, ha1, hq1, hl1, hl2, hU1⟩; have HA1 := hide hA1; have HU1 := hide hU1; clear hA1 hU1))
    go_ret
    exact ⟨v1, L1, lv1, Q1, rfl, HA1.out, ha1, hq1, hl1, hl2, HU1.out⟩
end Go.Proofs.YtliikmmcbbmppaaDoor
