/- The steps as the argument holds them, and the test 'few'. -/
import Derived.Test.YtliikmmcbbmppaaDoorLs
namespace Go.Proofs.YtliikmmcbbmppaaDoor
open Go.RowKit Go.ChangeMaps

/-- One step of the row, as the argument holds it. -/
structure StepI where
  what : Int
  n : Int
  bp : Option Addr
  m : Nat
  c : Nat
  zs : List Int
def StepI.bv (s : StepI) : Value := .slice s.bp s.m s.c

structure StepsIn (w : World) (B : Nat) (ao : Option Addr) (l : List StepI) : Prop where
  nil : ao = none → l = []
  at' : ∀ ad, ao = some ad → l ≠ [] → ∃ g off, ad = ⟨g, off, none⟩ ∧ g < B ∧ ∀ j s, l[j]? = some s → w.cell? ⟨g, off + j * 3, none⟩ = some (.int .i64 s.what) ∧ w.cell? ⟨g, off + j * 3 + 1, none⟩ = some (.int .i64 s.n) ∧
    w.cell? ⟨g, off + j * 3 + 2, none⟩ = some s.bv
  src : ∀ s ∈ l, Src w s.bp s.m s.zs ∧ (∀ ad, s.bp = some ad → 0 < s.m → ad.block < B) ∧ s.m ≤ 9223372036854775807

def fewB (l : List StepI) : Bool := l.all (fun s => decide (s.m ≤ 4500)) && decide (l.length ≤ 60)

theorem StepsIn.at {w : World} {B : Nat} {ao : Option Addr} {l : List StepI} (h : StepsIn w B ao l) {j : Nat} {s : StepI} (hj : l[j]? = some s) :
    ∃ g off, ao = some ⟨g, off, none⟩ ∧ g < B ∧ w.cell? ⟨g, off + j * 3, none⟩ = some (.int .i64 s.what) ∧ w.cell? ⟨g, off + j * 3 + 1, none⟩ = some (.int .i64 s.n) ∧ w.cell? ⟨g, off + j * 3 + 2, none⟩ = some s.bv := by
  have hne : l ≠ [] := by rintro rfl; simp at hj
  cases ao with
  | none => exact absurd (h.nil rfl) hne
  | some ad =>
    obtain ⟨g, off, rfl, hg, hc⟩ := h.at' ad rfl hne
    exact ⟨g, off, rfl, hg, hc j s hj⟩

set_option maxRecDepth 100000 in
set_option maxHeartbeats 1000000 in
theorem few_any {w : World} {B : Nat} {ao : Option Addr} {l : List StepI} (h : StepsIn w B ao l) (cap : Nat) (hn : l.length ≤ cap) (hc : cap ≤ maxLen) :
    Calls Tryd.prog 5 #[.slice ao l.length cap] w fun e w' => e = .returned (.bool (fewB l)) ∧ w = w' := by
  have H := hide h
  clear h
  have hml : l.length ≤ 9223372036854775807 := by simp only [maxLen] at hc; omega
  go_enter Tryd.func5, Tryd.ntmps5
  go_wp2_with fail
  go_loopg [3] l.length (fun gk s3 wr => ∃ i : Nat, i ≤ l.length ∧ s3 = .int .i64 i ∧ gk = l.length - i ∧ w = wr ∧ ∀ j s, j < i → l[j]? = some s → s.m ≤ 4500)
  case atStart => exact ⟨0, Nat.zero_le _, rfl, rfl, rfl, fun j s hj => absurd hj (by omega)⟩
  case round =>
    obtain ⟨i, hil, rfl, rfl, rfl, hall⟩ := hrel
    have HA := hide hall
    clear hall
    by_cases hin : i < l.length
    · have hs : l[i]? = some l[i] := by simp [hin]
      obtain ⟨sm, hsm⟩ : ∃ sm, sm = l[i] := ⟨_, rfl⟩
      rw [← hsm] at hs
      obtain ⟨g, off, rfl, hg, hc1, hc2, hc3⟩ := H.out.at hs
      have hm63 := ((H.out.src sm (List.mem_of_getElem? hs)).2.2)
      obtain ⟨what, nn, bp, m, c, zs⟩ := sm
      simp only [StepI.bv] at hc3 hm63
      have HS := hide hs
      have hiz : (i : Int) < (l.length : Int) := by omega
      clear hs hsm hc1 hc2
      by_cases hbig : 4500 < m
      · have hbz : (4500 : Int) < (m : Int) := by omega
        have hf : fewB l = false := by
          unfold fewB
          rw [Bool.and_eq_false_iff]
          left
          rw [List.all_eq_false]
          exact ⟨_, List.mem_of_getElem? HS.out, by simp; omega⟩
        go_wp2_with fail
        go_ret
        exact ⟨by simp [hf], rfl⟩
      · have hbz : ¬ ((4500 : Int) < (m : Int)) := by omega
        go_wp2_with fail
        go_roundg (l.length - (i + 1))
        case measure => omega
        case rel =>
          refine ⟨i + 1, by omega, by simp, rfl, rfl, fun j s hj he => ?_⟩
          by_cases hji : j = i
          · subst hji
            rw [HS.out] at he
            cases he
            exact Nat.le_of_not_lt hbig
          · exact HA.out j s (by omega) he
    · obtain rfl : i = l.length := by omega
      have hiz : ¬ ((l.length : Int) < (l.length : Int)) := by omega
      have hf : fewB l = decide (l.length ≤ 60) := by
        unfold fewB
        have : l.all (fun s => decide (s.m ≤ 4500)) = true := by
          rw [List.all_eq_true]
          intro s hs
          obtain ⟨j, hj⟩ := List.getElem?_of_mem hs
          simpa using HA.out j s (List.getElem?_eq_some_iff.1 hj).1 hj
        rw [this, Bool.true_and]
      clear HA
      go_wp2_with fail
      go_ret
      refine ⟨?_, rfl⟩
      by_cases h60 : l.length ≤ 60
      · have : (l.length : Int) ≤ 60 := by omega
        simp [hf, h60, this]
      · have : ¬ (l.length : Int) ≤ 60 := by omega
        simp [hf, h60, this]
end Go.Proofs.YtliikmmcbbmppaaDoor
