/- For every size and every row of steps the call of RingPlays returns true, and its arguments read behind it as before: no condition. (The variable barbicanref8.gone, which the row leaves open, is never read.) -/
import Derived.Test.YtliikmmcbbmppaaDoorMall
import Derived.ProofKit
import Derived.Deep.Slices
namespace Go.Proofs.YtliikmmcbbmppaaDoor
open Go.ChangeShapes Go.WideShapes Go.ChangeAt Go.RowKit Go.Deep

theorem Tryd.own : ownKnob Tryd.prog.godebug = none := by kernel_rfl
theorem Tryd.laidOut : laidOutB Tryd.prog = true := by kernel_rfl
theorem Tryd.cells38 : Tryd.prog.cellsOf 38 = 3 := by kernel_rfl
theorem Tryd.cells36 : Tryd.prog.cellsOf 36 = 1 := by kernel_rfl
theorem Tryd.cells3 : Tryd.prog.cellsOf 3 = 1 := by kernel_rfl
theorem Tryd.cells5 : Tryd.prog.cellsOf 5 = 1 := by kernel_rfl

section
variable {H : Type} {enc : TypeId × Value → H} {W : World}

set_option maxRecDepth 100000 in
/-- One element, opened. -/
theorem open_step {n : Nat} {a : Addr} {cs : List Value} {x : DataW H × List MemPlace} (hc : W.cells? 0 a 3 = some cs) (h : DataW.trod enc Tryd.prog W 0 (fun _ => true) true n 38 cs = some x) :
    ∃ s : StepI, W.cell? a = some (.int .i64 s.what) ∧ W.cell? (a.add 1) = some (.int .i64 s.n) ∧ W.cell? (a.add 2) = some s.bv ∧ Src W s.bp s.m s.zs ∧ (∀ ad, s.bp = some ad → 0 < s.m → ad.block < W.heap.size) ∧ s.m ≤ 9223372036854775807 := by
  obtain ⟨_, hlen, hcell⟩ := World.cells?_some hc
  obtain ⟨xs, k, hk, hxy, _, hxl, hf⟩ := DataW.trod_struct Tryd.underlying38 h
  match xs, hxl, cs, hlen with
  | [y0, y1, y2], _, [v0, v1, v2], _ =>
    have g0 := hf 0 _ rfl
    have g1 := hf 1 _ rfl
    have g2 := hf 2 _ rfl
    simp [Tryd.cells3, Tryd.cells36] at g0 g1 g2
    obtain ⟨i0, e0, _⟩ := DataW.trod_int Tryd.underlying3 g0
    obtain ⟨i1, e1, _⟩ := DataW.trod_int Tryd.underlying3 g1
    cases e0
    cases e1
    have c0 := hcell 0 (by omega)
    have c1 := hcell 1 (by omega)
    have c2 := hcell 2 (by omega)
    simp at c0 c1 c2
    rcases Go.ChangeShapes.open_ints Tryd.underlying36 Tryd.underlying5 Tryd.cells5 g2 with ⟨e2, _⟩ | ⟨b, len, cap, zs, e2, _, hl, hm, hz, _, hcl, _⟩
    · cases e2
      exact ⟨⟨i0, i1, none, 0, 0, []⟩, c0, c1, c2, ⟨rfl, fun ad h => by simp at h, fun _ => rfl⟩, fun ad h => by simp at h, by simp⟩
    · cases e2
      simp at hz
      refine ⟨⟨i0, i1, some b, len, cap, zs.take len⟩, c0, c1, c2, ⟨by simp; omega, fun ad had j u hu => ?_, fun h => by simp at h⟩, fun ad had hp => ?_, by simp only [maxLen] at hm; simp only; omega⟩
      · simp only [Option.some.injEq] at had
        subst had
        have hj : j < len := by
          have := (List.getElem?_eq_some_iff.1 hu).1
          rw [bytesV_len, List.length_take] at this
          omega
        rw [hcl j (by omega)]
        simp only [bytesV, List.getElem?_map, List.getElem?_take, hj, if_true] at hu
        rw [List.getElem?_eq_getElem (show j < zs.length by omega)] at hu
        simp only [Option.map_some, Option.some.injEq] at hu
        rw [← hu, List.getD, List.getElem?_eq_getElem (show j < zs.length by omega)]
        rfl
      · simp only [Option.some.injEq] at had
        subst had
        simp only at hp
        have := World.block_lt_of_cell? _ _ (hcl 0 (by omega))
        simpa [Addr.add] using this

/-- The row of steps, opened. -/
theorem open_steps {fuel : Nat} {ao : Option Addr} {len cap : Nat} {x : DataW H × List MemPlace} (h : DataW.trod enc Tryd.prog W 0 (fun _ => true) true fuel 22 [.slice ao len cap] = some x) :
    ∃ l : List StepI, l.length = len ∧ StepsIn W W.heap.size ao l ∧ len ≤ cap ∧ cap ≤ maxLen := by
  rcases open_slice Tryd.underlying22 h with ⟨e, _⟩ | ⟨a, len', cap', m, n, D, Pl, e, _, hl, hm, hmm, _, hx⟩
  · simp at e
    obtain ⟨rfl, rfl, rfl⟩ := e
    exact ⟨[], rfl, ⟨fun _ => rfl, (by simp), (by simp)⟩, Nat.le_refl _, Nat.zero_le _⟩
  · simp at e
    obtain ⟨rfl, rfl, rfl⟩ := e
    simp at hmm
    subst hmm
    by_cases h0 : len = 0
    · subst h0
      exact ⟨[], rfl, ⟨fun _ => rfl, (by simp), (by simp)⟩, hl, hm⟩
    have each : ∀ i, i < len → ∃ s : StepI, W.cell? (a.add (i * 3)) = some (.int .i64 s.what) ∧ W.cell? ((a.add (i * 3)).add 1) = some (.int .i64 s.n) ∧ W.cell? ((a.add (i * 3)).add 2) = some s.bv ∧ Src W s.bp s.m s.zs ∧ (∀ ad, s.bp = some ad → 0 < s.m → ad.block < W.heap.size) ∧ s.m ≤ 9223372036854775807 := by
      intro i hi
      obtain ⟨cs', h1, h2⟩ := hx i (by omega)
      rw [Tryd.cells38] at h1
      exact open_step h1 h2
    haveI : Inhabited StepI := ⟨⟨0, 0, none, 0, 0, []⟩⟩
    obtain ⟨f, hf⟩ := choose_lt each
    have hsp : a.spot = none := by
      have := World.cell?_spot (hf 0 (by omega)).1
      simpa [Addr.add] using this
    obtain ⟨g, off, sp⟩ := a
    simp only at hsp
    subst hsp
    refine ⟨(List.range len).map f, by simp, ⟨(by simp), fun ad had _ => ?_, fun s hs => ?_⟩, hl, hm⟩
    · simp only [Option.some.injEq] at had
      subst had
      refine ⟨g, off, rfl, ?_, fun j s hj => ?_⟩
      · have := World.block_lt_of_cell? _ _ (hf 0 (by omega)).1
        simpa [Addr.add] using this
      · rw [List.getElem?_map] at hj
        by_cases hjl : j < len
        · simp [List.getElem?_range hjl] at hj
          subst hj
          obtain ⟨a1, a2, a3, _⟩ := hf j hjl
          simp only [add_plain] at a1 a2 a3
          exact ⟨a1, a2, a3⟩
        · simp [List.getElem?_eq_none (show (List.range len).length ≤ j by simp; omega)] at hj
    · obtain ⟨j, hj, rfl⟩ := List.mem_map.1 hs
      obtain ⟨_, _, _, a4, a5, a6⟩ := hf j (by simpa using hj)
      exact ⟨a4, a5, a6⟩
end

set_option maxHeartbeats 1600000 in
set_option maxRecDepth 100000 in
theorem lifted (os : Os) (started : os.Started) (H : Type) (enc : TypeId × Value → H) :
    ReturnsInHanded {} Tryd.checked os 3 .any (Rows.ringPlaysSpec.pre6 enc Tryd.prog Tryd.f3 Rows.ringPlaysRow.domain false) (Rows.ringPlaysSpec.post enc Tryd.prog Tryd.f3 false true false false) := by
  refine returnsInHanded_of_change (C := Tryd.checked) Tryd.own started (by kernel_rfl) Tryd.func3
    (ChangeSpec.witness6 (enc := enc) (C := Tryd.checked) false ⟨#[], #[.int .i64 0, .slice none 0 0], []⟩ 8 (by kernel_rfl) (by kernel_rfl) (by kernel_rfl) (by kernel_rfl)) ?_
  intro W base args ds gs before hval0 hW hcnd _
  have hval : ∀ (j : Nat) t v, Tryd.f3.params[j]? = some t → args[j]? = some v → Value.okWide Tryd.prog W .any base t v := hval0
  have hW' := hW
  obtain ⟨p, q, hA0, hV, rfl, hfz, hnd⟩ := hW
  have hA : DataW.TrodAll enc Tryd.prog W 0 (fun _ => true) true Tryd.f3.params.toList args.toList ds p := hA0
  rw [Tryd.params3] at hA hval
  obtain ⟨v0, v1, d0, d1, p0, p1, rfl, rfl, rfl, h0, h1⟩ := trodAll_two hA
  obtain ⟨rfl, rfl⟩ := trodVars_none hV
  obtain ⟨size, rfl, rfl, rfl, wsize⟩ := open_int Tryd.underlying3 (hval 0 3 v0 rfl rfl) h0
  obtain ⟨a0, len, cap, rfl⟩ := okWide_slice Tryd.underlying22 (hval 1 22 v1 rfl rfl)
  have h1k := h1
  obtain ⟨fuel, hf⟩ := h1
  clear hA0 hval0
  simp only [List.append_nil, List.nil_append] at hW'
  obtain ⟨l, rfl, hs, hlc, hcm⟩ := open_steps hf
  have hlt : ∀ x ∈ p1, x.block < W.heap.size := fun x hx => by simpa using hW'.lt x hx
  refine (plays_any size hs cap hlc hcm).mono fun e W' ⟨he, hc⟩ => ?_
  subst he
  have bel : Below W.heap.size W W' := hc.below (by simp) (Nat.le_refl _)
  refine ⟨_, rfl, _, _, _, [], [] ++ p1, [], hW', ?_, ?_, rfl, bel.frame _, fun h => by cases h⟩
  · exact trodAll_mk1 (shut_bool Tryd.underlying4 true)
  · exact trodAll_mk2 (shut_int Tryd.underlying3 wsize) (Below.trod Tryd.laidOut (by kernel_rfl) (of_decide_eq_true (by kernel_rfl)) h1k bel hlt)

theorem ringPlays_holds : Rows.RingPlaysSaid :=
  OpenClaim.holds_of_wide 3 Tryd.f3 rfl rfl rfl rfl rfl rfl rfl ⟨rfl, rfl, rfl, rfl, rfl⟩ rfl rfl rfl rfl rfl (by kernel_rfl) Tryd.func3 (by kernel_rfl)
    (of_decide_eq_true (by kernel_rfl)) (by unfold Func.isWrapper; first | (rw [if_pos (by decide +kernel)]; kernel_rfl) | (rw [if_neg (by decide +kernel)]; exact ⟨rfl, rfl⟩))
    (fun os started H enc _ => lifted os started H enc)

#print axioms ringPlays_holds
end Go.Proofs.YtliikmmcbbmppaaDoor
