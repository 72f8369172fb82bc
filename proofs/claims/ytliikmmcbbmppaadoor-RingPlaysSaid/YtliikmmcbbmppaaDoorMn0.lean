/- What the main walk wants: a copy of bytes that came in, two readings that tell the same, the start. -/
import Derived.Test.YtliikmmcbbmppaaDoorSt
namespace Go.Proofs.YtliikmmcbbmppaaDoor
open Go.RowKit Go.ChangeMaps

theorem oneCell_b (zs : List Int) : ∀ u ∈ bytesV zs, u.oneCell' = true := by
  intro u hu
  obtain ⟨z, _, rfl⟩ := List.mem_map.1 hu
  rfl

/-- 'append([]byte(nil), x...)': a copy in a block of its own. -/
structure Copy (w w' : World) (b : Value) (m : Nat) (zs : List Int) : Prop where
  row : RowAt w' 5 1 b m (bytesV zs)
  chg : Chg [] w w'
  new : ∀ g, b.ownBlock = some g → g = w.heap.size ∧ g < w'.heap.size

theorem run_copy_src (ty : TypeId) {w : World} {sp : Option Addr} {m : Nat} {zs : List Int} (hs : Src w sp m zs) (c : Nat) (hm : m ≤ 100000) :
    ∃ b w', (Builtin.append_ #[36, 36] ty #[.slice none 0 0, .slice sp m c]).run Tryd.prog w = .ok b w' ∧ Copy w w' b m zs := by
  obtain ⟨i0, hi, hz0, hz1, hz2⟩ := info_parts Tryd.info5
  by_cases h0 : m = 0
  · subst h0
    obtain rfl : zs = [] := List.eq_nil_of_length_eq_zero hs.len
    refine ⟨.slice none 0 0, w, ?_, RowAt.nil _ _ _, Chg.refl _ _, fun g hg => by cases hg⟩
    cases sp with
    | none => simp [Builtin.append_, run_underlying Tryd.underlying36, sizeOf, typeInfo, hi, Builtin.lenOf, Builtin.firstCells]
    | some ad => simp [Builtin.append_, run_underlying Tryd.underlying36, sizeOf, typeInfo, hi, Builtin.lenOf, Builtin.firstCells, loadCells, loadCellsFrom, Result.andThen]
  · cases sp with
    | none => exact absurd (hs.none rfl) h0
    | some ad =>
      obtain ⟨g, off, cap, w', hr, h2, h3, h4, h5⟩ := run_append_rowat (P := Tryd.prog) w 36 ty 5 i0 (.int .u8 0) 1 1 Tryd.underlying36 hi hz0 hz1 hz2 rfl (.slice none 0 0) 0 [] (RowAt.nil _ _ _) ad m c (bytesV zs)
        (by rw [bytesV_len, hs.len]; simp) (hs.cell ad rfl) (oneCell_b zs) (by omega) (by unfold maxLen; omega) (by omega)
      rw [Nat.zero_add] at hr h2
      have hg : g = w.heap.size := h4.resolve_left (by simp [Value.ownBlock])
      exact ⟨_, w', hr, by simpa using h2, by simpa [Value.ownBlock] using h3, fun g' hg' => by simp [Value.ownBlock] at hg'; omega⟩

theorem wp_copy_src {o : Oper} {a : Act} {K : Act → World → Prop} {Q : Exit → Act → World → Prop} {w : World} (x : Operand)
    (ho : o.op = .call { callee := .builtin .append, args := #[.const (.slice none 0 0), x], argTypes := #[36, 36] })
    (sp : Option Addr) (m c : Nat) (zs : List Int) (hx : a.eval x = .slice sp m c) (hs : Src w sp m zs) (hm : m ≤ 100000)
    (h : ∀ b w', Copy w w' b m zs → K (a.put o.dst b) w') : o.wp Tryd.prog a w K Q := by
  obtain ⟨b, w', hr, hc⟩ := run_copy_src o.type hs c hm
  have he : a.eval (.const (.slice none 0 0)) = .slice none 0 0 := rfl
  unfold Oper.wp execOp
  simp only [ho, resolve, invoke, builtin, Sem.run_bind, Sem.run_pure, Result.andThen_ok, List.map_toArray, List.map_cons, List.map_nil, he, hx, hr]
  exact h b w' hc

theorem wpList_copy_src {ops : Array Oper} {rest : List Oper} {o : Oper} {a : Act} {Q : Exit → Act → World → Prop} {w : World} (hgd : o.guard = none) (x : Operand)
    (ho : o.op = .call { callee := .builtin .append, args := #[.const (.slice none 0 0), x], argTypes := #[36, 36] })
    (sp : Option Addr) (m c : Nat) (zs : List Int) (hx : a.eval x = .slice sp m c) (hs : Src w sp m zs) (hm : m ≤ 100000)
    (h : ∀ b w', Copy w w' b m zs → wpList Tryd.prog ops Q rest (a.put o.dst b) w') : wpList Tryd.prog ops Q (o :: rest) a w :=
  wpList_plain hgd fun _ hK => wp_copy_src x ho sp m c zs hx hs hm fun b w' hc => hK _ _ (h b w' hc)

theorem Copy.src {w w' : World} {b : Value} {m : Nat} {zs : List Int} (h : Copy w w' b m zs) : ∃ sp c, b = .slice sp m c ∧ Src w' sp m zs ∧ ∀ ad, sp = some ad → ad.block = w.heap.size := by
  have hl : zs.length = m := by simpa [bytesV_len] using h.row.1
  obtain ⟨ao, cap, rfl, h1, h2, h3⟩ := h.row.shape
  refine ⟨ao, cap, rfl, ⟨hl, fun ad had j u hu => ?_, h3⟩, fun ad had => ?_⟩
  · subst had
    obtain ⟨g, off, rfl⟩ : ∃ g off, ad = ⟨g, off, none⟩ := by
      rcases h.row.2 with ⟨h0, _⟩ | ⟨g, off, cap', cur, h0, _⟩
      · cases h0
      · exact ⟨g, off, by cases h0; rfl⟩
    have hadd : (⟨g, off, none⟩ : Addr).add j = ⟨g, off + j, none⟩ := by unfold Addr.add; split <;> simp_all
    rw [hadd]
    exact (RowAt.cell h.row hu).1
  · subst had
    exact (h.new ad.block (by simp [Value.ownBlock])).1

/-- Two readings that tell the same. -/
theorem outs_same {w : World} {v v' : Value} {n n' : Nat} {xs ys : List Value} {bs : List (List Int)} (h : Outs w v n xs bs) (h' : Outs w v' n' ys bs) (hn : n ≤ 1000) :
    Calls Tryd.prog 21 #[v, v'] w fun e w' => e = .returned (.bool true) ∧ Chg [] w w' := by
  have e1 := h.len
  have e2 := h'.len
  have e3 : n' = n := by omega
  subst e3
  refine lists_same h.row h'.row hn fun i hi => ?_
  have l1 : xs.length = n' := by simpa using h.row.1
  have l2 : ys.length = n' := by simpa using h'.row.1
  have a1 : xs[i]? = some (xs[i]'(by omega)) := by simp
  have a2 : ys[i]? = some (ys[i]'(by omega)) := by simp
  have a3 : bs[i]? = some (bs[i]'(by omega)) := by simp
  obtain ⟨m, r1⟩ := h.el i _ _ a1 a3
  obtain ⟨k, r2⟩ := h'.el i _ _ a2 a3
  exact ⟨_, _, m, k, _, a1, a2, r1, r2⟩

theorem Outs.chg {w w' : World} {v : Value} {n : Nat} {xs : List Value} {bs : List (List Int)} {Z : List Nat} (h : Outs w v n xs bs) (hk : KeptZ Z w w') (h1 : ∀ g, v.ownBlock = some g → g ∈ Z) (h2 : ∀ x ∈ xs, ∀ g, x.ownBlock = some g → g ∈ Z) : Outs w' v n xs bs :=
  ⟨hk.row h.row h1, h.len, fun i x zs hx hz => by
    obtain ⟨m, hr⟩ := h.el i x zs hx hz
    exact ⟨m, hk.row hr (h2 x (List.mem_of_getElem? hx))⟩⟩

theorem StepsIn.chg {w w' : World} {B : Nat} {ao : Option Addr} {l : List StepI} (h : StepsIn w B ao l) (hc : Chg [] w w') : StepsIn w' B ao l where
  nil := h.nil
  at' := fun ad had hne => by
    obtain ⟨g, off, rfl, h1, h2⟩ := h.at' ad had hne
    refine ⟨g, off, rfl, h1, fun j s hj => ?_⟩
    obtain ⟨a1, a2, a3⟩ := h2 j s hj
    exact ⟨(hc.cell (World.block_lt_of_cell? _ _ a1) (by simp)).trans a1, (hc.cell (World.block_lt_of_cell? _ _ a2) (by simp)).trans a2, (hc.cell (World.block_lt_of_cell? _ _ a3) (by simp)).trans a3⟩
  src := fun s hs => ⟨(h.src s hs).1.chg hc (by simp), (h.src s hs).2⟩

theorem St.mono {w0 w : World} {size : Int} {M R T M' R' : Nat} {A : AM} {q : List ARec} {A' : AM} {q' : List ARec} {k k' : Nat} {Z Z' : List Nat} (h : St w0 w size M R T M' R' A q A' q' k Z) (hk : k ≤ k') (hZ : ∀ z ∈ Z', z ∈ Z) : St w0 w size M R T M' R' A q A' q' k' Z' := by
  obtain ⟨v, L, rv, Q, E, clock, v', L', lv', Q', h⟩ := h.ex
  have hl := h.len
  exact ⟨_, _, _, _, _, _, _, _, _, _, { h with len := ⟨by omega, by omega, by omega, by omega⟩, sep := { h.sep with z := fun z hz => h.sep.z z (hZ z hz), z0 := fun z hz => h.sep.z0 z (hZ z hz) } }⟩

theorem St.chg {w0 w : World} {size : Int} {M R T M' R' : Nat} {A : AM} {q : List ARec} {A' : AM} {q' : List ARec} {k : Nat} {Z : List Nat} (h : St w0 w size M R T M' R' A q A' q' k Z) : Chg [] w0 w := by
  obtain ⟨v, L, rv, Q, E, clock, v', L', lv', Q', h⟩ := h.ex
  exact h.chg

theorem St.pend_len {w0 w : World} {size : Int} {M R T M' R' : Nat} {A : AM} {q : List ARec} {A' : AM} {q' : List ARec} {k : Nat} {Z : List Nat} (h : St w0 w size M R T M' R' A q A' q' k Z) : (apend q).length ≤ k := by
  obtain ⟨v, L, rv, Q, E, clock, v', L', lv', Q', h⟩ := h.ex
  have := h.len
  have h2 : (apend q).length ≤ q.length := by unfold apend; rw [List.length_map]; exact List.length_filter_le _ _
  omega

/-- The start. -/
theorem st_new {w0 w : World} {size : Int} {M R T M' R' : Nat} (hc : Chg [] w0 w) (hs : okSize size)
    (hM : w.heap[M]? = some (.cells #[.slice none 0 0] 60 (0, 0))) (hT : w.heap[T]? = some (.map #[] 0))
    (hR : w.heap[R]? = some (.cells #[.int .i64 size, .int .i64 0, .pointer (some ⟨M, 0, none⟩), .slice none 0 0, .map (some T)] 67 (0, 0)))
    (hM' : w.heap[M']? = some (.cells #[.slice none 0 0] 63 (0, 0)))
    (hR' : w.heap[R']? = some (.cells #[.int .i64 size, .pointer (some ⟨M', 0, none⟩), .slice none 0 0] 70 (0, 0)))
    (h1 : w0.heap.size ≤ M) (h2 : w0.heap.size ≤ R) (h3 : w0.heap.size ≤ T) (h4 : w0.heap.size ≤ M') (h5 : w0.heap.size ≤ R') : St w0 w size M R T M' R' [] [] [] [] 0 [] := by
  have n1 := blk_ne hM hM' (by decide)
  have n2 := blk_ne hM hR' (by decide)
  have n3 := blk_ne hR hM' (by decide)
  have n4 := blk_ne hR hR' (by decide)
  have n5 : T ≠ M' := by rintro rfl; rw [hT] at hM'; cases hM'
  have n6 : T ≠ R' := by rintro rfl; rw [hT] at hR'; cases hR'
  refine ⟨_, _, _, _, _, _, _, _, _, _, allm_new hs hM hT hR, allr_new hs hM' hR', rfl, rfl, rfl, rfl, ⟨by simp, by simp, by simp, by simp⟩, ⟨fun x hx => ?_, fun x hx => ?_, fun x hx hx' => ?_, by simp, fun x hx => ?_, fun x hx => ?_, by simp⟩, hc⟩
  · rcases fp_start hx with rfl | rfl | rfl <;> assumption
  · rcases fpr_start hx with rfl | rfl <;> assumption
  · rcases fp_start hx with rfl | rfl | rfl <;> rcases fpr_start hx' with h | h <;> omega
  · rcases fp_start hx with rfl | rfl | rfl <;> exact lt_of_blk (by assumption)
  · rcases fpr_start hx with rfl | rfl <;> exact lt_of_blk (by assumption)
end Go.Proofs.YtliikmmcbbmppaaDoor
