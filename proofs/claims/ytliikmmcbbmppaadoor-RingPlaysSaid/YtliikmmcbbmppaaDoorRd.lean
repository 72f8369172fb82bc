/- Read of the program's ring: the plain laws. -/
import Derived.Test.YtliikmmcbbmppaaDoorOut
namespace Go.Proofs.YtliikmmcbbmppaaDoor
open Go.RowKit Go.ChangeMaps

theorem Tryd.info36 : (Tryd.prog.info? 36).map (fun i => (i.zero, i.size, i.bytes)) = some (some (.slice none 0 0), 1, 24) := by kernel_rfl
theorem Tryd.info3 : (Tryd.prog.info? 3).map (fun i => (i.zero, i.size, i.bytes)) = some (some (.int .i64 0), 1, 8) := by kernel_rfl
theorem Tryd.info76 : (Tryd.prog.info? 76).map (fun i => (i.zero, i.size, i.bytes)) = some (some (.agg #[.int .i64 0, .int .i64 0, .int .i64 0, .slice none 0 0]), 4, 48) := by kernel_rfl

/-- Where a slice's tail begins. -/
def tailOff (cap off size : Nat) : Nat := if cap = 1 then off else off + size

theorem run_tail {t e : TypeId} {size : Nat} {i : TypeInfo} (ht : Tryd.prog.underlying t = some (.slice e)) (hi : Tryd.prog.info? e = some i) (hs : i.size = size) (g off n cap : Nat) (hn : 1 ≤ n) (w : World) :
    (Instr.slice t (.slice (some ⟨g, off, none⟩) n cap) (some (.int .i64 1)) none none).run Tryd.prog w = .ok (.slice (some ⟨g, tailOff cap off size, none⟩) (n - 1) (cap - 1)) w := by
  have hadd : (⟨g, off, none⟩ : Addr).add size = ⟨g, off + size, none⟩ := by unfold Addr.add; split <;> simp_all
  have h1 : (1 : Int) ≤ (n : Int) := by omega
  by_cases h : cap = 1
  · simp [Instr.slice, run_underlying ht, Instr.sliceBounds, sizeOf, typeInfo, hi, hs, h1, go_sem, tailOff, h]
  · simp [Instr.slice, run_underlying ht, Instr.sliceBounds, sizeOf, typeInfo, hi, hs, h1, go_sem, tailOff, h, hadd]

theorem RowAt.tail {w : World} {e g off n cap : Nat} {x : Value} {xs : List Value} (h : RowAt w e 1 (.slice (some ⟨g, off, none⟩) (n + 1) cap) (n + 1) (x :: xs)) :
    RowAt w e 1 (.slice (some ⟨g, tailOff cap off 1, none⟩) n (cap - 1)) n xs := by
  obtain ⟨h1, h2⟩ := h
  rcases h2 with ⟨h2, _⟩ | ⟨g', off', cap', cur, h2, hg, a1, a2, a3, a4⟩
  · cases h2
  cases h2
  refine ⟨by simpa using h1, .inr ⟨g, _, _, cur, rfl, hg, by omega, by omega, ?_, ?_⟩⟩
  · unfold tailOff; split <;> omega
  · simp only [Nat.mul_one] at a4 ⊢ h1
    unfold tailOff
    split
    · have : n = 0 := by omega
      subst this
      have : xs = [] := by simpa using h1
      simp [this]
    · have h2 := congrArg (List.drop 1) a4
      rw [List.drop_take, List.drop_drop] at h2
      simpa using h2

theorem run_cut {i : TypeInfo} (hi : Tryd.prog.info? 5 = some i) (hs : i.size = 1) (g off n cap : Nat) (hn : 1 ≤ n) (hc : n ≤ cap) (w : World) :
    (Instr.slice 36 (.slice (some ⟨g, off, none⟩) n cap) none (some (.int .i64 (n : Int))) (some (.int .i64 (n : Int)))).run Tryd.prog w = .ok (.slice (some ⟨g, off, none⟩) n n) w := by
  have hadd : (⟨g, off, none⟩ : Addr).add 0 = ⟨g, off, none⟩ := by unfold Addr.add; split <;> simp_all
  have h1 : ((n : Int)) ≤ (cap : Int) := by omega
  have h2 : n ≠ 0 := by omega
  simp [Instr.slice, run_underlying Tryd.underlying36, Instr.sliceBounds, sizeOf, typeInfo, hi, hs, h1, h2, go_sem, hadd]

/-- The records read that were submitted, and how their bytes are handed out. -/
def outs (P : List RecL) : List RecL := P.filter fun q => q.st == 1
def cutv (q : RecL) : Value := .slice (some ⟨q.bb, q.bo, none⟩) q.n q.n

structure RdInv (w wr : World) (R T M : Nat) (size : Int) (rv : Value) (Q P Q' : List RecL) (rv' ov : Value) : Prop where
  split : Q = P ++ Q'
  done : ∀ p ∈ P, p.st ≠ 0
  chg : Chg [R] w wr
  root : wr.heap[R]? = some (.cells #[.int .i64 size, .int .i64 (used Q'), .pointer (some ⟨M, 0, none⟩), rv', .map (some T)] 67 (0, 0))
  row : RowAt wr 71 1 rv' Q'.length (Q'.map fun q => Value.pointer (some ⟨q.blk, 0, none⟩))
  own : rv'.ownBlock = rv.ownBlock
  out : RowAt wr 36 1 ov (outs P).length ((outs P).map cutv)
  new : ∀ g, ov.ownBlock = some g → w.heap.size ≤ g

theorem outs_snoc (P : List RecL) (q : RecL) : outs (P ++ [q]) = outs P ++ (if q.st = 1 then [q] else []) := by
  by_cases h : q.st = 1 <;> simp [outs, List.filter_append, h]

theorem rd_out {w wr w1 : World} {R T M : Nat} {size : Int} {rv rv' ov : Value} {Q P Q' : List RecL} (hi : RdInv w wr R T M size rv Q P Q' rv' ov) (hR : R < w.heap.size) (hc : Chg ov.ownBlock.toList wr w1) :
    Chg [R] w w1 ∧ w1.heap[R]? = some (.cells #[.int .i64 size, .int .i64 (used Q'), .pointer (some ⟨M, 0, none⟩), rv', .map (some T)] 67 (0, 0)) ∧ RowAt w1 71 1 rv' Q'.length (Q'.map fun q => Value.pointer (some ⟨q.blk, 0, none⟩)) := by
  have hn : ∀ x ∈ ov.ownBlock.toList, w.heap.size ≤ x := fun x hx => hi.new x (by rwa [Option.mem_toList] at hx)
  have hnR : R ∉ ov.ownBlock.toList := fun hm => by have := hn R hm; omega
  refine ⟨hi.chg.trans hc fun x hx => .inr (hn x hx), hc.keep hi.root hnR, hi.row.chg hc fun g hg hm => ?_⟩
  rw [Option.mem_toList] at hm
  obtain ⟨c1, f1, h1⟩ := row_cells hi.row hg
  obtain ⟨c2, f2, h2⟩ := row_cells hi.out hm
  rw [h1] at h2
  simp at h2

theorem rd_step {w w1 : World} {R T M g off cap : Nat} {size : Int} {rv ov' : Value} {Q P Q' : List RecL} {q : RecL}
    (hs : Q = P ++ q :: Q') (hP : ∀ p ∈ P, p.st ≠ 0) (hq : q.st ≠ 0) (hR : R < w.heap.size) (hc : Chg [R] w w1)
    (hroot : w1.heap[R]? = some (.cells #[.int .i64 size, .int .i64 (used (q :: Q')), .pointer (some ⟨M, 0, none⟩), .slice (some ⟨g, off, none⟩) (Q'.length + 1) cap, .map (some T)] 67 (0, 0)))
    (hrow : RowAt w1 71 1 (.slice (some ⟨g, off, none⟩) (Q'.length + 1) cap) (Q'.length + 1) ((q :: Q').map fun q => Value.pointer (some ⟨q.blk, 0, none⟩)))
    (hown : (Value.slice (some ⟨g, off, none⟩) (Q'.length + 1) cap).ownBlock = rv.ownBlock)
    (hout : RowAt w1 36 1 ov' (outs (P ++ [q])).length ((outs (P ++ [q])).map cutv)) (hnew : ∀ g, ov'.ownBlock = some g → w.heap.size ≤ g) :
    RdInv w ((w1.setCell ⟨R, 3, none⟩ (.slice (some ⟨g, tailOff cap off 1, none⟩) Q'.length (cap - 1))).setCell ⟨R, 1, none⟩ (.int .i64 (used Q'))) R T M size rv Q (P ++ [q]) Q'
      (.slice (some ⟨g, tailOff cap off 1, none⟩) Q'.length (cap - 1)) ov' := by
  have hR1 := heap_setCell_same w1 R 3 _ 67 (.slice (some ⟨g, tailOff cap off 1, none⟩) Q'.length (cap - 1)) hroot
  have hR2 := heap_setCell_same _ R 1 _ 67 (.int .i64 (used Q')) hR1
  have hcs : Chg [R] w1 ((w1.setCell ⟨R, 3, none⟩ (.slice (some ⟨g, tailOff cap off 1, none⟩) Q'.length (cap - 1))).setCell ⟨R, 1, none⟩ (.int .i64 (used Q'))) := ((Chg.refl [R] w1).setCell _ (by simp) _).setCell _ (by simp) _
  have ht := RowAt.tail (by simpa using hrow)
  refine ⟨by simp [hs], fun p hp => ?_, hc.trans hcs (by simp), by rw [hR2]; simp, ht.chg hcs fun k hk hm => ?_, by rw [← hown]; rfl, hout.chg hcs fun k hk hm => ?_, hnew⟩
  · rcases List.mem_append.1 hp with hp | hp
    · exact hP p hp
    · obtain rfl := List.mem_singleton.1 hp; exact hq
  · obtain rfl := List.mem_singleton.1 hm
    exact own_ne ht hroot (by decide) hk
  · obtain rfl := List.mem_singleton.1 hm
    have := hnew k hk
    omega

/-- What Read leaves. -/
def ReadPost (w : World) (M R T : Nat) (v : Value) (L : List RegL) (size : Int) (rv : Value) (Q : List RecL) (E : List Ent) (clock : Nat) (e : Ending) (w' : World) : Prop :=
  ∃ (rv' : Value) (Q' : List RecL) (ov : Value) (O : List RecL), e = .returned ov ∧ AllM w' M R T v L size rv' Q' E clock ∧ RowAt w' 36 1 ov O.length (O.map cutv) ∧ O.map (·.bytes) = (aRead (Q.map RecL.abs)).1 ∧ Q'.map RecL.abs = (aRead (Q.map RecL.abs)).2 ∧ Q'.length ≤ Q.length ∧
    (∀ q ∈ O, RowAt w' 5 1 (cutv q) q.n (bytesV q.bytes) ∧ q.bb ∉ fpAll M R T v L rv' Q' ∧ q.bb ∈ fpAll M R T v L rv Q) ∧ (O.map (·.bb)).Nodup ∧ (∀ g, ov.ownBlock = some g → w.heap.size ≤ g) ∧ Upd w w' (fpAll M R T v L rv Q) (fpAll M R T v L rv' Q')

theorem aRead_split (Q' : List RecL) : ∀ P : List RecL, (∀ p ∈ P, p.st ≠ 0) → aRead ((P ++ Q').map RecL.abs) = ((outs P).map (·.bytes) ++ (aRead (Q'.map RecL.abs)).1, (aRead (Q'.map RecL.abs)).2)
  | [], _ => by simp [outs]
  | p :: P, h => by
    have hp := h p (by simp)
    have ih := aRead_split Q' P fun x hx => h x (by simp [hx])
    have e : aRead (((p :: P) ++ Q').map RecL.abs) = ((if p.st = 1 then [p.bytes] else []) ++ (aRead ((P ++ Q').map RecL.abs)).1, (aRead ((P ++ Q').map RecL.abs)).2) := by
      simp [aRead, RecL.abs, hp]
    rw [e, ih]
    by_cases h1 : p.st = 1 <;> simp [outs, h1]
theorem aRead_stop (Q' : List RecL) (h : ∀ q, Q'.head? = some q → q.st = 0) : aRead (Q'.map RecL.abs) = ([], Q'.map RecL.abs) := by
  cases Q' with
  | nil => rfl
  | cons q Q' => simp [aRead, RecL.abs, h q rfl]

theorem RowAt.cut {w : World} {e size g off n cap : Nat} {xs : List Value} (h : RowAt w e size (.slice (some ⟨g, off, none⟩) n cap) n xs) : RowAt w e size (.slice (some ⟨g, off, none⟩) n n) n xs := by
  obtain ⟨h1, h2⟩ := h
  rcases h2 with ⟨h2, _⟩ | ⟨g', off', cap', cur, h2, hg, a1, a2, a3, a4⟩
  · cases h2
  cases h2
  have := Nat.mul_le_mul_right size a1
  exact ⟨h1, .inr ⟨g, off, n, cur, rfl, hg, Nat.le_refl _, by omega, by omega, a4⟩⟩

theorem rd_end {w wr : World} {M R T : Nat} {v : Value} {L : List RegL} {size : Int} {rv rv' ov : Value} {Q P Q' : List RecL} {E : List Ent} {clock : Nat} (h : AllM w M R T v L size rv Q E clock)
    (hi : RdInv w wr R T M size rv Q P Q' rv' ov) (hstop : ∀ q, Q'.head? = some q → q.st = 0) : ReadPost w M R T v L size rv Q E clock (.returned ov) wr := by
  obtain ⟨rfl, hP, hc, hroot, hrow, hown, hout, hnew⟩ := hi
  have hsub : ∀ q ∈ Q', q ∈ P ++ Q' := fun q hq => List.mem_append_right _ hq
  have hsl : Q'.Sublist (P ++ Q') := List.sublist_append_right _ _
  have hpend : pend (P ++ Q') = pend Q' := by
    have : pend P = [] := by
      simp only [pend, List.filter_eq_nil_iff]
      intro p hp
      simpa using hP p hp
    simp only [pend, List.filter_append] at this ⊢
    rw [this]; rfl
  have hdone : doneR (P ++ Q') = doneR P ++ doneR Q' := by simp [doneR]
  have hR : ∀ x, x ∈ [R] → x = R := fun x hx => by simpa using hx
  have hndd := h.ndd
  rw [hdone, List.map_append] at hndd
  have hmemO : ∀ q ∈ outs P, q ∈ P ∧ q.st = 1 := fun q hq => by simpa [outs] using hq
  have hfp : ∀ x ∈ fpAll M R T v L rv' Q', x ∈ fpAll M R T v L rv (P ++ Q') := by
    intro x hx
    simp only [fpAll, fpRing, fpQ, hown, hdone, List.map_append, List.mem_append, List.mem_cons] at hx ⊢
    rcases hx with hx | hx | hx | hx | hx | hx
    · exact .inl hx
    · exact .inr (.inl hx)
    · exact .inr (.inr (.inl hx))
    · exact .inr (.inr (.inr (.inl hx)))
    · exact .inr (.inr (.inr (.inr (.inl (.inr hx)))))
    · exact .inr (.inr (.inr (.inr (.inr (.inr hx)))))
  have hbin : ∀ q ∈ outs P, q.bb ∈ fpRing R T rv (P ++ Q') := by
    intro q hq
    obtain ⟨h1, h2⟩ := hmemO q hq
    simp only [fpRing, fpQ, List.mem_append, List.mem_cons]
    exact .inr (.inr (.inr (.inr (List.mem_map.2 ⟨q, List.mem_filter.2 ⟨by simp [h1], by simp [h2]⟩, rfl⟩))))
  refine ⟨rv', Q', ov, outs P, rfl, ⟨h.mem.chg hc fun x hx hm => mem_beside h.mem h.ring x hx (by rw [hR x hm]; simp), ⟨hroot, hrow, ?_, ?_, ?_, h.ring.born, ?_, ?_, ?_, ?_, h.ring.size⟩, ?_, ?_, ?_, h.lens, ?_⟩, hout, ?_, ?_, by simp, ?_, ?_, hnew, ?_, ?_⟩
  · intro q hq
    obtain ⟨q1, q2⟩ := h.ring.recs q (hsub q hq)
    refine ⟨hc.keep q1 fun hm => blk_ne q1 h.ring.root (by decide) (hR _ hm), fun hs => (q2 hs).chg hc fun g hg hm => own_ne (q2 hs) h.ring.root (by decide) (by rw [← hR _ hm]; exact hg)⟩
  · exact hc.keep h.ring.tab fun hm => map_no_cells h.ring.tab h.ring.root (hR _ hm)
  · rw [← hpend]; exact h.ring.ent
  · exact h.ring.nd.sublist (hsl.map _)
  · rw [← hpend]; exact h.ring.ids
  · exact fun q hq => h.ring.pos q (hsub q hq)
  · have := h.ring.le
    have e : used (P ++ Q') = used P + used Q' := by simp [used]
    omega
  · exact fun q hq => h.tie q (hsub q hq)
  · exact fun q hq => h.sep q (hsub q hq)
  · exact (List.nodup_append.1 hndd).2.1
  · exact fun q hq => h.idle q (hsub q hq)
  · rw [aRead_split Q' P hP, aRead_stop Q' hstop]; simp
  · rw [aRead_split Q' P hP, aRead_stop Q' hstop]
  · intro q hq
    obtain ⟨h1, h2⟩ := hmemO q hq
    have h3 := (h.ring.recs q (by simp [h1])).2 (by omega)
    have h4 : RowAt w 5 1 (cutv q) q.n (bytesV q.bytes) := RowAt.cut (cap := q.cap) (by simpa [RecL.bval, h2] using h3)
    refine ⟨h4.chg hc fun g hg hm => own_ne h4 h.ring.root (by decide) (by rw [← hR _ hm]; exact hg), fun hm => ?_, List.mem_append_right _ (hbin q hq)⟩
    obtain ⟨cs, fr, hb⟩ := row_cells h4 (g := q.bb) rfl
    rcases List.mem_append.1 hm with hm | hm
    · exact ring_apart h q.bb (hbin q hq) hm
    · simp only [fpRing, fpQ, hown, List.mem_append, List.mem_cons, Option.mem_toList] at hm
      rcases hm with hm | hm | hm | hm | hm
      · exact blk_ne hb h.ring.root (by decide) hm
      · exact map_no_cells h.ring.tab hb hm.symm
      · exact own_ne h.ring.row hb (by decide) hm
      · obtain ⟨q', hq', e⟩ := List.mem_map.1 hm
        exact blk_ne (h.ring.recs q' (hsub q' hq')).1 hb (by decide) e
      · exact (List.nodup_append.1 hndd).2.2 q.bb (List.mem_map.2 ⟨q, List.mem_filter.2 ⟨h1, by simp [h2]⟩, rfl⟩) q.bb hm rfl
  · have : outs P = (doneR P).filter fun q => q.st == 1 := by
      simp only [outs, doneR, List.filter_filter]
      congr 1
      funext q
      by_cases h : q.st = 1 <;> simp [h]
    rw [this]
    exact (List.nodup_append.1 hndd).1.sublist (List.filter_sublist.map _)
  · exact hc.mono fun x hx => .inl (by rw [hR x hx]; simp [fpAll, fpRing])
  · exact fun x hx => .inl (hfp x hx)
end Go.Proofs.YtliikmmcbbmppaaDoor
