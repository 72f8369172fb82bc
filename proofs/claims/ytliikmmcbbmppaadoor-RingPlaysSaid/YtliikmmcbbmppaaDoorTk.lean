/- A law for a region of operations whose order is drawn: one walk in a fixed order serves every order, where a condition F on the world (the cells that are loaded) need hold only up to an operation 'kop' that waits for all those loads. -/
import Derived.OrdersHeld
import Derived.StillTail
import Derived.Tactics
namespace Go
section
variable {P : Program} {ops : Array Oper} {Q : Exit → Act → World → Prop} {md : Region.Mode} {F : World → Prop} {kop : Nat}

/-- Whatever order is picked from here on, F holding behind each operation as long as kop has not come up. -/
def wpAnyK (P : Program) (md : Region.Mode) (ops : Array Oper) (Q : Exit → Act → World → Prop) (F : World → Prop) (kop : Nat) : Nat → Array Bool → Act → World → Prop
  | 0, listed, a, w => Region.ready md ops listed = [] ∧ Q .normal a w
  | fuel + 1, listed, a, w =>
    (Region.ready md ops listed = [] → Q .normal a w) ∧
    ∀ i ∈ Region.ready md ops listed, wpOp P ops Q i (fun a' w' => ((listed.setIfInBounds i true).getD kop false = false → F w') ∧ wpAnyK P md ops Q F kop fuel (listed.setIfInBounds i true) a' w') a w

theorem wpAny_of_K : ∀ (fuel : Nat) (listed : Array Bool) (a : Act) (w : World), wpAnyK P md ops Q F kop fuel listed a w → wpAny P md ops Q fuel listed a w
  | 0, _, _, _, h => h
  | fuel + 1, _, _, _, h => ⟨h.1, fun i hi => wpOp_mono (fun a' w' h' => wpAny_of_K fuel _ a' w' h'.2) (h.2 i hi)⟩

/-- What a quiet operation asks of the world: nothing (held = false), or F. -/
def Need (held : Bool) (F : World → Prop) (w : World) : Prop := held = true → F w

theorem wpAnyK_first {i : Nat} {oi : Oper} {v : Value} {held : Bool} (hi : ops[i]? = some oi) (hsel : ∀ (j : Nat) (o : Oper) cs b, ops[j]? = some o → o.op ≠ .select cs b)
    (hQ : ∀ c a w, Q (.panic c) (a.put oi.dst v) w → Q (.panic c) a w) (hik : i ≠ kop) (hwt : held = true → kop < ops.size → Region.waitsFor md ops kop i = true) :
    ∀ (fuel : Nat) (listed : Array Bool) (a : Act) (w : World), listed.size = ops.size →
      (∀ j oj, ops[j]? = some oj → j ≠ i → listed.getD j true = false → (∀ e ∈ oj.after, Region.binds md e = true → e.on ≠ i) → oi.apart ops oj = true) →
      i ∈ Region.ready md ops listed → YieldsIf P ops (Need held F) oi v a → (held = true → listed.getD kop false = false) → (listed.getD kop false = false → F w) →
      wpAnyK P md ops Q F kop fuel (listed.setIfInBounds i true) (a.put oi.dst v) w → wpAnyK P md ops Q F kop (fuel + 1) listed a w := by
  intro fuel
  induction fuel with
  | zero =>
    intro listed a w _ _ hr hy hk hF H
    refine ⟨fun h => (by rw [h] at hr; cases hr), fun j hj => ?_⟩
    by_cases hji : j = i
    · subst hji; exact hy.wpOp hi (fun hh => hF (hk hh)) ⟨fun hl => hF (by rwa [getD_set_ne false hik] at hl), H⟩
    · have := ready_mono hj hji
      rw [H.1] at this
      cases this
  | succ fuel ih =>
    intro listed a w hsz hfree hr hy hk hF H
    refine ⟨fun h => (by rw [h] at hr; cases hr), fun j hj => ?_⟩
    by_cases hji : j = i
    · subst hji; exact hy.wpOp hi (fun hh => hF (hk hh)) ⟨fun hl => hF (by rwa [getD_set_ne false hik] at hl), H⟩
    · have h1 := H.2 j (ready_mono hj hji)
      obtain ⟨hjun, oj, hoj, hall⟩ := mem_ready.1 hj
      have hnot : ∀ e ∈ oj.after, Region.binds md e = true → e.on ≠ i := fun e he hb heq => by
        have h1 := hall e he hb
        have h0 := (mem_ready.1 hr).1
        rw [heq] at h1
        rcases Nat.lt_or_ge i listed.size with h' | h'
        · simp [h'] at h0 h1; rw [h0] at h1; cases h1
        · simp [Array.getElem?_eq_none h'] at h1
      have hjk : held = true → j ≠ kop := fun hh e => by
        subst e
        have hlt : j < ops.size := (Array.getElem?_eq_some_iff.1 hoj).1
        obtain ⟨oj', hoj', e, he, hb, hon⟩ := Region.waitsFor_spec (hwt hh hlt)
        rw [hoj] at hoj'
        cases hoj'
        exact hnot e he hb hon
      have h2 := wpOp_putIf hoj (hfree j oj hoj hji hjun hnot) (fun cs b => hsel i oi cs b hi) (fun cs b => hsel j oj cs b hoj) hQ hy h1
      have hfree' : ∀ k ok, ops[k]? = some ok → k ≠ i → (listed.setIfInBounds j true).getD k true = false →
          (∀ e ∈ ok.after, Region.binds md e = true → e.on ≠ i) → oi.apart ops ok = true := fun k ok hk hki hun hno => by
        refine hfree k ok hk hki ?_ hno
        by_cases hjk : j = k
        · subst hjk; exact hjun
        · rw [getD_set_ne true hjk] at hun; exact hun
      refine wpOp_mono (fun a' w' h3 => ?_) h2
      have hF' : (listed.setIfInBounds j true).getD kop false = false → F w' := fun hl => h3.2.1 (by
        rw [Array.setIfInBounds_comm _ _ (Ne.symm hji), getD_set_ne false hik]
        exact hl)
      refine ⟨hF', ih (listed.setIfInBounds j true) a' w' (by simp [hsz]) hfree' (ready_mono hr (Ne.symm hji)) h3.1 (fun hh => ?_) hF' ?_⟩
      · rw [getD_set_ne false (hjk hh)]; exact hk hh
      · rw [Array.setIfInBounds_comm _ _ hji]
        exact h3.2.2

/-- Is the operation wanted, by the slot of its guard? -/
def wantedAt (g : Option (Option Tmp × Bool)) (tmps : Array Value) : Bool :=
  match g with
  | none => true
  | some (d, want) => (match d.bind (tmps[·]?) with | some (.bool b) => some b | _ => none) == some want

/-- The walk in a fixed order. 0: quiet in whatever world; 1: quiet in every world that meets F; 2: loud, F is shown anew; 3: loud, F is not wanted any more. -/
def wpTk (P : Program) (Q : Exit → Act → World → Prop) (F : World → Prop) : List (Oper × Nat × Option (Option Tmp × Bool)) → Act → World → Prop
  | [], a, w => Q .normal a w
  | (o, 0, g) :: r, a, w => if wantedAt g a.tmps then ∃ v, (∀ w, (execOp a.eval o).run P w = .ok (.value v) w) ∧ wpTk P Q F r (a.put o.dst v) w else wpTk P Q F r (a.put o.dst undef) w
  | (o, 1, g) :: r, a, w => if wantedAt g a.tmps then ∃ v, (∀ w, F w → (execOp a.eval o).run P w = .ok (.value v) w) ∧ wpTk P Q F r (a.put o.dst v) w else wpTk P Q F r (a.put o.dst undef) w
  | (o, 2, g) :: r, a, w => if wantedAt g a.tmps then o.wp P a w (fun a' w' => F w' ∧ wpTk P Q F r a' w') Q ∨ (o.asks P a w ∧ LetsOut Q) else wpTk P Q F r (a.put o.dst undef) w
  | (o, _, g) :: r, a, w => if wantedAt g a.tmps then o.wp P a w (wpTk P Q F r) Q ∨ (o.asks P a w ∧ LetsOut Q) else wpTk P Q F r (a.put o.dst undef) w

def guardAt (ops : Array Oper) (o : Oper) : Option (Option Tmp × Bool) := o.guard.map fun (j, want) => ((ops[j]?).bind (·.dst), want)

/-- An operation without what its run does not look at. -/
def Oper.bare (o : Oper) : Oper := ⟨o.dst, o.op, o.type, "", #[], none⟩
theorem execOp_bare (ρ : Operand → Value) (o : Oper) : execOp ρ o.bare = execOp ρ o := rfl
theorem wp_bare (o : Oper) (a : Act) (w : World) (K : Act → World → Prop) (Q : Exit → Act → World → Prop) : o.bare.wp P a w K Q = o.wp P a w K Q := by
  unfold Oper.wp
  rw [execOp_bare]
  generalize (execOp a.eval o).run P w = r
  cases r with
  | ok n w' => cases n <;> rfl
  | halt x w' => cases x <;> rfl
theorem asks_bare (o : Oper) (a : Act) (w : World) : o.bare.asks P a w = o.asks P a w := rfl

/-- The operations in a given order of their numbers. -/
def tkList (ops : Array Oper) (order : List (Nat × Nat)) : List (Oper × Nat × Option (Option Tmp × Bool)) :=
  order.filterMap fun (i, f) => (ops[i]?).map fun o => (o.bare, f, guardAt ops o)

theorem wanted_at (o : Oper) (tmps : Array Value) : Region.wanted o (yielded ops tmps) = wantedAt (guardAt ops o) tmps := by
  unfold Region.wanted wantedAt guardAt
  cases o.guard with
  | none => rfl
  | some g => obtain ⟨j, want⟩ := g; rfl

/-- The order fits the region. -/
def okTk (md : Region.Mode) (ops : Array Oper) (kop : Nat) : List (Nat × Nat) → Array Bool → Bool
  | [], listed => (Region.ready md ops listed).isEmpty
  | (i, f) :: r, listed => decide (i < ops.size) && okTk md ops kop r (listed.setIfInBounds i true) &&
    (match f with
     | 0 => Region.free md ops listed i && (Region.ready md ops listed).contains i && i != kop
     | 1 => Region.free md ops listed i && (Region.ready md ops listed).contains i && i != kop && (decide (ops.size ≤ kop) || Region.waitsFor md ops kop i) && !listed.getD kop false
     | 2 => Region.ready md ops listed == [i] && i != kop
     | _ => Region.ready md ops listed == [i] && (i == kop || listed.getD kop false))

theorem wpAnyK_of_tk (hs : Region.noSelect ops = true) (hQ : ∀ d v c a w, Q (.panic c) (a.put d v) w → Q (.panic c) a w) :
    ∀ (order : List (Nat × Nat)) (listed : Array Bool) (a : Act) (w : World), listed.size = ops.size → okTk md ops kop order listed = true → (listed.getD kop false = false → F w) →
      wpTk P Q F (tkList ops order) a w → wpAnyK P md ops Q F kop order.length listed a w
  | [], listed, a, w, _, hok, _, h => by
    simp only [okTk, List.isEmpty_iff] at hok
    exact ⟨hok, h⟩
  | (i, f) :: r, listed, a, w, hsz, hok, hF, h => by
    simp only [okTk, Bool.and_eq_true, decide_eq_true_eq] at hok
    obtain ⟨⟨hlt, hr⟩, hc⟩ := hok
    have hi : ops[i]? = some ops[i] := by simp [hlt]
    have htk : tkList ops ((i, f) :: r) = (ops[i].bare, f, guardAt ops ops[i]) :: tkList ops r := by simp [tkList, hi]
    have hd : ops[i].bare.dst = ops[i].dst := rfl
    rw [htk] at h
    have hsz' : (listed.setIfInBounds i true).size = ops.size := by simp [hsz]
    have quiet : ∀ held : Bool, (held = true → (decide (ops.size ≤ kop) || Region.waitsFor md ops kop i) = true ∧ listed.getD kop false = false) → Region.free md ops listed i = true → (Region.ready md ops listed).contains i = true → i ≠ kop →
        (if wantedAt (guardAt ops ops[i]) a.tmps then ∃ v, (∀ w, Need held F w → (execOp a.eval ops[i]).run P w = .ok (.value v) w) ∧ wpTk P Q F (tkList ops r) (a.put ops[i].dst v) w else wpTk P Q F (tkList ops r) (a.put ops[i].dst undef) w) →
        wpAnyK P md ops Q F kop ((i, f) :: r).length listed a w := by
      intro held hh hfree hready hik hq
      have hgo : ∀ v, YieldsIf P ops (Need held F) ops[i] v a → wpTk P Q F (tkList ops r) (a.put ops[i].dst v) w → wpAnyK P md ops Q F kop (r.length + 1) listed a w := fun v hy hn => by
        refine wpAnyK_first hi (Region.noSelect_spec hs) (fun c a w => hQ _ _ c a w) hik (fun h1 h2 => ?_) r.length listed a w hsz (Region.free_spec hi hfree) (by simpa using hready) hy (fun h1 => (hh h1).2) hF
          (wpAnyK_of_tk hs hQ r _ _ _ hsz' hr (fun hl => hF (by rwa [getD_set_ne false hik] at hl)) hn)
        have := (hh h1).1
        simp only [Bool.or_eq_true, decide_eq_true_eq] at this
        exact this.resolve_left (by omega)
      by_cases hw : wantedAt (guardAt ops ops[i]) a.tmps = true
      · rw [if_pos hw] at hq
        obtain ⟨v, hv, hn⟩ := hq
        exact hgo v (.inl ⟨by rw [wanted_at]; exact hw, hv⟩) hn
      · rw [if_neg hw] at hq
        exact hgo undef (.inr ⟨by rw [wanted_at]; simpa using hw, rfl⟩) hq
    have loud : Region.ready md ops listed = [i] →
        wpOp P ops Q i (fun a' w' => ((listed.setIfInBounds i true).getD kop false = false → F w') ∧ wpTk P Q F (tkList ops r) a' w') a w → wpAnyK P md ops Q F kop ((i, f) :: r).length listed a w := by
      intro hre ho
      refine ⟨fun h0 => (by rw [hre] at h0; cases h0), fun j hj => ?_⟩
      rw [hre] at hj
      obtain rfl : j = i := by simpa using hj
      exact wpOp_mono (fun a' w' h' => ⟨h'.1, wpAnyK_of_tk hs hQ r _ _ _ hsz' hr h'.1 h'.2⟩) ho
    match f, hc, h with
    | 0, hc, h =>
      simp only [Bool.and_eq_true, bne_iff_ne] at hc
      refine quiet false (fun h => by cases h) hc.1.1 hc.1.2 hc.2 ?_
      simp only [wpTk, execOp_bare, hd] at h
      split at h
      · rename_i hw
        rw [if_pos hw]
        obtain ⟨v, hv, hn⟩ := h
        exact ⟨v, fun w _ => hv w, hn⟩
      · rename_i hw
        rw [if_neg hw]
        exact h
    | 1, hc, h =>
      simp only [Bool.and_eq_true, bne_iff_ne, Bool.not_eq_true'] at hc
      refine quiet true (fun _ => ⟨hc.1.2, hc.2⟩) hc.1.1.1.1 hc.1.1.1.2 hc.1.1.2 ?_
      simp only [wpTk, execOp_bare, hd] at h
      split at h
      · rename_i hw
        rw [if_pos hw]
        obtain ⟨v, hv, hn⟩ := h
        exact ⟨v, fun w hN => hv w (hN rfl), hn⟩
      · rename_i hw
        rw [if_neg hw]
        exact h
    | 2, hc, h =>
      simp only [Bool.and_eq_true, bne_iff_ne, beq_iff_eq] at hc
      refine loud hc.1 ?_
      simp only [wpTk, wp_bare, asks_bare, hd] at h
      unfold wpOp
      rw [hi]
      show if Region.wanted ops[i] (yielded ops a.tmps) = true then _ else _
      rw [wanted_at]
      split at h
      · rename_i hw
        rw [if_pos hw]
        exact h.imp (Oper.wp_mono fun a' w' h' => ⟨fun _ => h'.1, h'.2⟩) id
      · rename_i hw
        rw [if_neg hw]
        exact ⟨fun hl => hF (by rwa [getD_set_ne false hc.2] at hl), h⟩
    | f + 3, hc, h =>
      simp only [Bool.and_eq_true, beq_iff_eq] at hc
      have hkl : (listed.setIfInBounds i true).getD kop false = true := by
        simp only [Bool.or_eq_true, beq_iff_eq] at hc
        rcases hc.2 with h1 | h1
        · subst h1; simp [hsz, hlt]
        · exact getD_set_true h1
      refine loud hc.1 ?_
      simp only [wpTk, wp_bare, asks_bare, hd] at h
      unfold wpOp
      rw [hi]
      show if Region.wanted ops[i] (yielded ops a.tmps) = true then _ else _
      rw [wanted_at]
      split at h
      · rename_i hw
        rw [if_pos hw]
        exact h.imp (Oper.wp_mono fun a' w' h' => ⟨(fun hl => by (rw [hkl] at hl; cases hl)), h'⟩) id
      · rename_i hw
        rw [if_neg hw]
        exact ⟨(fun hl => by (rw [hkl] at hl; cases hl)), h⟩

/-- THE LAW. -/
theorem wp_region_tk {id : Nat} {a : Act} {w : World} (order : List (Nat × Nat)) (kop : Nat) (F : World → Prop) (hm : P.follows .mixedOrders = true) (hs : Region.noSelect ops = true)
    (hok : okTk .any ops kop order (Array.replicate ops.size false) = true) (hlen : order.length = ops.size)
    (hQ : ∀ d v c a w, Q (.panic c) (a.put d v) w → Q (.panic c) a w) (hF : F w.drew) (h : wpTk P Q F (tkList ops order) a w.drew) : (Code.region id ops true).wp P Q a w := by
  refine wp_region_any hm (wpAny_of_K (F := F) (kop := kop) _ _ _ _ ?_)
  rw [← hlen]
  exact wpAnyK_of_tk hs hQ order _ _ _ (by simp [hlen]) (by rw [hlen]; exact hok) (fun _ => hF) h

/-! The steps. -/
theorem wpTk_p {o : Oper} {g : Option (Option Tmp × Bool)} {r : List (Oper × Nat × Option (Option Tmp × Bool))} {a : Act} {w : World} {v : Value} (hw : wantedAt g a.tmps = true)
    (hy : ∀ w, (execOp a.eval o).run P w = .ok (.value v) w) (h : wpTk P Q F r (a.put o.dst v) w) : wpTk P Q F ((o, 0, g) :: r) a w := by
  simp only [wpTk]; rw [if_pos hw]; exact ⟨v, hy, h⟩
theorem wpTk_h {o : Oper} {g : Option (Option Tmp × Bool)} {r : List (Oper × Nat × Option (Option Tmp × Bool))} {a : Act} {w : World} {v : Value} (hw : wantedAt g a.tmps = true)
    (hy : ∀ w, F w → (execOp a.eval o).run P w = .ok (.value v) w) (h : wpTk P Q F r (a.put o.dst v) w) : wpTk P Q F ((o, 1, g) :: r) a w := by
  simp only [wpTk]; rw [if_pos hw]; exact ⟨v, hy, h⟩
theorem wpTk_not {o : Oper} {f : Nat} {g : Option (Option Tmp × Bool)} {r : List (Oper × Nat × Option (Option Tmp × Bool))} {a : Act} {w : World} (hw : wantedAt g a.tmps = false)
    (h : wpTk P Q F r (a.put o.dst undef) w) : wpTk P Q F ((o, f, g) :: r) a w := by
  match f with
  | 0 => simp only [wpTk]; rw [if_neg (by simp [hw])]; exact h
  | 1 => simp only [wpTk]; rw [if_neg (by simp [hw])]; exact h
  | 2 => simp only [wpTk]; rw [if_neg (by simp [hw])]; exact h
  | f + 3 => simp only [wpTk]; rw [if_neg (by simp [hw])]; exact h
theorem wpTk_l {o : Oper} {g : Option (Option Tmp × Bool)} {r : List (Oper × Nat × Option (Option Tmp × Bool))} {a : Act} {w : World} (hw : wantedAt g a.tmps = true)
    (h : ∀ K : Act → World → Prop, (∀ a w, F w → wpTk P Q F r a w → K a w) → o.wp P a w K Q) : wpTk P Q F ((o, 2, g) :: r) a w := by
  simp only [wpTk]; rw [if_pos hw]; exact .inl (h _ fun _ _ h1 h2 => ⟨h1, h2⟩)
theorem wpTk_e {o : Oper} {g : Option (Option Tmp × Bool)} {r : List (Oper × Nat × Option (Option Tmp × Bool))} {a : Act} {w : World} (hw : wantedAt g a.tmps = true)
    (h : ∀ K : Act → World → Prop, (∀ a w, wpTk P Q F r a w → K a w) → o.wp P a w K Q) : wpTk P Q F ((o, 3, g) :: r) a w := by
  simp only [wpTk]; rw [if_pos hw]; exact .inl (h _ fun _ _ h1 => h1)
theorem wpTk_nil {a : Act} {w : World} (h : Q .normal a w) : wpTk P Q F [] a w := h
end
end Go
