/- The main walk: the loop. -/
import Derived.Test.YtliikmmcbbmppaaDoorMn
namespace Go.Proofs.YtliikmmcbbmppaaDoor
open Go.RowKit Go.ChangeMaps

theorem st_start {w w1 w2 w3 w4 w5 : World} {size : Int} {M M' R R' : Nat} (ho : okSize size) (e9 : Chg [] w w1) (e1 : w1.heap.size = M) (e2 : w2 = w1.alloc (.cells #[.slice none 0 0] 60)) (e3 : w2.heap.size = M')
    (e4 : w3 = w2.alloc (.cells #[.slice none 0 0] 63)) (e5 : w3.heap.size + 1 = R)
    (e6 : w4 = (w3.alloc (.map #[] 0)).alloc (.cells #[.int .i64 size, .int .i64 0, .pointer (some ⟨M, 0, none⟩), .slice none 0 0, .map (some w3.heap.size)] 67))
    (e7 : w4.heap.size = R') (e8 : w5 = w4.alloc (.cells #[.int .i64 size, .pointer (some ⟨M', 0, none⟩), .slice none 0 0] 70)) : St w w5 size M R w3.heap.size M' R' [] [] [] [] 0 [] := by
  have s1 := e9.size
  have z2 : w2.heap.size = w1.heap.size + 1 := by rw [e2]; simp
  have z3 : w3.heap.size = w2.heap.size + 1 := by rw [e4]; simp
  have z4 : w4.heap.size = w3.heap.size + 2 := by rw [e6]; simp
  have m2 : w2.heap[M]? = some (.cells #[.slice none 0 0] 60 (0, 0)) := by rw [e2]; exact alloc_last e1.symm
  have m3 : w3.heap[M]? = some (.cells #[.slice none 0 0] 60 (0, 0)) := by rw [e4]; exact alloc_old m2
  have m4 : w4.heap[M]? = some (.cells #[.slice none 0 0] 60 (0, 0)) := by rw [e6]; exact alloc_old (alloc_old m3)
  have n3 : w3.heap[M']? = some (.cells #[.slice none 0 0] 63 (0, 0)) := by rw [e4]; exact alloc_last e3.symm
  have n4 : w4.heap[M']? = some (.cells #[.slice none 0 0] 63 (0, 0)) := by rw [e6]; exact alloc_old (alloc_old n3)
  have c2 : Chg [] w w2 := by rw [e2]; exact e9.alloc _
  have c3 : Chg [] w w3 := by rw [e4]; exact c2.alloc _
  have c4 : Chg [] w w4 := by rw [e6]; exact (c3.alloc _).alloc _
  have t4 : w4.heap[w3.heap.size]? = some (.map #[] 0) := by rw [e6]; exact alloc_old (heap_alloc_new _ _)
  have r4 : w4.heap[R]? = some (.cells #[.int .i64 size, .int .i64 0, .pointer (some ⟨M, 0, none⟩), .slice none 0 0, .map (some w3.heap.size)] 67 (0, 0)) := by
    rw [e6]; exact alloc_last (by simp; omega)
  rw [e8]
  exact st_new (c4.alloc _) ho (alloc_old m4) (alloc_old t4) (alloc_old r4) (alloc_old n4) (alloc_last e7.symm) (by omega) (by omega) (by omega) (by omega) (by omega)

theorem new_cell (w : World) (cs : Array Value) (e : TypeId) (k : Nat) : (w.alloc (.cells cs e)).cell? ⟨w.heap.size, k, none⟩ = cs[k]? := cell_of_row _ _ _ _ _ _ (heap_alloc_new w _)
theorem St.step {w0 w : World} {size : Int} {M R T M' R' : Nat} {A : AM} {q : List ARec} {A' : AM} {q' : List ARec} {k : Nat} (h : St w0 w size M R T M' R' A q A' q' k []) (cs : Array Value) : St w0 (w.alloc (.cells cs 38)) size M R T M' R' A q A' q' k [w.heap.size] :=
  h.other (S := []) ((Chg.refl _ _).alloc _) (by simp) (by simp)

theorem St.more {w0 w w1 : World} {size : Int} {M R T M' R' : Nat} {A : AM} {q : List ARec} {A' : AM} {q' : List ARec} {k m c : Nat} {b : Value} {zs : List Int} (h : St w0 w size M R T M' R' A q A' q' k [c]) (hc : Copy w w1 b m zs) :
    St w0 w1 size M R T M' R' A q A' q' k (c :: b.ownBlock.toList) :=
  h.other (S := []) hc.chg (by simp) fun z hz => by
    rcases List.mem_cons.1 hz with rfl | hz
    · exact .inl (by simp)
    · rw [Option.mem_toList] at hz
      have := hc.new z hz
      exact .inr ⟨by omega, this.2⟩
theorem St.drew {w0 w : World} {size : Int} {M R T M' R' : Nat} {A : AM} {q : List ARec} {A' : AM} {q' : List ARec} {k : Nat} {Z : List Nat} (h : St w0 w size M R T M' R' A q A' q' k Z) : St w0 w.drew size M R T M' R' A q A' q' k Z :=
  h.other (S := []) (Chg.refl _ _).drew (by simp) fun z hz => .inl hz
theorem Src.drew {w : World} {sp : Option Addr} {m : Nat} {zs : List Int} (h : Src w sp m zs) : Src w.drew sp m zs := ⟨h.len, h.cell, h.none⟩

theorem cut_mem {O : List RecL} {Z : List Nat} {x : Value} {g : Nat} (hx : x ∈ O.map cutv) (hg : x.ownBlock = some g) : g ∈ Z ++ O.map (·.bb) := by
  obtain ⟨y, hy, rfl⟩ := List.mem_map.1 hx
  have : y.bb = g := by simpa [cutv, Value.ownBlock] using hg
  subst this
  simp only [List.mem_append, List.mem_map]
  exact .inr ⟨y, hy, rfl⟩

theorem spoil_next {O : List RecL} {k : Nat} {x : RecL} {wc w7 w8 : World} (hx : O[k]? = some x) (hnd : (O.map (·.bb)).Nodup) (hc : Chg (O.map (·.bb)) wc w7) (hs : Chg (cutv x).ownBlock.toList w7 w8)
    (hr : ∀ (j : Nat) (x : RecL), k ≤ j → O[j]? = some x → RowAt w7 5 1 (cutv x) x.n (bytesV x.bytes)) :
    Chg (O.map (·.bb)) wc w8 ∧ ∀ (j : Nat) (x : RecL), k + 1 ≤ j → O[j]? = some x → RowAt w8 5 1 (cutv x) x.n (bytesV x.bytes) := by
  have hS : (cutv x).ownBlock.toList = [x.bb] := rfl
  rw [hS] at hs
  refine ⟨hc.trans hs fun y hy => .inl (by obtain rfl : y = x.bb := by simpa using hy
                                           exact List.mem_map.2 ⟨x, List.mem_of_getElem? hx, rfl⟩), fun j y hj hy => (hr j y (by omega) hy).chg hs fun g hg hm => ?_⟩
  obtain rfl : g = x.bb := by simpa using hm
  have e : y.bb = x.bb := by simpa [cutv, Value.ownBlock] using hg
  have hkl : k < (O.map (·.bb)).length := by rw [List.length_map]; exact (List.getElem?_eq_some_iff.1 hx).1
  have := nodup_inj (i := k) (j := j) hkl hnd (by simp [hx, hy, e])
  omega

set_option maxRecDepth 100000 in
set_option maxHeartbeats 20000000 in
theorem plays_ok {w : World} {ao : Option Addr} {l : List StepI} (size : Int) (hs : StepsIn w w.heap.size ao l) (cap : Nat) (hn : l.length ≤ cap) (hc : cap ≤ maxLen) (hf : fewB l = true) (ho : okSize size) :
    Calls Tryd.prog 3 #[.int .i64 size, .slice ao l.length cap] w fun e w' => e = .returned (.bool true) ∧ Chg [] w w' := by
  have HS := hide hs
  have h60 : l.length ≤ 60 := by unfold fewB at hf; simp at hf; exact hf.2
  have HM : Hid (∀ s ∈ l, s.m ≤ 4500) := by unfold fewB at hf; simp at hf; exact hf.1
  have HO := hide ho
  clear hs ho
  go_enter Tryd.func3, Tryd.ntmps3
  go_wp2_with (first
    | (go_at_call 4; refine (known_any _).mono ?_; rintro e w1 ⟨rfl, hw1⟩; have HW := hide hw1; clear hw1)
    | (go_at_call 5; refine (few_any (by exact HS.out.chg HW.out) cap hn hc).mono ?_; rintro e w2 ⟨rfl, rfl⟩; rw [hf])
    | (go_at_call 6; refine (newmem_any _).mono ?_; rintro e w2 ⟨rfl, hw2⟩; have HW2 := hide hw2; clear hw2; generalize hM : w1.heap.size = M; have HMM := hide hM; clear hM)
    | (go_at_call 7; refine (rnewmem_any _).mono ?_; rintro e w3 ⟨rfl, hw3⟩; have HW3 := hide hw3; clear hw3; generalize hM' : w2.heap.size = M'; have HMM' := hide hM'; clear hM')
    | (go_at_call 8; refine (newring_ok size _ _ HO.out).mono ?_; rintro e w4 ⟨rfl, hw4⟩; have HW4 := hide hw4; clear hw4; generalize hR : w3.heap.size + 1 = R; have HR := hide hR; clear hR)
    | (go_at_call 9; refine (rnewring_ok size _ _ HO.out).mono ?_; rintro e w5 ⟨rfl, hw5⟩; have HW5 := hide hw5; clear hw5; generalize hR' : w4.heap.size = R'; have HR' := hide hR'; clear hR'
       have HSt := hide (st_start HO.out HW.out HMM.out HW2.out HMM'.out HW3.out HR.out HW4.out HR'.out HW5.out)
       generalize w3.heap.size = T at HSt
       clear HW2 HW3 HW4 HW5 HMM HMM' HR HR'))
  go_loopg [11] l.length (fun gk s11 wr => ∃ (i : Nat) (A : AM) (q : List ARec), i ≤ l.length ∧ s11 = .int .i64 i ∧ gk = l.length - i ∧ St w wr size M R T M' R' A q A q (2 * i) [])
  case atStart => exact ⟨0, [], [], Nat.zero_le _, rfl, rfl, HSt.out⟩
  case round =>
    obtain ⟨i, A, q, hil, rfl, rfl, hst⟩ := hrel
    have HSt := hide hst
    clear hst
    by_cases hin : i < l.length
    · have hs : l[i]? = some l[i] := by simp [hin]
      generalize l[i] = sm at hs
      obtain ⟨g, off, rfl, hg, hc1, hc2, hc3⟩ := (HS.out.chg HSt.out.chg).at hs
      have HSrc := hide ((HS.out.chg HSt.out.chg).src sm (List.mem_of_getElem? hs))
      have h45 := HM.out sm (List.mem_of_getElem? hs)
      obtain ⟨what, nn, bp, m, c, zs⟩ := sm
      simp only [StepI.bv] at hc1 hc2 hc3 HSrc h45
      have hiz : (i : Int) < (l.length : Int) := by omega
      have HL := hide hs
      clear hs
      have hst1 := HSt.out.step #[.int .i64 what, .int .i64 nn, .slice bp m c]
      have HSt1 := hide hst1
      clear hst1
      by_cases h0 : what = 0
      · subst h0
        go_wp2_with (first
          | (go_at_call 10; refine (St.m_reserve (by exact HSt1.out) (by omega) nn).mono ?_; rintro e wa ⟨rfl, sta, kza⟩; have hcc : wa.cell? ⟨wr.heap.size, 1, none⟩ = some (.int .i64 nn) := kza.cell (by simp) (new_cell wr _ 38 1); have HSa := hide sta; clear sta kza)
          | (go_at_call 11; refine (St.r_reserve (by exact HSa.out) (by omega) nn).mono ?_; rintro e wb ⟨rfl, stb, kzb⟩; have HSb := hide (stb.mono (k' := 2 * (i + 1)) (by omega) (Z' := []) (by simp)); clear stb kzb)
          | (go_at_call 24; refine (St.m_used (by exact HSb.out)).mono ?_; rintro e w9 ⟨rfl, rfl⟩)
          | (go_at_call 25; refine (St.r_used (by exact HSb.out) (by omega)).mono ?_; rintro e w9 ⟨rfl, rfl⟩)
          | (go_at_call 27; refine (St.m_pend (by exact HSb.out) (by omega)).mono ?_; rintro e wp ⟨ov, rfl, hov, hcv, _⟩; have HOV := hide hov; have HSp := hide (HSb.out.other hcv (by simp) (Z1 := []) (by simp)); clear hov hcv)
          | (go_at_call 28; refine (St.r_pend (by exact HSp.out) (by omega)).mono ?_; rintro e wq ⟨ov', rfl, hov', hcv', _⟩; have HOV1 := hide (HOV.out.chg hcv' (by simp)); have HOV2 := hide hov'; have HSq := hide (HSp.out.other hcv' (by simp) (Z1 := []) (by simp)); clear hov' hcv')
          | (go_at_call 26; refine (ints_same (by exact HOV1.out) (by exact HOV2.out) (by have := HSq.out.pend_len; omega)).mono ?_; rintro e wz ⟨rfl, hcz⟩; have HSz := hide (HSq.out.other hcz (by simp) (Z1 := []) (by simp)); clear hcz))
        go_roundg (l.length - (i + 1))
        case measure => omega
        case rel => exact ⟨i + 1, _, _, by omega, by simp, rfl, HSz.out⟩
      by_cases h1 : what = 1
      · subst h1
        go_wp2_with (first
          | (go_at_call 10; refine (St.m_reserve (by exact HSt1.out) (by omega) nn).mono ?_; rintro e wa ⟨rfl, sta, kza⟩; have hcc : wa.cell? ⟨wr.heap.size, 1, none⟩ = some (.int .i64 nn) := kza.cell (by simp) (new_cell wr _ 38 1); have HSa := hide sta; clear sta kza)
          | (go_at_call 11; refine (St.r_reserve (by exact HSa.out) (by omega) nn).mono ?_; rintro e wb ⟨rfl, stb, kzb⟩; have HSb := hide (stb.mono (k' := 2 * (i + 1)) (by omega) (Z' := []) (by simp)); clear stb kzb)
          | (go_at_call 24; refine (St.m_used (by exact HSb.out)).mono ?_; rintro e w9 ⟨rfl, rfl⟩)
          | (go_at_call 25; refine (St.r_used (by exact HSb.out) (by omega)).mono ?_; rintro e w9 ⟨rfl, rfl⟩)
          | (go_at_call 27; refine (St.m_pend (by exact HSb.out) (by omega)).mono ?_; rintro e wp ⟨ov, rfl, hov, hcv, _⟩; have HOV := hide hov; have HSp := hide (HSb.out.other hcv (by simp) (Z1 := []) (by simp)); clear hov hcv)
          | (go_at_call 28; refine (St.r_pend (by exact HSp.out) (by omega)).mono ?_; rintro e wq ⟨ov', rfl, hov', hcv', _⟩; have HOV1 := hide (HOV.out.chg hcv' (by simp)); have HOV2 := hide hov'; have HSq := hide (HSp.out.other hcv' (by simp) (Z1 := []) (by simp)); clear hov' hcv')
          | (go_at_call 26; refine (ints_same (by exact HOV1.out) (by exact HOV2.out) (by have := HSq.out.pend_len; omega)).mono ?_; rintro e wz ⟨rfl, hcz⟩; have HSz := hide (HSq.out.other hcz (by simp) (Z1 := []) (by simp)); clear hcz))
        go_roundg (l.length - (i + 1))
        case measure => omega
        case rel => exact ⟨i + 1, _, _, by omega, by simp, rfl, HSz.out⟩
      by_cases h2 : what = 2
      · subst h2
        go_wp2_with fail
        refine wp_region_tk [(0, 0), (1, 0), (2, 1), (4, 0), (5, 0), (6, 1), (3, 2), (7, 2), (8, 0), (9, 0)] 10 (fun w' => w'.cell? ⟨wr.heap.size, 1, none⟩ = some (.int .i64 nn)) (by kernel_rfl) (by kernel_rfl) (by kernel_rfl) rfl (by intro d v c a w h; cases d <;> exact h) (new_cell wr _ 38 1) ?_
        simp only [tkList, List.filterMap_cons, List.filterMap_nil, List.getElem?_toArray, List.getElem?_cons_zero, List.getElem?_cons_succ, Option.map_some, guardAt, Option.map_none, Oper.bare]
        apply wpTk_p rfl
        · intro _; first | rfl | (go_simp; rfl)
        (try simp only [Act.put]); (try go_simp)
        apply wpTk_p rfl
        · intro _; first | rfl | (go_simp; rfl)
        (try simp only [Act.put]); (try go_simp)
        apply wpTk_h rfl
        · intro w' hS; (try dsimp only at hS); go_simp; rfl
        (try simp only [Act.put]); (try go_simp)
        apply wpTk_p rfl
        · intro _; first | rfl | (go_simp; rfl)
        (try simp only [Act.put]); (try go_simp)
        apply wpTk_p rfl
        · intro _; first | rfl | (go_simp; rfl)
        (try simp only [Act.put]); (try go_simp)
        apply wpTk_h rfl
        · intro w' hS; (try dsimp only at hS); go_simp; rfl
        (try simp only [Act.put]); (try go_simp)
        apply wpTk_l rfl
        intro K hK
        go_simp; go_at_call 12; refine (St.m_submit (by exact HSt1.out.drew) nn).mono ?_; rintro e wa ⟨rfl, sta, kza⟩; have hcc : wa.cell? ⟨wr.heap.size, 1, none⟩ = some (.int .i64 nn) := kza.cell (by simp) (new_cell wr _ 38 1); have HSa := hide sta; clear sta; have HKa := hide kza; clear kza
        refine hK _ _ ?_ ?_
        · (exact hcc)
        clear hK K
        (try simp only [Act.put]); (try go_simp)
        apply wpTk_l rfl
        intro K hK
        go_simp; go_at_call 13; refine (St.r_submit (by exact HSa.out) (by omega) nn).mono ?_; rintro e wb ⟨rfl, stb, kzb⟩; have hcd : wb.cell? ⟨wr.heap.size, 1, none⟩ = some (.int .i64 nn) := kzb.cell (by simp) hcc; have HSb := hide (stb.mono (k' := 2 * (i + 1)) (by omega) (Z' := []) (by simp)); clear stb kzb
        refine hK _ _ ?_ ?_
        · (exact hcd)
        clear hK K
        (try simp only [Act.put]); (try go_simp)
        apply wpTk_p rfl
        · intro _; first | rfl | (go_simp; rfl)
        (try simp only [Act.put]); (try go_simp)
        apply wpTk_p rfl
        · intro _; first | rfl | (go_simp; rfl)
        (try simp only [Act.put]); (try go_simp)
        apply wpTk_nil
        go_wp2_with (first
          | (go_at_call 24; refine (St.m_used (by exact HSb.out)).mono ?_; rintro e w9 ⟨rfl, rfl⟩)
          | (go_at_call 25; refine (St.r_used (by exact HSb.out) (by omega)).mono ?_; rintro e w9 ⟨rfl, rfl⟩)
          | (go_at_call 27; refine (St.m_pend (by exact HSb.out) (by omega)).mono ?_; rintro e wp ⟨ov, rfl, hov, hcv, _⟩; have HOV := hide hov; have HSp := hide (HSb.out.other hcv (by simp) (Z1 := []) (by simp)); clear hov hcv)
          | (go_at_call 28; refine (St.r_pend (by exact HSp.out) (by omega)).mono ?_; rintro e wq ⟨ov', rfl, hov', hcv', _⟩; have HOV1 := hide (HOV.out.chg hcv' (by simp)); have HOV2 := hide hov'; have HSq := hide (HSp.out.other hcv' (by simp) (Z1 := []) (by simp)); clear hov' hcv')
          | (go_at_call 26; refine (ints_same (by exact HOV1.out) (by exact HOV2.out) (by have := HSq.out.pend_len; omega)).mono ?_; rintro e wz ⟨rfl, hcz⟩; have HSz := hide (HSq.out.other hcz (by simp) (Z1 := []) (by simp)); clear hcz))
        go_roundg (l.length - (i + 1))
        case measure => omega
        case rel => exact ⟨i + 1, _, _, by omega, by simp, rfl, HSz.out⟩
      by_cases h3 : what = 3
      · subst h3
        go_wp2_with fail
        refine wp_region_tk [(0, 0), (1, 0), (2, 1), (4, 0), (5, 0), (6, 1), (3, 2), (7, 2), (8, 0), (9, 0)] 10 (fun w' => w'.cell? ⟨wr.heap.size, 1, none⟩ = some (.int .i64 nn)) (by kernel_rfl) (by kernel_rfl) (by kernel_rfl) rfl (by intro d v c a w h; cases d <;> exact h) (new_cell wr _ 38 1) ?_
        simp only [tkList, List.filterMap_cons, List.filterMap_nil, List.getElem?_toArray, List.getElem?_cons_zero, List.getElem?_cons_succ, Option.map_some, guardAt, Option.map_none, Oper.bare]
        apply wpTk_p rfl
        · intro _; first | rfl | (go_simp; rfl)
        (try simp only [Act.put]); (try go_simp)
        apply wpTk_p rfl
        · intro _; first | rfl | (go_simp; rfl)
        (try simp only [Act.put]); (try go_simp)
        apply wpTk_h rfl
        · intro w' hS; (try dsimp only at hS); go_simp; rfl
        (try simp only [Act.put]); (try go_simp)
        apply wpTk_p rfl
        · intro _; first | rfl | (go_simp; rfl)
        (try simp only [Act.put]); (try go_simp)
        apply wpTk_p rfl
        · intro _; first | rfl | (go_simp; rfl)
        (try simp only [Act.put]); (try go_simp)
        apply wpTk_h rfl
        · intro w' hS; (try dsimp only at hS); go_simp; rfl
        (try simp only [Act.put]); (try go_simp)
        apply wpTk_l rfl
        intro K hK
        go_simp; go_at_call 14; refine (St.m_discard (by exact HSt1.out.drew) nn).mono ?_; rintro e wa ⟨rfl, sta, kza⟩; have hcc : wa.cell? ⟨wr.heap.size, 1, none⟩ = some (.int .i64 nn) := kza.cell (by simp) (new_cell wr _ 38 1); have HSa := hide sta; clear sta; have HKa := hide kza; clear kza
        refine hK _ _ ?_ ?_
        · (exact hcc)
        clear hK K
        (try simp only [Act.put]); (try go_simp)
        apply wpTk_l rfl
        intro K hK
        go_simp; go_at_call 15; refine (St.r_discard (by exact HSa.out) (by omega) nn).mono ?_; rintro e wb ⟨rfl, stb, kzb⟩; have hcd : wb.cell? ⟨wr.heap.size, 1, none⟩ = some (.int .i64 nn) := kzb.cell (by simp) hcc; have HSb := hide (stb.mono (k' := 2 * (i + 1)) (by omega) (Z' := []) (by simp)); clear stb kzb
        refine hK _ _ ?_ ?_
        · (exact hcd)
        clear hK K
        (try simp only [Act.put]); (try go_simp)
        apply wpTk_p rfl
        · intro _; first | rfl | (go_simp; rfl)
        (try simp only [Act.put]); (try go_simp)
        apply wpTk_p rfl
        · intro _; first | rfl | (go_simp; rfl)
        (try simp only [Act.put]); (try go_simp)
        apply wpTk_nil
        go_wp2_with (first
          | (go_at_call 24; refine (St.m_used (by exact HSb.out)).mono ?_; rintro e w9 ⟨rfl, rfl⟩)
          | (go_at_call 25; refine (St.r_used (by exact HSb.out) (by omega)).mono ?_; rintro e w9 ⟨rfl, rfl⟩)
          | (go_at_call 27; refine (St.m_pend (by exact HSb.out) (by omega)).mono ?_; rintro e wp ⟨ov, rfl, hov, hcv, _⟩; have HOV := hide hov; have HSp := hide (HSb.out.other hcv (by simp) (Z1 := []) (by simp)); clear hov hcv)
          | (go_at_call 28; refine (St.r_pend (by exact HSp.out) (by omega)).mono ?_; rintro e wq ⟨ov', rfl, hov', hcv', _⟩; have HOV1 := hide (HOV.out.chg hcv' (by simp)); have HOV2 := hide hov'; have HSq := hide (HSp.out.other hcv' (by simp) (Z1 := []) (by simp)); clear hov' hcv')
          | (go_at_call 26; refine (ints_same (by exact HOV1.out) (by exact HOV2.out) (by have := HSq.out.pend_len; omega)).mono ?_; rintro e wz ⟨rfl, hcz⟩; have HSz := hide (HSq.out.other hcz (by simp) (Z1 := []) (by simp)); clear hcz))
        go_roundg (l.length - (i + 1))
        case measure => omega
        case rel => exact ⟨i + 1, _, _, by omega, by simp, rfl, HSz.out⟩
      by_cases h4 : what = 4
      · subst h4
        have HSw := hide ((HS.out.src _ (List.mem_of_getElem? HL.out)))
        go_wp2_with (at_builtin; refine wpList_copy_src rfl (.tmp 130) rfl bp m c zs rfl (by exact HSw.out.1.chg (HSt1.out.chg) (by simp)) (by omega) ?_; intro b w1 hcp; obtain ⟨sp, cb, rfl, hsb, hbl⟩ := hcp.src; have hcc : w1.cell? ⟨wr.heap.size, 2, none⟩ = some (.slice bp m c) := (hcp.chg.cell (by simp) (by simp)).trans (new_cell wr _ 38 2); have HSB := hide hsb; have HBL := hide hbl; have HRB := hide hcp.row; have HS2 := hide (HSt1.out.more hcp); clear hcp hsb hbl)
        refine wp_region_tk [(0, 0), (1, 0), (3, 0), (4, 0), (5, 1), (2, 2), (6, 2), (7, 0), (8, 0)] 9 (fun w' => w'.cell? ⟨wr.heap.size, 2, none⟩ = some (.slice bp m c)) (by kernel_rfl) (by kernel_rfl) (by kernel_rfl) rfl (by intro d v c a w h; cases d <;> exact h) hcc ?_
        simp only [tkList, List.filterMap_cons, List.filterMap_nil, List.getElem?_toArray, List.getElem?_cons_zero, List.getElem?_cons_succ, Option.map_some, guardAt, Option.map_none, Oper.bare]
        apply wpTk_p rfl
        · intro _; first | rfl | (go_simp; rfl)
        (try simp only [Act.put]); (try go_simp)
        apply wpTk_p rfl
        · intro _; first | rfl | (go_simp; rfl)
        (try simp only [Act.put]); (try go_simp)
        apply wpTk_p rfl
        · intro _; first | rfl | (go_simp; rfl)
        (try simp only [Act.put]); (try go_simp)
        apply wpTk_p rfl
        · intro _; first | rfl | (go_simp; rfl)
        (try simp only [Act.put]); (try go_simp)
        apply wpTk_h rfl
        · intro w' hS; (try dsimp only at hS); go_simp; rfl
        (try simp only [Act.put]); (try go_simp)
        apply wpTk_l rfl
        intro K hK
        go_simp; go_at_call 16; refine (St.m_output (by exact HS2.out.drew) (by omega) sp m cb zs HSB.out.drew (by intro ad had; subst had; simp [Value.ownBlock])).mono ?_; rintro e wa ⟨rfl, sta, kza⟩; have hcd : wa.cell? ⟨wr.heap.size, 2, none⟩ = some (.slice bp m c) := kza.cell (by simp) hcc; have HR1 := hide (kza.row HRB.out (by intro g hg; simp [hg])); have HSa := hide sta; clear sta; clear kza
        refine hK _ _ ?_ ?_
        · (exact hcd)
        clear hK K
        (try simp only [Act.put]); (try go_simp)
        apply wpTk_l rfl
        intro K hK
        go_simp; go_at_call 17; refine (St.r_output (by exact HSa.out) (by omega) bp m c zs (by exact HSw.out.1.chg (HSa.out.chg) (by simp)) HSw.out.2.1).mono ?_; rintro e wb ⟨rfl, stb, kzb⟩; have hce : wb.cell? ⟨wr.heap.size, 2, none⟩ = some (.slice bp m c) := kzb.cell (by simp) hcd; have HR2 := hide (kzb.row HR1.out (by intro g hg; simp [hg])); have HSc := hide stb; clear stb kzb
        refine hK _ _ ?_ ?_
        · (exact hce)
        clear hK K
        (try simp only [Act.put]); (try go_simp)
        apply wpTk_p rfl
        · intro _; first | rfl | (go_simp; rfl)
        (try simp only [Act.put]); (try go_simp)
        apply wpTk_p rfl
        · intro _; first | rfl | (go_simp; rfl)
        (try simp only [Act.put]); (try go_simp)
        apply wpTk_nil
        go_wp2_with (first
          | (go_at_call 18; refine (spoil_any (by exact HR2.out) (by omega)).mono ?_; rintro e wc ⟨⟨u, rfl⟩, hsc⟩; have HSb := hide ((HSc.out.other (Z1 := []) hsc (fun x hx => .inl (by simp [hx])) (by simp)).mono (k' := 2 * (i + 1)) (by omega) (Z' := []) (by simp)); clear hsc)
          | (go_at_call 24; refine (St.m_used (by exact HSb.out)).mono ?_; rintro e w9 ⟨rfl, rfl⟩)
          | (go_at_call 25; refine (St.r_used (by exact HSb.out) (by omega)).mono ?_; rintro e w9 ⟨rfl, rfl⟩)
          | (go_at_call 27; refine (St.m_pend (by exact HSb.out) (by omega)).mono ?_; rintro e wp ⟨ov, rfl, hov, hcv, _⟩; have HOV := hide hov; have HSp := hide (HSb.out.other hcv (by simp) (Z1 := []) (by simp)); clear hov hcv)
          | (go_at_call 28; refine (St.r_pend (by exact HSp.out) (by omega)).mono ?_; rintro e wq ⟨ov', rfl, hov', hcv', _⟩; have HOV1 := hide (HOV.out.chg hcv' (by simp)); have HOV2 := hide hov'; have HSq := hide (HSp.out.other hcv' (by simp) (Z1 := []) (by simp)); clear hov' hcv')
          | (go_at_call 26; refine (ints_same (by exact HOV1.out) (by exact HOV2.out) (by have := HSq.out.pend_len; omega)).mono ?_; rintro e wz ⟨rfl, hcz⟩; have HSz := hide (HSq.out.other hcz (by simp) (Z1 := []) (by simp)); clear hcz))
        go_roundg (l.length - (i + 1))
        case measure => omega
        case rel => exact ⟨i + 1, _, _, by omega, by simp, rfl, HSz.out⟩
      by_cases h5 : what = 5
      · subst h5
        go_wp2_with (first
          | (go_at_call 19; refine (St.m_read (by exact HSt1.out) (by omega)).mono ?_; rintro e wa ⟨xv, O, rfl, hOl, hO, hnd, hrw, hne, sta⟩; obtain ⟨xo, xcap, rfl, hx1, hx2, hx3⟩ := hO.row.shape; have HO1 := hide hO; have HND := hide hnd; have HRW := hide hrw; have HNE := hide hne; have HSa := hide sta; clear hO hnd hrw hne sta)
          | (go_at_call 20; refine (St.r_read (by exact HSa.out) (by omega)).mono ?_; rintro e wb ⟨yv, O', rfl, hO', stb, kzb⟩; have HSc := hide stb; have HO2 := hide (HO1.out.chg kzb (by intro g hg; simp [hg]) (by intro x hx g hg; exact cut_mem hx hg)); have HRW2 := hide (fun x (hx : x ∈ O) => kzb.row (HRW.out x hx) (by intro g hg; exact cut_mem (List.mem_map.2 ⟨x, hx, rfl⟩) hg)); have HO3 := hide hO'; clear stb kzb hO')
          | (go_at_call 21; refine (outs_same (by exact HO2.out) (by exact HO3.out) (by omega)).mono ?_; rintro e wc ⟨rfl, hcw⟩; have HCW := hide hcw; clear hcw))
        go_loopg [21] O.length (fun gk s21 w7 => ∃ k : Nat, k ≤ O.length ∧ s21 = .int .i64 k ∧ gk = O.length - k ∧ Chg (O.map (·.bb)) wc w7 ∧ ∀ (j : Nat) (x : RecL), k ≤ j → O[j]? = some x → RowAt w7 5 1 (cutv x) x.n (bytesV x.bytes))
        case atStart => exact ⟨0, Nat.zero_le _, rfl, rfl, Chg.refl _ _, fun j x _ hx => (HRW2.out x (List.mem_of_getElem? hx)).chg HCW.out (by simp)⟩
        case round =>
          obtain ⟨k, hkl, rfl, rfl, hch, hro⟩ := hrel
          have HCH := hide hch
          have HRO := hide hro
          clear hch hro
          by_cases hkn : k < O.length
          · obtain ⟨x, hx⟩ : ∃ x, O[k]? = some x := ⟨O[k], by simp [hkn]⟩
            have hrow := HO2.out.row.chg HCW.out (by simp)
            obtain ⟨g1, off1, rfl⟩ : ∃ g off, xo = some ⟨g, off, none⟩ := by
              rcases hrow.2 with ⟨_, h0⟩ | ⟨g, off, cap', cur, h0, _⟩
              · omega
              · exact ⟨g, off, by cases h0; rfl⟩
            have hu : (O.map cutv)[k]? = some (cutv x) := by simp [hx]
            have hcx := (RowAt.cell hrow hu).1
            have hcx := (HCH.out.cell (World.block_lt_of_cell? _ _ hcx) (by
              intro hm
              obtain ⟨y, hy, hyb⟩ := List.mem_map.1 hm
              exact HNE.out y hy (by simp [Value.ownBlock, hyb]))).trans hcx
            have HX := hide hx
            have hrx := HRO.out k x (Nat.le_refl _) hx
            have hxn : x.n ≤ 9223372036854775807 := by obtain ⟨_, _, _, h1, h2, _⟩ := hrx.shape; simp only [maxLen] at h2; omega
            have HRX := hide hrx
            have hkz : (k : Int) < (O.length : Int) := by omega
            clear hrow hu hx hrx
            go_wp2_with (first
              | (go_at_call 18; refine (spoil_any (by exact HRX.out) hxn).mono ?_; rintro e w8 ⟨⟨u, rfl⟩, hsc⟩; have HSC := hide hsc; clear hsc))
            go_roundg (O.length - (k + 1))
            case measure => omega
            case rel => exact ⟨k + 1, by omega, by simp, rfl, spoil_next HX.out HND.out HCH.out HSC.out HRO.out⟩
          · obtain rfl : k = O.length := by omega
            have hkz : ¬ ((O.length : Int) < (O.length : Int)) := by omega
            have HSb := hide (((HSc.out.other (S := []) HCW.out (by simp) (fun z hz => .inl hz)).other (Z1 := []) HCH.out (fun x hx => .inl (by simp only [List.mem_append]; exact .inr hx)) (by simp)).mono (k' := 2 * (i + 1)) (by omega) (Z' := []) (by simp))
            go_wp2_with (first
              | (go_at_call 24; refine (St.m_used (by exact HSb.out)).mono ?_; rintro e w9 ⟨rfl, rfl⟩)
              | (go_at_call 25; refine (St.r_used (by exact HSb.out) (by omega)).mono ?_; rintro e w9 ⟨rfl, rfl⟩)
              | (go_at_call 27; refine (St.m_pend (by exact HSb.out) (by omega)).mono ?_; rintro e wp ⟨ov, rfl, hov, hcv, _⟩; have HOV := hide hov; have HSp := hide (HSb.out.other hcv (by simp) (Z1 := []) (by simp)); clear hov hcv)
              | (go_at_call 28; refine (St.r_pend (by exact HSp.out) (by omega)).mono ?_; rintro e wq ⟨ov', rfl, hov', hcv', _⟩; have HOV1 := hide (HOV.out.chg hcv' (by simp)); have HOV2 := hide hov'; have HSq := hide (HSp.out.other hcv' (by simp) (Z1 := []) (by simp)); clear hov' hcv')
              | (go_at_call 26; refine (ints_same (by exact HOV1.out) (by exact HOV2.out) (by have := HSq.out.pend_len; omega)).mono ?_; rintro e wz ⟨rfl, hcz⟩; have HSz := hide (HSq.out.other hcz (by simp) (Z1 := []) (by simp)); clear hcz))
            go_roundg (l.length - (i + 1))
            case measure => omega
            case rel => exact ⟨i + 1, _, _, by omega, by simp, rfl, HSz.out⟩
      · go_wp2_with fail
        have HSw := hide ((HS.out.src _ (List.mem_of_getElem? HL.out)))
        refine wp_region_tk [(0, 0), (1, 0), (2, 1), (3, 0), (4, 1), (7, 0), (8, 0), (9, 1), (10, 0), (11, 1), (5, 2), (6, 2), (12, 2), (13, 0), (14, 0)] 15 (fun w' => w'.cell? ⟨wr.heap.size, 1, none⟩ = some (.int .i64 nn) ∧ w'.cell? ⟨wr.heap.size, 2, none⟩ = some (.slice bp m c)) (by kernel_rfl) (by kernel_rfl) (by kernel_rfl) rfl (by intro d v c a w h; cases d <;> exact h) ⟨new_cell wr _ 38 1, new_cell wr _ 38 2⟩ ?_
        simp only [tkList, List.filterMap_cons, List.filterMap_nil, List.getElem?_toArray, List.getElem?_cons_zero, List.getElem?_cons_succ, Option.map_some, guardAt, Option.map_none, Oper.bare]
        apply wpTk_p rfl
        · intro _; first | rfl | (go_simp; rfl)
        (try simp only [Act.put]); (try go_simp)
        apply wpTk_p rfl
        · intro _; first | rfl | (go_simp; rfl)
        (try simp only [Act.put]); (try go_simp)
        apply wpTk_h rfl
        · intro w' hS; (try dsimp only at hS); go_simp; rfl
        (try simp only [Act.put]); (try go_simp)
        apply wpTk_p rfl
        · intro _; first | rfl | (go_simp; rfl)
        (try simp only [Act.put]); (try go_simp)
        apply wpTk_h rfl
        · intro w' hS; (try dsimp only at hS); go_simp; rfl
        (try simp only [Act.put]); (try go_simp)
        apply wpTk_p rfl
        · intro _; first | rfl | (go_simp; rfl)
        (try simp only [Act.put]); (try go_simp)
        apply wpTk_p rfl
        · intro _; first | rfl | (go_simp; rfl)
        (try simp only [Act.put]); (try go_simp)
        apply wpTk_h rfl
        · intro w' hS; (try dsimp only at hS); go_simp; rfl
        (try simp only [Act.put]); (try go_simp)
        apply wpTk_p rfl
        · intro _; first | rfl | (go_simp; rfl)
        (try simp only [Act.put]); (try go_simp)
        apply wpTk_h rfl
        · intro w' hS; (try dsimp only at hS); go_simp; rfl
        (try simp only [Act.put]); (try go_simp)
        apply wpTk_l rfl
        intro K hK
        refine wp_copy_src (.tmp 70) rfl bp m c zs rfl (by exact HSw.out.1.chg (HSt1.out.drew.chg) (by simp)) (by omega) ?_; intro b w1 hcp; obtain ⟨sp, cb, rfl, hsb, hbl⟩ := hcp.src; have hcc : w1.cell? ⟨wr.heap.size, 1, none⟩ = some (.int .i64 nn) ∧ w1.cell? ⟨wr.heap.size, 2, none⟩ = some (.slice bp m c) := ⟨(hcp.chg.cell (by simp) (by simp)).trans (new_cell wr _ 38 1), (hcp.chg.cell (by simp) (by simp)).trans (new_cell wr _ 38 2)⟩; have HCC := hide hcc; have HSB := hide hsb; have HS2 := hide ((HSt1.out.drew.more hcp).mono (k' := 2 * i) (by omega) (Z' := [wr.heap.size]) (by simp)); clear hcp hsb hbl hcc
        refine hK _ _ ?_ ?_
        · (exact HCC.out)
        clear hK K
        (try simp only [Act.put]); (try go_simp)
        apply wpTk_l rfl
        intro K hK
        go_simp; go_at_call 22; refine (St.m_set (by exact HS2.out) nn sp m cb zs HSB.out).mono ?_; rintro e wa ⟨rfl, sta, kza⟩; have hcd : wa.cell? ⟨wr.heap.size, 1, none⟩ = some (.int .i64 nn) ∧ wa.cell? ⟨wr.heap.size, 2, none⟩ = some (.slice bp m c) := ⟨kza.cell (by simp) HCC.out.1, kza.cell (by simp) HCC.out.2⟩; have HCD := hide hcd; have HSa := hide sta; clear sta kza hcd
        refine hK _ _ ?_ ?_
        · (exact HCD.out)
        clear hK K
        (try simp only [Act.put]); (try go_simp)
        apply wpTk_l rfl
        intro K hK
        go_simp; go_at_call 23; refine (St.r_set (by exact HSa.out) nn bp m c zs (by exact HSw.out.1.chg (HSa.out.chg) (by simp))).mono ?_; rintro e wb ⟨rfl, stb, kzb⟩; have hce : wb.cell? ⟨wr.heap.size, 1, none⟩ = some (.int .i64 nn) ∧ wb.cell? ⟨wr.heap.size, 2, none⟩ = some (.slice bp m c) := ⟨kzb.cell (by simp) HCD.out.1, kzb.cell (by simp) HCD.out.2⟩; have HCE := hide hce; have HSb := hide (stb.mono (k' := 2 * (i + 1)) (by omega) (Z' := []) (by simp)); clear stb kzb hce
        refine hK _ _ ?_ ?_
        · (exact HCE.out)
        clear hK K
        (try simp only [Act.put]); (try go_simp)
        apply wpTk_p rfl
        · intro _; first | rfl | (go_simp; rfl)
        (try simp only [Act.put]); (try go_simp)
        apply wpTk_p rfl
        · intro _; first | rfl | (go_simp; rfl)
        (try simp only [Act.put]); (try go_simp)
        apply wpTk_nil
        go_wp2_with (first
          | (go_at_call 24; refine (St.m_used (by exact HSb.out)).mono ?_; rintro e w9 ⟨rfl, rfl⟩)
          | (go_at_call 25; refine (St.r_used (by exact HSb.out) (by omega)).mono ?_; rintro e w9 ⟨rfl, rfl⟩)
          | (go_at_call 27; refine (St.m_pend (by exact HSb.out) (by omega)).mono ?_; rintro e wp ⟨ov, rfl, hov, hcv, _⟩; have HOV := hide hov; have HSp := hide (HSb.out.other hcv (by simp) (Z1 := []) (by simp)); clear hov hcv)
          | (go_at_call 28; refine (St.r_pend (by exact HSp.out) (by omega)).mono ?_; rintro e wq ⟨ov', rfl, hov', hcv', _⟩; have HOV1 := hide (HOV.out.chg hcv' (by simp)); have HOV2 := hide hov'; have HSq := hide (HSp.out.other hcv' (by simp) (Z1 := []) (by simp)); clear hov' hcv')
          | (go_at_call 26; refine (ints_same (by exact HOV1.out) (by exact HOV2.out) (by have := HSq.out.pend_len; omega)).mono ?_; rintro e wz ⟨rfl, hcz⟩; have HSz := hide (HSq.out.other hcz (by simp) (Z1 := []) (by simp)); clear hcz))
        go_roundg (l.length - (i + 1))
        case measure => omega
        case rel => exact ⟨i + 1, _, _, by omega, by simp, rfl, HSz.out⟩
    · obtain rfl : i = l.length := by omega
      have hiz : ¬ ((l.length : Int) < (l.length : Int)) := by omega
      go_wp2_with fail
      go_loopg [22] l.length (fun gk s22 wr2 => ∃ j : Nat, 1 ≤ j ∧ j ≤ l.length + 1 ∧ s22 = .int .i64 j ∧ gk = l.length + 1 - j ∧ St w wr2 size M R T M' R' A q A q (2 * l.length) [])
      case atStart => exact ⟨1, by omega, by omega, rfl, by omega, HSt.out⟩
      case round =>
        obtain ⟨j, hj1, hjl, rfl, rfl, hst2⟩ := hrel
        have HSt2 := hide hst2
        clear hst2
        by_cases hjn : j ≤ l.length
        · have hjz : (j : Int) ≤ (l.length : Int) := by omega
          go_wp2_with (first
            | (go_at_call 29; refine (St.m_live (by exact HSt2.out) (j : Int)).mono ?_; rintro e w9 ⟨rfl, rfl⟩)
            | (go_at_call 30; refine (St.r_live (by exact HSt2.out) (j : Int)).mono ?_; rintro e w9 ⟨rfl, rfl⟩))
          go_roundg (l.length + 1 - (j + 1))
          case measure => omega
          case rel => exact ⟨j + 1, by omega, by omega, by simp, rfl, HSt2.out⟩
        · have hjz : ¬ ((j : Int) ≤ (l.length : Int)) := by omega
          go_wp2_with fail
          go_ret
          exact ⟨rfl, HSt2.out.chg⟩
end Go.Proofs.YtliikmmcbbmppaaDoor
