/- The end of a record of the reference's ring: the walk; Submit, Discard, Output. -/
import Derived.Test.YtliikmmcbbmppaaDoorREnd
namespace Go.Proofs.YtliikmmcbbmppaaDoor
open Go.RowKit Go.ChangeMaps

set_option maxRecDepth 100000 in
set_option maxHeartbeats 600000 in
theorem rends_any {w : World} {M R : Nat} {v lv : Value} {L : List RegL} {size : Int} {Q : List RecL} (h : AllR w M R v L size lv Q) (hQ : Q.length ≤ 1000) (id : Int) (st : Nat) (hst : st ≠ 0) :
    Calls Tryd.prog 36 #[.pointer (some ⟨R, 0, none⟩), .int .i64 id, .int .i64 (st : Nat)] w (REndPost w M R v L size lv Q id st) := by
  obtain ⟨i5, hi5, hx0, hx1, hx2⟩ := info_parts Tryd.info5
  obtain ⟨ao, cap, rfl, hnc, hcm, hao⟩ := h.ring.row.shape
  have hc1 : w.cell? ⟨R, 1, none⟩ = some (.pointer (some ⟨M, 0, none⟩)) := by rw [cell_of_row w R 1 _ _ _ h.ring.root]; rfl
  have hc2 : w.cell? ⟨R, 2, none⟩ = some (.slice ao Q.length cap) := by rw [cell_of_row w R 2 _ _ _ h.ring.root]; rfl
  have H := hide h
  have HST := hide hst
  clear h hao hst
  go_enter Tryd.func36, Tryd.ntmps36
  go_wp2_with fail
  go_loopg [7] Q.length (fun gk s7 wr => w = wr ∧ ∃ i : Nat, i ≤ Q.length ∧ s7 = .int .i64 i ∧ gk = Q.length - i ∧ ∀ q ∈ Q.take i, ¬((q.id : Int) = id ∧ q.st = 0))
  case atStart => exact ⟨rfl, 0, Nat.zero_le _, rfl, rfl, by simp⟩
  case round =>
    obtain ⟨rfl, i, hil, rfl, rfl, hno⟩ := hrel
    have HNO := hide hno
    clear hno
    by_cases hin : i < Q.length
    · obtain ⟨q, hq⟩ : ∃ q, Q[i]? = some q := ⟨Q[i], by simp [hin]⟩
      obtain ⟨g, off, hao'⟩ : ∃ g off, ao = some ⟨g, off, none⟩ := by
        rcases H.out.ring.row.2 with ⟨_, h0⟩ | ⟨g, off, cap', cur, h0, _⟩
        · omega
        · exact ⟨g, off, by cases h0; rfl⟩
      subst hao'
      obtain ⟨hg0, hg1, hg2, hg3⟩ := H.out.ring.cells hq
      have hiz : (i : Int) < (Q.length : Int) := by omega
      have HQ := hide hq
      clear hq
      by_cases hid : (q.id : Int) = id
      · by_cases hs0 : q.st = 0
        · have hs0' : (q.st : Int) = 0 := by omega
          obtain ⟨hid1, r, hr, hlen⟩ := H.out.tie q (List.mem_of_getElem? HQ.out) hs0
          have hidm : id = ((q.id - 1 : Nat) : Int) + 1 := by omega
          obtain ⟨hn1, hn2⟩ := H.out.ring.pos q (List.mem_of_getElem? HQ.out)
          have hby := rbytes_any H.out.mem hr
          rw [← hidm] at hby
          obtain ⟨hrp, hrr, _⟩ := H.out.mem.reg r (List.mem_of_getElem? hr)
          have hnews : ∀ j u, (bytesV r.bytes)[j]? = some u → w.cell? ((⟨r.bb, r.bo, none⟩ : Addr).add j) = some u := fun j u hj => by rw [add_row]; exact (RowAt.cell hrr hj).1
          have hgl : g < w.heap.size := H.out.ring.row.lt g rfl
          have hRl := lt_of_blk H.out.ring.root
          have hgR : g ≠ R := fun e => own_ne H.out.ring.row H.out.ring.root (by decide) (by simp [Value.ownBlock, e])
          have hfz : w.frozen? ⟨g, off + i * 4 + 3, none⟩ = false := by
            obtain ⟨_, _, _, h3⟩ := cellsR_at HQ.out
            exact (RowAt.cell H.out.ring.row h3).2
          have hfz2 : w.frozen? ⟨g, off + i * 4 + 2, none⟩ = false := by
            obtain ⟨_, _, h3, _⟩ := cellsR_at HQ.out
            exact (RowAt.cell H.out.ring.row h3).2
          have HBY := hide hby
          have HNEWS := hide hnews
          have HR := hide hr
          have hrl : 0 < r.bytes.length := by omega
          have hrl2 : r.bytes.length ≤ 4096 := by omega
          have hbv : r.bv = .slice (some ⟨r.bb, r.bo, none⟩) r.bytes.length r.cap := rfl
          have HIDM := hide hidm
          have HK : Hid (∀ w', MemR w' M v L → Calls Tryd.prog 43 #[.pointer (some ⟨M, 0, none⟩), .int .i64 id] w' fun e w'' => e = .returned (.bool (!r.dead)) ∧ MemR w'' M v (L.set (q.id - 1) { r with dead := true }) ∧ Chg [r.blk] w' w'') := hide fun w' hm => by
            have := rkill_any hm hr
            rw [← hidm] at this
            exact this
          have HLEN := hide hlen
          clear hby hnews hr hrr hrp hidm hid1 hlen
          go_wp2_with (first | (go_at_call 42; refine (by exact HBY.out : Calls Tryd.prog 42 _ _ _).mono ?_; rintro e w' ⟨rfl, rfl⟩; rw [hbv]))
          refine wp_region_tk [(0, 0), (1, 0), (2, 0), (3, 1), (4, 0), (5, 0), (6, 2), (7, 0), (8, 0), (9, 3)] 9 (fun w' => w'.cell? ⟨R, 2, none⟩ = some (.slice (some ⟨g, off, none⟩) Q.length cap)) (by kernel_rfl) (by kernel_rfl) (by kernel_rfl) rfl (by intro d v c a w h; cases d <;> exact h) hc2 ?_
          simp only [tkList, List.filterMap_cons, List.filterMap_nil, List.getElem?_toArray, List.getElem?_cons_zero, List.getElem?_cons_succ, Option.map_some, guardAt, Option.map_none, Oper.bare]
          apply wpTk_p rfl
          · intro _; first | rfl | (go_simp; rfl)
          (try simp only [Act.put]); (try go_simp)
          apply wpTk_p rfl
          · intro _; first | rfl | (go_simp; rfl)
          (try simp only [Act.put]); (try go_simp)
          apply wpTk_p rfl
          · intro _; first | rfl | (go_simp; rfl)
          (try simp only [Act.put]); (try go_simp)
          apply wpTk_h rfl
          · intro w' hS; (try dsimp only at hS); go_simp; rfl
          (try simp only [Act.put]); (try go_simp)
          apply wpTk_p rfl
          · intro _; first | rfl | (go_simp; rfl)
          (try simp only [Act.put]); (try go_simp)
          apply wpTk_p rfl
          · intro _; first | rfl | (go_simp; rfl)
          (try simp only [Act.put]); (try go_simp)
          apply wpTk_l rfl
          intro K hK
          refine wp_append_rowat _ (.const (.slice none 0 0)) (.tmp 54) 36 rfl 5 i5 (.int .u8 0) 1 1 Tryd.underlying36 hi5 hx0 hx1 hx2 rfl (.slice none 0 0) 0 [] rfl (RowAt.nil _ _ _) ⟨r.bb, r.bo, none⟩ r.bytes.length r.cap (bytesV r.bytes) rfl (by rw [bytesV_len]; simp) (by exact HNEWS.out) (oneCell_bytes _) hrl (by unfold maxLen; omega) (by omega) w.heap.size rfl ?_; intro gb ob cb w1 hr1 hch1 hg1 hlt1; simp only [Nat.zero_add, List.nil_append] at hr1 ⊢; have hch1 : Chg [] w w1 := ((Chg.refl [] w).drew).trans hch1 (by simp [Value.ownBlock]); have HG1 : Hid (w.heap.size ≤ gb) := hide (Nat.le_of_eq (hg1.resolve_left (by simp [Value.ownBlock])).symm); have hc1 : w1.cell? ⟨R, 1, none⟩ = some (.pointer (some ⟨M, 0, none⟩)) := (hch1.cell hRl (by simp)).trans hc1; have hc2 : w1.cell? ⟨R, 2, none⟩ = some (.slice (some ⟨g, off, none⟩) Q.length cap) := (hch1.cell hRl (by simp)).trans hc2; have hg2 : w1.cell? ⟨g, off + i * 4 + 2, none⟩ = _ := (hch1.cell hgl (by simp)).trans hg2; have hg3 : w1.cell? ⟨g, off + i * 4 + 3, none⟩ = _ := (hch1.cell hgl (by simp)).trans hg3; have hfz : w1.frozen? ⟨g, off + i * 4 + 3, none⟩ = false := (hch1.frozen hgl (by simp)).trans hfz; have hfz2 : w1.frozen? ⟨g, off + i * 4 + 2, none⟩ = false := (hch1.frozen hgl (by simp)).trans hfz2; have HR1 := hide hr1; have HC1 := hide hch1; clear hr1 hch1 hg1 hlt1
          refine hK _ _ ?_ ?_
          · (exact hc2)
          clear hK K
          (try simp only [Act.put]); (try go_simp)
          apply wpTk_p rfl
          · intro _; first | rfl | (go_simp; rfl)
          (try simp only [Act.put]); (try go_simp)
          apply wpTk_p rfl
          · intro _; first | rfl | (go_simp; rfl)
          (try simp only [Act.put]); (try go_simp)
          apply wpTk_e rfl
          intro K hK
          go_simp
          refine hK _ _ ?_
          clear hK K
          (try simp only [Act.put]); (try go_simp)
          apply wpTk_nil
          go_wp2_with (first | (go_at_call 43; refine (HK.out _ (by exact (rends_mid (u := _) (u2 := _) H.out HC1.out (i * 4 + 3) (i * 4 + 2)).2)).mono ?_; rintro e w5 ⟨rfl, hm5, hc5⟩))
          go_ret
          have hsp : Q = Q.take i ++ q :: Q.drop (i + 1) := by
            have h1 := List.getElem?_eq_some_iff.1 HQ.out
            obtain ⟨h2, h3⟩ := h1
            rw [← h3, List.getElem_cons_drop, List.take_append_drop]
          have hl1 : (Q.take i).length = i := by simp; omega
          have hH := H.out
          have hno' := HNO.out
          generalize Q.take i = Q1 at *
          generalize Q.drop (i + 1) = Q2 at *
          have hfin := rends_end (n := Q.length) (Q1 := Q1) (Q2 := Q2) (q := q) (st := st) (w1 := w1) (w3 := (w1.setCell ⟨g, off + i * 4 + 3, none⟩ (.slice (some ⟨gb, ob, none⟩) r.bytes.length cb)).setCell ⟨g, off + i * 4 + 2, none⟩ (.int .i64 st)) (by rw [← hsp]; exact hH) hs0 HST.out HR.out (by have h1 := HIDM.out; have h2 := hid; omega) HC1.out HR1.out HG1.out (by rw [hl1]) (rends_mid H.out HC1.out (i * 4 + 3) (i * 4 + 2)).1 hm5 hc5
          have ea := aEnd_some (absM L) (Q1.map RecL.abs) (Q2.map RecL.abs) q.abs st (by
            intro r hr
            obtain ⟨p, hp, rfl⟩ := List.mem_map.1 hr
            have := hno' p hp
            simpa [RecL.abs, hid] using this) (by simpa [RecL.abs] using hs0)
          rw [show List.map RecL.abs Q1 ++ q.abs :: List.map RecL.abs Q2 = Q.map RecL.abs by rw [hsp]; simp, show (q.abs.id : Int) = id from hid] at ea
          have him : (id - 1).toNat = q.id - 1 := by have := HIDM.out; omega
          rw [REndPost, ea]
          rw [← hsp] at hfin
          refine ⟨_, _, rfl, hfin.1, ?_, ?_, by simp, by rw [hsp]; simp, hfin.2⟩
          · rw [him]; exact abs_kill HR.out
          · rw [him]
            have hst := HST.out
            simp [RecL.abs, hst, absM, HR.out]
        · have hs0' : ¬ ((q.st : Int) = 0) := by omega
          go_wp2_with fail
          go_roundg (Q.length - (i + 1))
          case measure => omega
          case rel =>
            refine ⟨rfl, i + 1, by omega, by simp, rfl, fun x hx => ?_⟩
            rw [take_snoc HQ.out, List.mem_append] at hx
            rcases hx with hx | hx
            · exact HNO.out x hx
            · obtain rfl := List.mem_singleton.1 hx
              exact fun e => hs0 e.2
      · go_wp2_with fail
        go_roundg (Q.length - (i + 1))
        case measure => omega
        case rel =>
          refine ⟨rfl, i + 1, by omega, by simp, rfl, fun x hx => ?_⟩
          rw [take_snoc HQ.out, List.mem_append] at hx
          rcases hx with hx | hx
          · exact HNO.out x hx
          · obtain rfl := List.mem_singleton.1 hx
            exact fun e => hid e.1
    · obtain rfl : i = Q.length := by omega
      have hiz : ¬ ((Q.length : Int) < (Q.length : Int)) := by omega
      go_wp2_with fail
      go_ret
      have ea : aEnd (absM L) (Q.map RecL.abs) id st = (101, absM L, Q.map RecL.abs) := aEnd_none _ _ _ _ (by
        intro r hr
        obtain ⟨q, hq, rfl⟩ := List.mem_map.1 hr
        exact HNO.out q (by simpa using hq))
      rw [REndPost, ea]
      exact ⟨L, Q, rfl, H.out, rfl, rfl, rfl, rfl, Upd.refl _ _⟩
end Go.Proofs.YtliikmmcbbmppaaDoor
