/- Read of the reference's ring: the plain laws. -/
import Derived.Test.YtliikmmcbbmppaaDoorRPd
namespace Go.Proofs.YtliikmmcbbmppaaDoor
open Go.RowKit Go.ChangeMaps

def dropOff (cap off i size : Nat) : Nat := if cap = i then off else off + i * size

theorem run_drop {t e : TypeId} {size : Nat} {ti : TypeInfo} (ht : Tryd.prog.underlying t = some (.slice e)) (hi : Tryd.prog.info? e = some ti) (hs : ti.size = size) (g off n cap i : Nat) (hn : i ≤ n) (w : World) :
    (Instr.slice t (.slice (some ⟨g, off, none⟩) n cap) (some (.int .i64 (i : Int))) none none).run Tryd.prog w = .ok (.slice (some ⟨g, dropOff cap off i size, none⟩) (n - i) (cap - i)) w := by
  have hadd : ∀ k, (⟨g, off, none⟩ : Addr).add k = ⟨g, off + k, none⟩ := fun k => by unfold Addr.add; split <;> simp_all
  have h1 : (i : Int) ≤ (n : Int) := by omega
  by_cases h : cap = i
  · simp [Instr.slice, run_underlying ht, Instr.sliceBounds, sizeOf, typeInfo, hi, hs, h1, go_sem, dropOff, h]
  · simp [Instr.slice, run_underlying ht, Instr.sliceBounds, sizeOf, typeInfo, hi, hs, h1, go_sem, dropOff, h, hadd]

theorem RowAt.drop {w : World} {e size g off n cap i : Nat} {xs : List Value} (h : RowAt w e size (.slice (some ⟨g, off, none⟩) n cap) n xs) (hin : i ≤ n) :
    RowAt w e size (.slice (some ⟨g, dropOff cap off i size, none⟩) (n - i) (cap - i)) (n - i) (xs.drop (i * size)) := by
  obtain ⟨h1, h2⟩ := h
  rcases h2 with ⟨h2, _⟩ | ⟨g', off', cap', cur, h2, hg, a1, a2, a3, a4⟩
  · cases h2
  cases h2
  have hm : (n - i) * size + i * size = n * size := by rw [← Nat.add_mul, Nat.sub_add_cancel hin]
  have hm2 : (cap - i) * size + i * size = cap * size := by rw [← Nat.add_mul, Nat.sub_add_cancel (by omega)]
  refine ⟨by rw [List.length_drop, h1]; omega, .inr ⟨g, _, _, cur, rfl, hg, by omega, by omega, ?_, ?_⟩⟩
  · unfold dropOff; split <;> omega
  · unfold dropOff
    split
    · have : n = i := by omega
      subst this
      simp [List.drop_eq_nil_of_le (Nat.le_of_eq h1)]
    · rw [← a4, List.drop_take, List.drop_drop, show n * size - i * size = (n - i) * size by omega]
end Go.Proofs.YtliikmmcbbmppaaDoor
